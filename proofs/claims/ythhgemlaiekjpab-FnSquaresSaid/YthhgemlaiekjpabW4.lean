/- The walks: each function computes what its model tells. -/
import Derived.Test.YthhgemlaiekjpabW3
set_option linter.unusedVariables false
set_option linter.unusedSimpArgs false
namespace Go.Lab
open Go Go.Abs Go.Proofs
set_option maxRecDepth 20000
set_option linter.unusedVariables false
set_option linter.unusedSimpArgs false
/-! loop.example/g01195/spec.l01Text -/
theorem c_spec_l01Text {a0 : Sq} {h : Hp} {r : ByteArray} (hm : m_spec_l01Text a0 = some r)  :
    QC Try.prog 57 #[.agg (sqC a0).toArray] h (.string r) := by
 unfold m_spec_l01Text at hm
 refine CC.enter Try.func57 rfl Try.ntmps57 rfl ?_
 refine wpA_seq ?_
 refine wpA_region ?_
 refine Ops_loud rfl (LO.boxAgg rfl rfl rfl (fun b1 hb1 => ?_))
 refine Ops_quiet _ rfl rfl (QO.assign rfl rfl) ?_
 refine Ops_nil ?_
 refine thenA_n ?_
 refine wpA_seq ?_
 refine wpA_region ?_
 refine Ops_loud rfl (LO.sliceNil rfl sz22 sz5 rfl (fun b2 hb2 => ?_))
 simp only [upd_noneA] at hb2
 obtain ⟨n_b2_b1, hb2⟩ := hb2
 refine Ops_quiet _ rfl rfl (QO.assign rfl rfl) ?_
 refine Ops_nil ?_
 refine thenA_n ?_
 refine wpA_seq ?_
 refine wpA_seq ?_
 refine wpA_region ?_
 refine Ops_quiet _ rfl rfl (QO.assign rfl rfl) ?_
 refine Ops_nil ?_
 refine thenA_n ?_
 refine wpA_block ?_
 obtain ⟨R1, hR, hm⟩ := Option.bind_eq_some_iff.1 hm
 obtain ⟨k1, hk1⟩ := loopV_some hR
 clear hR
 refine wpA_mono (Q := fun e s' h' => match (generalizing := false) R1 with | .stop x id => e = .exit id ∧ ∃ (x1 : (List Int)) (x2 : Int) (b3 cap_b3 : Nat), (x1, x2) = x ∧ (upd (h) b1 (.own 28 (sqC a0) 101)) b3 = none ∧ x1.length ≤ cap_b3 ∧ cap_b3 ≤ maxLen ∧ Sub s' [(1, .pointer (some ⟨b1, 0, none⟩)), (3, .slice (some ⟨b3, 0, none⟩) x1.length cap_b3), (4, .int .i64 x2)] ∧ Le (upd (upd (h) b1 (.own 28 (sqC a0) 101)) b3 (.own 5 (ints .u8 x1) (cap_b3 * 1))) h' | .ret r => False | .next _ => False) ?_ ?_
 ·refine wpA_loop (fun k s' h' => ∃ (x1 : (List Int)) (x2 : Int) (b3 cap_b3 : Nat), loopW (m_spec_l01Text_l0 a0) k (x1, x2) = some R1 ∧ (upd (h) b1 (.own 28 (sqC a0) 101)) b3 = none ∧ x1.length ≤ cap_b3 ∧ cap_b3 ≤ maxLen ∧ Sub s' [(1, .pointer (some ⟨b1, 0, none⟩)), (3, .slice (some ⟨b3, 0, none⟩) x1.length cap_b3), (4, .int .i64 x2)] ∧ Le (upd (upd (h) b1 (.own 28 (sqC a0) 101)) b3 (.own 5 (ints .u8 x1) (cap_b3 * 1))) h') (m := k1) ⟨[], 0, b2, 0, hk1, (none_upd n_b2_b1.ne hb2), (by first | assumption | (simp; done) | omega), (by first | assumption | (simp only [maxLen]; omega)), (Sub.cons rfl (Sub.cons rfl (Sub.cons rfl Sub.nil))), (Le.upd_left (Le.upd_left (Le.under (Le.under (Le.refl _) hb1) hb2) ((upd_ne _ _ n_b2_b1.ne.symm).trans (upd_same _ _ _)) (by first | rfl | (simp; done))) (upd_same _ _ _) (by first | rfl | (simp; done)))⟩ ?_
  rintro k1 s' h' ⟨x1, x2, b3, cap_b3, hk1, hb3, hk_b3, hc_b3, hsub, hle⟩
  refine wpA_weaken hsub.ok hle ?_
  clear hsub hle s' h'
  simp only [upd_noneA] at hb3
  obtain ⟨n_b3_b1, hb3⟩ := hb3
  cases k1 with
  | zero => exact absurd hk1 (by simp [loopW])
  | succ k1 =>
   obtain ⟨o1, ho1, hk1⟩ := loopW_succ hk1
   unfold m_spec_l01Text_l0 at ho1
   try dsimp only at ho1
   refine wpA_seq ?_
   refine wpA_seq ?_
   refine wpA_region ?_
   refine Ops_quiet _ rfl rfl (QO.move rfl rfl) ?_
   refine Ops_quiet _ rfl rfl (QO.fieldAt (fo := 0) rfl sz28 rfl rfl sz2 rfl rfl) ?_
   refine Ops_quiet _ rfl rfl (QO.load rfl sz2 rfl rfl (by (refine (rd_own ((upd_ne _ _ n_b3_b1.ne.symm).trans (upd_same _ _ _)) _).trans ?_); exact rfl)) ?_
   refine Ops_quiet _ rfl rfl (QO.bin rfl rfl rfl rfl) ?_
   refine Ops_nil ?_
   refine thenA_n ?_
   refine wpA_cond rfl (fun g1 => ?_) (fun g1 => ?_)
   ·replace ho1 := cond_t ho1 g1
    refine wpA_skip ?_
    refine thenA_n ?_
    refine wpA_seq ?_
    refine wpA_block ?_
    refine wpA_seq ?_
    refine wpA_seq ?_
    refine wpA_region ?_
    refine Ops_quiet _ rfl rfl (QO.move rfl rfl) ?_
    refine Ops_quiet _ rfl rfl (QO.bin rfl rfl rfl rfl) ?_
    refine Ops_nil ?_
    refine thenA_n ?_
    refine wpA_cond rfl (fun g2 => ?_) (fun g2 => ?_)
    ·replace ho1 := cond_t ho1 g2
     refine wpA_region ?_
     refine Ops_quiet _ rfl rfl (QO.move rfl rfl) ?_
     refine Ops_loud rfl (LO.slice1 (r := ints .u8 [47]) rfl sz22 sz5 zr5 (by first | rfl | (simp [rowsC_length, rowsA_length, mpC_length, sqC_length, tbC_length, tabI_length, tabB_length, ints_length, plsC_length, trC_length, sqsC_length, strsC_length, boolsC_length, tbB_length, List.length_append, List.length_cons, List.length_nil, List.length_set, List.length_replicate, rep_length]; done)) (by decide) (by decide) rfl rfl (by first | rfl | (simp [rowsC_length, rowsA_length, mpC_length, sqC_length, tbC_length, tabI_length, tabB_length, ints_length, plsC_length, trC_length, sqsC_length, strsC_length, boolsC_length, tbB_length, List.length_append, List.length_cons, List.length_nil, List.length_set, List.length_replicate, rep_length]; done)) rfl (fun b4 hb4 => ?_))
     simp only [upd_noneA] at hb4
     obtain ⟨n_b4_b3, n_b4_b1, hb4⟩ := hb4
     have hq := chk ho1; clear ho1; obtain ⟨ck1, ho1⟩ := hq
     refine Ops_loud rfl (LO.append2 (ys := ints .u8 [47]) (k' := (x1 ++ [47]).length) (xs' := ints .u8 (x1 ++ [47])) rfl sz22 el5 rfl rfl (Del.drop n_b4_b3.ne (none_upd n_b4_b1.ne hb4) (Del.here (none_upd n_b3_b1.ne hb3))) (by first | assumption | omega) (by first | assumption | (simp only [maxLen]; omega)) (by first | rfl | (simp [rowsC_length, rowsA_length, mpC_length, sqC_length, tbC_length, tabI_length, tabB_length, ints_length, plsC_length, trC_length, sqsC_length, strsC_length, boolsC_length, tbB_length, List.length_append, List.length_cons, List.length_nil, List.length_set, List.length_replicate, rep_length]; done) | (simp [rowsC_length, rowsA_length, mpC_length, sqC_length, tbC_length, tabI_length, tabB_length, ints_length, plsC_length, trC_length, sqsC_length, strsC_length, boolsC_length, tbB_length, List.length_append, List.length_cons, List.length_nil, List.length_set, List.length_replicate, rep_length]; omega)) (by first | rfl | (simp [rowsC_length, rowsA_length, mpC_length, sqC_length, tbC_length, tabI_length, tabB_length, ints_length, plsC_length, trC_length, sqsC_length, strsC_length, boolsC_length, tbB_length, List.length_append, List.length_cons, List.length_nil, List.length_set, List.length_replicate, rep_length]; done) | (simp [rowsC_length, rowsA_length, mpC_length, sqC_length, tbC_length, tabI_length, tabB_length, ints_length, plsC_length, trC_length, sqsC_length, strsC_length, boolsC_length, tbB_length, List.length_append, List.length_cons, List.length_nil, List.length_set, List.length_replicate, rep_length]; omega)) (RdS.own (upd_same _ _ _)) (by first | assumption | exact tabI_one _ _ _ | exact tbC_one _ | exact sqC_one _ | exact tabB_one _ _ | exact ints_one _ _ | exact plsC_one _ | exact strsC_one _ | exact srcC_one _ _ _ _ | (intro v hv; simp at hv; subst hv; rfl)) (by decide) (by omega) (by decide) (by decide) rfl (by first | rfl | (simp [rowsC_length, rowsA_length, mpC_length, sqC_length, tbC_length, tabI_length, tabB_length, ints_length, plsC_length, trC_length, sqsC_length, strsC_length, boolsC_length, tbB_length, List.length_append, List.length_cons, List.length_nil, List.length_set, List.length_replicate, rep_length]; done) | (simp [rowsC_length, rowsA_length, mpC_length, sqC_length, tbC_length, tabI_length, tabB_length, ints_length, plsC_length, trC_length, sqsC_length, strsC_length, boolsC_length, tbB_length, List.length_append, List.length_cons, List.length_nil, List.length_set, List.length_replicate, rep_length]; omega)) (by first | rfl | (simp [ints, plsC, sqsC, boolsC, strsC]; done)) (fun b5 cap_b5 hb5 hk_b5 hc_b5 => ?_))
     simp only [upd_noneA] at hb5
     obtain ⟨n_b5_b1, hb5⟩ := hb5
     refine Ops_quiet _ rfl rfl (QO.assign rfl rfl) ?_
     refine Ops_nil ?_
     refine thenA_n ?_
     refine wpA_seq ?_
     refine wpA_region ?_
     refine Ops_quiet _ rfl rfl (QO.assign rfl rfl) ?_
     refine Ops_nil ?_
     refine thenA_n ?_
     refine wpA_block ?_
     obtain ⟨R2, hR, ho1⟩ := Option.bind_eq_some_iff.1 ho1
     obtain ⟨k2, hk2⟩ := loopV_some hR
     clear hR
     refine wpA_mono (Q := fun e s' h' => match (generalizing := false) R2 with | .stop x id => e = .exit id ∧ ∃ (x3 : (List Int)) (x4 : Int) (b6 cap_b6 : Nat), (x3, x4) = x ∧ (upd (h) b1 (.own 28 (sqC a0) 101)) b6 = none ∧ x3.length ≤ cap_b6 ∧ cap_b6 ≤ maxLen ∧ Sub s' [(1, .pointer (some ⟨b1, 0, none⟩)), (3, .slice (some ⟨b6, 0, none⟩) x3.length cap_b6), (4, .int .i64 x2), (5, .int .i64 x4)] ∧ Le (upd (upd (h) b1 (.own 28 (sqC a0) 101)) b6 (.own 5 (ints .u8 x3) (cap_b6 * 1))) h' | .ret r => False | .next _ => False) ?_ ?_
     ·refine wpA_loop (fun k s' h' => ∃ (x3 : (List Int)) (x4 : Int) (b6 cap_b6 : Nat), loopW (m_spec_l01Text_l1 a0 x2) k (x3, x4) = some R2 ∧ (upd (h) b1 (.own 28 (sqC a0) 101)) b6 = none ∧ x3.length ≤ cap_b6 ∧ cap_b6 ≤ maxLen ∧ Sub s' [(1, .pointer (some ⟨b1, 0, none⟩)), (3, .slice (some ⟨b6, 0, none⟩) x3.length cap_b6), (4, .int .i64 x2), (5, .int .i64 x4)] ∧ Le (upd (upd (h) b1 (.own 28 (sqC a0) 101)) b6 (.own 5 (ints .u8 x3) (cap_b6 * 1))) h') (m := k2) ⟨(x1 ++ [47]), 0, b5, cap_b5, hk2, (none_upd n_b5_b1.ne hb5), (by first | assumption | (simp; done) | omega), (by first | assumption | (simp only [maxLen]; omega)), (Sub.cons rfl (Sub.cons rfl (Sub.cons rfl (Sub.cons rfl Sub.nil)))), (Le.upd_left (Le.upd_left (Le.under (Le.under (Le.refl _) hb1) hb5) ((upd_ne _ _ n_b5_b1.ne.symm).trans (upd_same _ _ _)) (by first | rfl | (simp; done))) (upd_same _ _ _) (by first | rfl | (simp; done)))⟩ ?_
      rintro k2 s' h' ⟨x3, x4, b6, cap_b6, hk2, hb6, hk_b6, hc_b6, hsub, hle⟩
      refine wpA_weaken hsub.ok hle ?_
      clear hsub hle s' h'
      simp only [upd_noneA] at hb6
      obtain ⟨n_b6_b1, hb6⟩ := hb6
      cases k2 with
      | zero => exact absurd hk2 (by simp [loopW])
      | succ k2 =>
       obtain ⟨o2, ho2, hk2⟩ := loopW_succ hk2
       unfold m_spec_l01Text_l1 at ho2
       try dsimp only at ho2
       refine wpA_seq ?_
       refine wpA_seq ?_
       refine wpA_region ?_
       refine Ops_quiet _ rfl rfl (QO.move rfl rfl) ?_
       refine Ops_quiet _ rfl rfl (QO.fieldAt (fo := 0) rfl sz28 rfl rfl sz2 rfl rfl) ?_
       refine Ops_quiet _ rfl rfl (QO.load rfl sz2 rfl rfl (by (refine (rd_own ((upd_ne _ _ n_b6_b1.ne.symm).trans (upd_same _ _ _)) _).trans ?_); exact rfl)) ?_
       refine Ops_quiet _ rfl rfl (QO.bin rfl rfl rfl rfl) ?_
       refine Ops_nil ?_
       refine thenA_n ?_
       refine wpA_cond rfl (fun g3 => ?_) (fun g3 => ?_)
       ·replace ho2 := cond_t ho2 g3
        refine wpA_skip ?_
        refine thenA_n ?_
        refine wpA_seq ?_
        refine wpA_block ?_
        refine wpA_region ?_
        refine Ops_quiet _ rfl rfl (QO.move rfl rfl) ?_
        refine Ops_quiet _ rfl rfl (QO.move rfl rfl) ?_
        refine Ops_quiet _ rfl rfl (QO.move rfl rfl) ?_
        refine Ops_quiet _ rfl rfl (QO.fieldAt (fo := 1) rfl sz28 rfl rfl sz26 rfl rfl) ?_
        have hq := chk ho2; clear ho2; obtain ⟨ck2, ho2⟩ := hq
        refine Ops_quiet _ rfl rfl (QO.idxArr rfl sz26 sz24 rfl rfl (by omega) (by omega)) ?_
        have hq := chk ho2; clear ho2; obtain ⟨ck3, ho2⟩ := hq
        refine Ops_quiet _ rfl rfl (QO.idxArr rfl sz24 sz5 rfl rfl (by omega) (by omega)) ?_
        refine Ops_quiet _ rfl rfl (QO.load rfl sz5 rfl rfl (by (refine (rd_own ((upd_ne _ _ n_b6_b1.ne.symm).trans (upd_same _ _ _)) _).trans ?_); exact sqC_get (by omega) (by omega))) ?_
        refine Ops_quiet _ rfl rfl (QO.bin rfl rfl rfl rfl) ?_
        refine Ops_loud rfl (LO.slice1 (r := ints .u8 [(IntKind.u8.wrap (48 + (a0.t (x2).toNat (x4).toNat)))]) rfl sz22 sz5 zr5 (by first | rfl | (simp [rowsC_length, rowsA_length, mpC_length, sqC_length, tbC_length, tabI_length, tabB_length, ints_length, plsC_length, trC_length, sqsC_length, strsC_length, boolsC_length, tbB_length, List.length_append, List.length_cons, List.length_nil, List.length_set, List.length_replicate, rep_length]; done)) (by decide) (by decide) rfl rfl (by first | rfl | (simp [rowsC_length, rowsA_length, mpC_length, sqC_length, tbC_length, tabI_length, tabB_length, ints_length, plsC_length, trC_length, sqsC_length, strsC_length, boolsC_length, tbB_length, List.length_append, List.length_cons, List.length_nil, List.length_set, List.length_replicate, rep_length]; done)) rfl (fun b7 hb7 => ?_))
        simp only [upd_noneA] at hb7
        obtain ⟨n_b7_b6, n_b7_b1, hb7⟩ := hb7
        have hq := chk ho2; clear ho2; obtain ⟨ck4, ho2⟩ := hq
        refine Ops_loud rfl (LO.append2 (ys := ints .u8 [(IntKind.u8.wrap (48 + (a0.t (x2).toNat (x4).toNat)))]) (k' := (x3 ++ [(IntKind.u8.wrap (48 + (a0.t (x2).toNat (x4).toNat)))]).length) (xs' := ints .u8 (x3 ++ [(IntKind.u8.wrap (48 + (a0.t (x2).toNat (x4).toNat)))])) rfl sz22 el5 rfl rfl (Del.drop n_b7_b6.ne (none_upd n_b7_b1.ne hb7) (Del.here (none_upd n_b6_b1.ne hb6))) (by first | assumption | omega) (by first | assumption | (simp only [maxLen]; omega)) (by first | rfl | (simp [rowsC_length, rowsA_length, mpC_length, sqC_length, tbC_length, tabI_length, tabB_length, ints_length, plsC_length, trC_length, sqsC_length, strsC_length, boolsC_length, tbB_length, List.length_append, List.length_cons, List.length_nil, List.length_set, List.length_replicate, rep_length]; done) | (simp [rowsC_length, rowsA_length, mpC_length, sqC_length, tbC_length, tabI_length, tabB_length, ints_length, plsC_length, trC_length, sqsC_length, strsC_length, boolsC_length, tbB_length, List.length_append, List.length_cons, List.length_nil, List.length_set, List.length_replicate, rep_length]; omega)) (by first | rfl | (simp [rowsC_length, rowsA_length, mpC_length, sqC_length, tbC_length, tabI_length, tabB_length, ints_length, plsC_length, trC_length, sqsC_length, strsC_length, boolsC_length, tbB_length, List.length_append, List.length_cons, List.length_nil, List.length_set, List.length_replicate, rep_length]; done) | (simp [rowsC_length, rowsA_length, mpC_length, sqC_length, tbC_length, tabI_length, tabB_length, ints_length, plsC_length, trC_length, sqsC_length, strsC_length, boolsC_length, tbB_length, List.length_append, List.length_cons, List.length_nil, List.length_set, List.length_replicate, rep_length]; omega)) (RdS.own (upd_same _ _ _)) (by first | assumption | exact tabI_one _ _ _ | exact tbC_one _ | exact sqC_one _ | exact tabB_one _ _ | exact ints_one _ _ | exact plsC_one _ | exact strsC_one _ | exact srcC_one _ _ _ _ | (intro v hv; simp at hv; subst hv; rfl)) (by decide) (by omega) (by decide) (by decide) rfl (by first | rfl | (simp [rowsC_length, rowsA_length, mpC_length, sqC_length, tbC_length, tabI_length, tabB_length, ints_length, plsC_length, trC_length, sqsC_length, strsC_length, boolsC_length, tbB_length, List.length_append, List.length_cons, List.length_nil, List.length_set, List.length_replicate, rep_length]; done) | (simp [rowsC_length, rowsA_length, mpC_length, sqC_length, tbC_length, tabI_length, tabB_length, ints_length, plsC_length, trC_length, sqsC_length, strsC_length, boolsC_length, tbB_length, List.length_append, List.length_cons, List.length_nil, List.length_set, List.length_replicate, rep_length]; omega)) (by first | rfl | (simp [ints, plsC, sqsC, boolsC, strsC]; done)) (fun b8 cap_b8 hb8 hk_b8 hc_b8 => ?_))
        simp only [upd_noneA] at hb8
        obtain ⟨n_b8_b1, hb8⟩ := hb8
        refine Ops_quiet _ rfl rfl (QO.assign rfl rfl) ?_
        refine Ops_nil ?_
        refine blockA_n ?_
        refine thenA_n ?_
        refine wpA_region ?_
        refine Ops_quiet _ rfl rfl (QO.move rfl rfl) ?_
        refine Ops_quiet _ rfl rfl (QO.bin rfl rfl rfl rfl) ?_
        refine Ops_quiet _ rfl rfl (QO.assign rfl rfl) ?_
        refine Ops_nil ?_
        obtain rfl := Option.some.inj ho2
        dsimp only at hk2
        exact thenA_n ⟨k2, Nat.lt_succ_self _, _, _, b8, cap_b8, hk2, (none_upd n_b8_b1.ne hb8), (by first | assumption | (simp; done) | omega), (by first | assumption | (simp only [maxLen]; omega)), (Sub.cons rfl (Sub.cons rfl (Sub.cons rfl (Sub.cons rfl Sub.nil)))), (Le.upd_left (Le.upd_left (Le.under (Le.under (Le.refl _) hb1) hb8) ((upd_ne _ _ n_b8_b1.ne.symm).trans (upd_same _ _ _)) (by first | rfl | (simp; done))) (upd_same _ _ _) (by first | rfl | (simp; done)))⟩
       ·replace ho2 := cond_f ho2 g3
        refine wpA_exit ?_
        refine thenA_e ?_
        refine thenA_e ?_
        obtain rfl := Option.some.inj ho2
        obtain rfl := Option.some.inj hk2
        exact ⟨rfl, _, _, b6, cap_b6, rfl, (none_upd n_b6_b1.ne hb6), (by first | assumption | (simp; done) | omega), (by first | assumption | (simp only [maxLen]; omega)), (Sub.cons rfl (Sub.cons rfl (Sub.cons rfl (Sub.cons rfl Sub.nil)))), (Le.upd_left (Le.upd_left (Le.under (Le.under (Le.refl _) hb1) hb6) ((upd_ne _ _ n_b6_b1.ne.symm).trans (upd_same _ _ _)) (by first | rfl | (simp; done))) (upd_same _ _ _) (by first | rfl | (simp; done)))⟩
     ·intro e s' h' hq
      cases R2 with
      | next x => exact hq.elim
      | ret r => exact hq.elim
      | stop x id =>
       obtain ⟨rfl, x5, x6, b9, cap_b9, rfl, hb9, hk_b9, hc_b9, hsub1, hle1⟩ := hq
       try dsimp only at ho1
       simp only [upd_noneA] at hb9
       obtain ⟨n_b9_b1, hb9⟩ := hb9
       by_cases hid1 : id = 2
       ·subst hid1
        rw [if_pos rfl] at ho1
        refine blockA_s ?_
        refine blockA_n ?_
        refine thenA_n ?_
        refine wpA_weaken hsub1.ok hle1 ?_
        refine wpA_region ?_
        refine Ops_quiet _ rfl rfl (QO.move rfl rfl) ?_
        refine Ops_quiet _ rfl rfl (QO.bin rfl rfl rfl rfl) ?_
        refine Ops_quiet _ rfl rfl (QO.assign rfl rfl) ?_
        refine Ops_nil ?_
        obtain rfl := Option.some.inj ho1
        dsimp only at hk1
        exact thenA_n ⟨k1, Nat.lt_succ_self _, _, _, b9, cap_b9, hk1, (none_upd n_b9_b1.ne hb9), (by first | assumption | (simp; done) | omega), (by first | assumption | (simp only [maxLen]; omega)), (Sub.cons rfl (Sub.cons rfl (Sub.cons rfl Sub.nil))), (Le.upd_left (Le.upd_left (Le.under (Le.under (Le.refl _) hb1) hb9) ((upd_ne _ _ n_b9_b1.ne.symm).trans (upd_same _ _ _)) (by first | rfl | (simp; done))) (upd_same _ _ _) (by first | rfl | (simp; done)))⟩
       rw [if_neg hid1] at ho1
       exact absurd ho1 (by simp)
    ·replace ho1 := cond_f ho1 g2
     refine wpA_skip ?_
     refine thenA_n ?_
     refine wpA_seq ?_
     refine wpA_region ?_
     refine Ops_quiet _ rfl rfl (QO.assign rfl rfl) ?_
     refine Ops_nil ?_
     refine thenA_n ?_
     refine wpA_block ?_
     obtain ⟨R3, hR, ho1⟩ := Option.bind_eq_some_iff.1 ho1
     obtain ⟨k3, hk3⟩ := loopV_some hR
     clear hR
     refine wpA_mono (Q := fun e s' h' => match (generalizing := false) R3 with | .stop x id => e = .exit id ∧ ∃ (x7 : (List Int)) (x8 : Int) (b10 cap_b10 : Nat), (x7, x8) = x ∧ (upd (h) b1 (.own 28 (sqC a0) 101)) b10 = none ∧ x7.length ≤ cap_b10 ∧ cap_b10 ≤ maxLen ∧ Sub s' [(1, .pointer (some ⟨b1, 0, none⟩)), (3, .slice (some ⟨b10, 0, none⟩) x7.length cap_b10), (4, .int .i64 x2), (5, .int .i64 x8)] ∧ Le (upd (upd (h) b1 (.own 28 (sqC a0) 101)) b10 (.own 5 (ints .u8 x7) (cap_b10 * 1))) h' | .ret r => False | .next _ => False) ?_ ?_
     ·refine wpA_loop (fun k s' h' => ∃ (x7 : (List Int)) (x8 : Int) (b10 cap_b10 : Nat), loopW (m_spec_l01Text_l2 a0 x2) k (x7, x8) = some R3 ∧ (upd (h) b1 (.own 28 (sqC a0) 101)) b10 = none ∧ x7.length ≤ cap_b10 ∧ cap_b10 ≤ maxLen ∧ Sub s' [(1, .pointer (some ⟨b1, 0, none⟩)), (3, .slice (some ⟨b10, 0, none⟩) x7.length cap_b10), (4, .int .i64 x2), (5, .int .i64 x8)] ∧ Le (upd (upd (h) b1 (.own 28 (sqC a0) 101)) b10 (.own 5 (ints .u8 x7) (cap_b10 * 1))) h') (m := k3) ⟨x1, 0, b3, cap_b3, hk3, (none_upd n_b3_b1.ne hb3), (by first | assumption | (simp; done) | omega), (by first | assumption | (simp only [maxLen]; omega)), (Sub.cons rfl (Sub.cons rfl (Sub.cons rfl (Sub.cons rfl Sub.nil)))), (Le.upd_left (Le.upd_left (Le.under (Le.under (Le.refl _) hb1) hb3) ((upd_ne _ _ n_b3_b1.ne.symm).trans (upd_same _ _ _)) (by first | rfl | (simp; done))) (upd_same _ _ _) (by first | rfl | (simp; done)))⟩ ?_
      rintro k3 s' h' ⟨x7, x8, b10, cap_b10, hk3, hb10, hk_b10, hc_b10, hsub, hle⟩
      refine wpA_weaken hsub.ok hle ?_
      clear hsub hle s' h'
      simp only [upd_noneA] at hb10
      obtain ⟨n_b10_b1, hb10⟩ := hb10
      cases k3 with
      | zero => exact absurd hk3 (by simp [loopW])
      | succ k3 =>
       obtain ⟨o3, ho3, hk3⟩ := loopW_succ hk3
       unfold m_spec_l01Text_l2 at ho3
       try dsimp only at ho3
       refine wpA_seq ?_
       refine wpA_seq ?_
       refine wpA_region ?_
       refine Ops_quiet _ rfl rfl (QO.move rfl rfl) ?_
       refine Ops_quiet _ rfl rfl (QO.fieldAt (fo := 0) rfl sz28 rfl rfl sz2 rfl rfl) ?_
       refine Ops_quiet _ rfl rfl (QO.load rfl sz2 rfl rfl (by (refine (rd_own ((upd_ne _ _ n_b10_b1.ne.symm).trans (upd_same _ _ _)) _).trans ?_); exact rfl)) ?_
       refine Ops_quiet _ rfl rfl (QO.bin rfl rfl rfl rfl) ?_
       refine Ops_nil ?_
       refine thenA_n ?_
       refine wpA_cond rfl (fun g4 => ?_) (fun g4 => ?_)
       ·replace ho3 := cond_t ho3 g4
        refine wpA_skip ?_
        refine thenA_n ?_
        refine wpA_seq ?_
        refine wpA_block ?_
        refine wpA_region ?_
        refine Ops_quiet _ rfl rfl (QO.move rfl rfl) ?_
        refine Ops_quiet _ rfl rfl (QO.move rfl rfl) ?_
        refine Ops_quiet _ rfl rfl (QO.move rfl rfl) ?_
        refine Ops_quiet _ rfl rfl (QO.fieldAt (fo := 1) rfl sz28 rfl rfl sz26 rfl rfl) ?_
        have hq := chk ho3; clear ho3; obtain ⟨ck5, ho3⟩ := hq
        refine Ops_quiet _ rfl rfl (QO.idxArr rfl sz26 sz24 rfl rfl (by omega) (by omega)) ?_
        have hq := chk ho3; clear ho3; obtain ⟨ck6, ho3⟩ := hq
        refine Ops_quiet _ rfl rfl (QO.idxArr rfl sz24 sz5 rfl rfl (by omega) (by omega)) ?_
        refine Ops_quiet _ rfl rfl (QO.load rfl sz5 rfl rfl (by (refine (rd_own ((upd_ne _ _ n_b10_b1.ne.symm).trans (upd_same _ _ _)) _).trans ?_); exact sqC_get (by omega) (by omega))) ?_
        refine Ops_quiet _ rfl rfl (QO.bin rfl rfl rfl rfl) ?_
        refine Ops_loud rfl (LO.slice1 (r := ints .u8 [(IntKind.u8.wrap (48 + (a0.t (x2).toNat (x8).toNat)))]) rfl sz22 sz5 zr5 (by first | rfl | (simp [rowsC_length, rowsA_length, mpC_length, sqC_length, tbC_length, tabI_length, tabB_length, ints_length, plsC_length, trC_length, sqsC_length, strsC_length, boolsC_length, tbB_length, List.length_append, List.length_cons, List.length_nil, List.length_set, List.length_replicate, rep_length]; done)) (by decide) (by decide) rfl rfl (by first | rfl | (simp [rowsC_length, rowsA_length, mpC_length, sqC_length, tbC_length, tabI_length, tabB_length, ints_length, plsC_length, trC_length, sqsC_length, strsC_length, boolsC_length, tbB_length, List.length_append, List.length_cons, List.length_nil, List.length_set, List.length_replicate, rep_length]; done)) rfl (fun b11 hb11 => ?_))
        simp only [upd_noneA] at hb11
        obtain ⟨n_b11_b10, n_b11_b1, hb11⟩ := hb11
        have hq := chk ho3; clear ho3; obtain ⟨ck7, ho3⟩ := hq
        refine Ops_loud rfl (LO.append2 (ys := ints .u8 [(IntKind.u8.wrap (48 + (a0.t (x2).toNat (x8).toNat)))]) (k' := (x7 ++ [(IntKind.u8.wrap (48 + (a0.t (x2).toNat (x8).toNat)))]).length) (xs' := ints .u8 (x7 ++ [(IntKind.u8.wrap (48 + (a0.t (x2).toNat (x8).toNat)))])) rfl sz22 el5 rfl rfl (Del.drop n_b11_b10.ne (none_upd n_b11_b1.ne hb11) (Del.here (none_upd n_b10_b1.ne hb10))) (by first | assumption | omega) (by first | assumption | (simp only [maxLen]; omega)) (by first | rfl | (simp [rowsC_length, rowsA_length, mpC_length, sqC_length, tbC_length, tabI_length, tabB_length, ints_length, plsC_length, trC_length, sqsC_length, strsC_length, boolsC_length, tbB_length, List.length_append, List.length_cons, List.length_nil, List.length_set, List.length_replicate, rep_length]; done) | (simp [rowsC_length, rowsA_length, mpC_length, sqC_length, tbC_length, tabI_length, tabB_length, ints_length, plsC_length, trC_length, sqsC_length, strsC_length, boolsC_length, tbB_length, List.length_append, List.length_cons, List.length_nil, List.length_set, List.length_replicate, rep_length]; omega)) (by first | rfl | (simp [rowsC_length, rowsA_length, mpC_length, sqC_length, tbC_length, tabI_length, tabB_length, ints_length, plsC_length, trC_length, sqsC_length, strsC_length, boolsC_length, tbB_length, List.length_append, List.length_cons, List.length_nil, List.length_set, List.length_replicate, rep_length]; done) | (simp [rowsC_length, rowsA_length, mpC_length, sqC_length, tbC_length, tabI_length, tabB_length, ints_length, plsC_length, trC_length, sqsC_length, strsC_length, boolsC_length, tbB_length, List.length_append, List.length_cons, List.length_nil, List.length_set, List.length_replicate, rep_length]; omega)) (RdS.own (upd_same _ _ _)) (by first | assumption | exact tabI_one _ _ _ | exact tbC_one _ | exact sqC_one _ | exact tabB_one _ _ | exact ints_one _ _ | exact plsC_one _ | exact strsC_one _ | exact srcC_one _ _ _ _ | (intro v hv; simp at hv; subst hv; rfl)) (by decide) (by omega) (by decide) (by decide) rfl (by first | rfl | (simp [rowsC_length, rowsA_length, mpC_length, sqC_length, tbC_length, tabI_length, tabB_length, ints_length, plsC_length, trC_length, sqsC_length, strsC_length, boolsC_length, tbB_length, List.length_append, List.length_cons, List.length_nil, List.length_set, List.length_replicate, rep_length]; done) | (simp [rowsC_length, rowsA_length, mpC_length, sqC_length, tbC_length, tabI_length, tabB_length, ints_length, plsC_length, trC_length, sqsC_length, strsC_length, boolsC_length, tbB_length, List.length_append, List.length_cons, List.length_nil, List.length_set, List.length_replicate, rep_length]; omega)) (by first | rfl | (simp [ints, plsC, sqsC, boolsC, strsC]; done)) (fun b12 cap_b12 hb12 hk_b12 hc_b12 => ?_))
        simp only [upd_noneA] at hb12
        obtain ⟨n_b12_b1, hb12⟩ := hb12
        refine Ops_quiet _ rfl rfl (QO.assign rfl rfl) ?_
        refine Ops_nil ?_
        refine blockA_n ?_
        refine thenA_n ?_
        refine wpA_region ?_
        refine Ops_quiet _ rfl rfl (QO.move rfl rfl) ?_
        refine Ops_quiet _ rfl rfl (QO.bin rfl rfl rfl rfl) ?_
        refine Ops_quiet _ rfl rfl (QO.assign rfl rfl) ?_
        refine Ops_nil ?_
        obtain rfl := Option.some.inj ho3
        dsimp only at hk3
        exact thenA_n ⟨k3, Nat.lt_succ_self _, _, _, b12, cap_b12, hk3, (none_upd n_b12_b1.ne hb12), (by first | assumption | (simp; done) | omega), (by first | assumption | (simp only [maxLen]; omega)), (Sub.cons rfl (Sub.cons rfl (Sub.cons rfl (Sub.cons rfl Sub.nil)))), (Le.upd_left (Le.upd_left (Le.under (Le.under (Le.refl _) hb1) hb12) ((upd_ne _ _ n_b12_b1.ne.symm).trans (upd_same _ _ _)) (by first | rfl | (simp; done))) (upd_same _ _ _) (by first | rfl | (simp; done)))⟩
       ·replace ho3 := cond_f ho3 g4
        refine wpA_exit ?_
        refine thenA_e ?_
        refine thenA_e ?_
        obtain rfl := Option.some.inj ho3
        obtain rfl := Option.some.inj hk3
        exact ⟨rfl, _, _, b10, cap_b10, rfl, (none_upd n_b10_b1.ne hb10), (by first | assumption | (simp; done) | omega), (by first | assumption | (simp only [maxLen]; omega)), (Sub.cons rfl (Sub.cons rfl (Sub.cons rfl (Sub.cons rfl Sub.nil)))), (Le.upd_left (Le.upd_left (Le.under (Le.under (Le.refl _) hb1) hb10) ((upd_ne _ _ n_b10_b1.ne.symm).trans (upd_same _ _ _)) (by first | rfl | (simp; done))) (upd_same _ _ _) (by first | rfl | (simp; done)))⟩
     ·intro e s' h' hq
      cases R3 with
      | next x => exact hq.elim
      | ret r => exact hq.elim
      | stop x id =>
       obtain ⟨rfl, x9, x10, b13, cap_b13, rfl, hb13, hk_b13, hc_b13, hsub2, hle2⟩ := hq
       try dsimp only at ho1
       simp only [upd_noneA] at hb13
       obtain ⟨n_b13_b1, hb13⟩ := hb13
       by_cases hid2 : id = 2
       ·subst hid2
        rw [if_pos rfl] at ho1
        refine blockA_s ?_
        refine blockA_n ?_
        refine thenA_n ?_
        refine wpA_weaken hsub2.ok hle2 ?_
        refine wpA_region ?_
        refine Ops_quiet _ rfl rfl (QO.move rfl rfl) ?_
        refine Ops_quiet _ rfl rfl (QO.bin rfl rfl rfl rfl) ?_
        refine Ops_quiet _ rfl rfl (QO.assign rfl rfl) ?_
        refine Ops_nil ?_
        obtain rfl := Option.some.inj ho1
        dsimp only at hk1
        exact thenA_n ⟨k1, Nat.lt_succ_self _, _, _, b13, cap_b13, hk1, (none_upd n_b13_b1.ne hb13), (by first | assumption | (simp; done) | omega), (by first | assumption | (simp only [maxLen]; omega)), (Sub.cons rfl (Sub.cons rfl (Sub.cons rfl Sub.nil))), (Le.upd_left (Le.upd_left (Le.under (Le.under (Le.refl _) hb1) hb13) ((upd_ne _ _ n_b13_b1.ne.symm).trans (upd_same _ _ _)) (by first | rfl | (simp; done))) (upd_same _ _ _) (by first | rfl | (simp; done)))⟩
       rw [if_neg hid2] at ho1
       exact absurd ho1 (by simp)
   ·replace ho1 := cond_f ho1 g1
    refine wpA_exit ?_
    refine thenA_e ?_
    refine thenA_e ?_
    obtain rfl := Option.some.inj ho1
    obtain rfl := Option.some.inj hk1
    exact ⟨rfl, _, _, b3, cap_b3, rfl, (none_upd n_b3_b1.ne hb3), (by first | assumption | (simp; done) | omega), (by first | assumption | (simp only [maxLen]; omega)), (Sub.cons rfl (Sub.cons rfl (Sub.cons rfl Sub.nil))), (Le.upd_left (Le.upd_left (Le.under (Le.under (Le.refl _) hb1) hb3) ((upd_ne _ _ n_b3_b1.ne.symm).trans (upd_same _ _ _)) (by first | rfl | (simp; done))) (upd_same _ _ _) (by first | rfl | (simp; done)))⟩
 ·intro e s' h' hq
  cases R1 with
  | next x => exact hq.elim
  | ret r => exact hq.elim
  | stop x id =>
   obtain ⟨rfl, x11, x12, b14, cap_b14, rfl, hb14, hk_b14, hc_b14, hsub3, hle3⟩ := hq
   try dsimp only at hm
   simp only [upd_noneA] at hb14
   obtain ⟨n_b14_b1, hb14⟩ := hb14
   by_cases hid3 : id = 0
   ·subst hid3
    rw [if_pos rfl] at hm
    refine blockA_s ?_
    refine thenA_n ?_
    refine wpA_weaken hsub3.ok hle3 ?_
    refine wpA_seq ?_
    refine wpA_region ?_
    refine Ops_quiet _ rfl rfl (QO.move rfl rfl) ?_
    refine Ops_quiet _ rfl rfl (QO.bytesStr (l := x11) rfl sz22 sz5 sz9 rfl (by first | rfl | (simp; done)) (RdS.own (upd_same _ _ _))) ?_
    refine Ops_quiet _ rfl rfl (QO.assign rfl rfl) ?_
    refine Ops_nil ?_
    refine thenA_n ?_
    refine wpA_ret ?_
    obtain rfl := Option.some.inj hm
    exact retA_r (h2 := h) (Res.one rfl (rfl)) (Le.under (Le.under (Le.refl _) hb1) hb14) ⟨rfl, rfl⟩
   rw [if_neg hid3] at hm
   exact absurd hm (by simp)

/-! loop.example/g01195/spec.l01Damage -/
theorem c_spec_l01Damage {a0 : Rng} {p0 : Nat} {l_s : List Int} {A_s : Option Addr} {c_s : Nat} {a1 : ByteArray} {h : Hp} {r : ByteArray × Rng} (hm : m_spec_l01Damage a0 l_s a1 = some r) (hs_s : RdS h A_s (ints .u8 l_s)) (h_p0 : h p0 = none) :
    CC Try.prog 58 #[.pointer (some ⟨p0, 0, none⟩), .string a1] (upd (h) p0 (.own 74 (srcC A_s l_s.length c_s a0) 3)) (fun v h' => v = .string r.1 ∧ h' = upd (h) p0 (.own 74 (srcC A_s l_s.length c_s r.2) 3)) := by
 unfold m_spec_l01Damage at hm
 refine CC.enter Try.func58 rfl Try.ntmps58 rfl ?_
 refine wpA_seq ?_
 refine wpA_region ?_
 refine Ops_quiet _ rfl rfl (QO.assign rfl rfl) ?_
 refine Ops_nil ?_
 refine thenA_n ?_
 refine wpA_seq ?_
 refine wpA_region ?_
 refine Ops_loud rfl (LO.slice' [(0, .string ((ByteArray.mk #[48]))), (1, .string ((ByteArray.mk #[49]))), (2, .string ((ByteArray.mk #[50]))), (3, .string ((ByteArray.mk #[57]))), (4, .string ((ByteArray.mk #[120]))), (5, .string ((ByteArray.mk #[42]))), (6, .string ((ByteArray.mk #[47]))), (7, .string ((ByteArray.mk #[92]))), (8, .string ((ByteArray.mk #[61]))), (9, .string ((ByteArray.mk #[40]))), (10, .string ((ByteArray.mk #[41]))), (11, .string ((ByteArray.mk #[32]))), (12, .string ((ByteArray.mk #[10])))] (r := strsC [((ByteArray.mk #[48])), ((ByteArray.mk #[49])), ((ByteArray.mk #[50])), ((ByteArray.mk #[57])), ((ByteArray.mk #[120])), ((ByteArray.mk #[42])), ((ByteArray.mk #[47])), ((ByteArray.mk #[92])), ((ByteArray.mk #[61])), ((ByteArray.mk #[40])), ((ByteArray.mk #[41])), ((ByteArray.mk #[32])), ((ByteArray.mk #[10]))]) rfl sz78 sz9 zr9 (by first | rfl | (simp [rowsC_length, rowsA_length, mpC_length, sqC_length, tbC_length, tabI_length, tabB_length, ints_length, plsC_length, trC_length, sqsC_length, strsC_length, boolsC_length, tbB_length, List.length_append, List.length_cons, List.length_nil, List.length_set, List.length_replicate, rep_length]; done)) (by decide) (by decide) (by decide) rfl rfl (by first | rfl | (simp [rowsC_length, rowsA_length, mpC_length, sqC_length, tbC_length, tabI_length, tabB_length, ints_length, plsC_length, trC_length, sqsC_length, strsC_length, boolsC_length, tbB_length, List.length_append, List.length_cons, List.length_nil, List.length_set, List.length_replicate, rep_length]; done)) rfl (fun b1 hb1 => ?_))
 simp only [upd_noneA] at hb1
 obtain ⟨n_b1_p0, hb1⟩ := hb1
 refine Ops_quiet _ rfl rfl (QO.assign rfl rfl) ?_
 refine Ops_nil ?_
 refine thenA_n ?_
 refine wpA_seq ?_
 refine wpA_region ?_
 refine Ops_quiet _ rfl rfl (QO.move rfl rfl) ?_
 refine Ops_quiet _ rfl rfl (QO.move rfl rfl) ?_
 refine Ops_quiet _ rfl rfl (QO.move rfl rfl) ?_
 refine Ops_quiet _ rfl rfl (QO.lenSl rfl sz78 rfl) ?_
 have hq := Option.bind_eq_some_iff.1 hm; clear hm; obtain ⟨r1, hr1, hm⟩ := hq
 have hd1 : Del (upd (upd (h) p0 (.own 74 (srcC A_s l_s.length c_s a0) 3)) b1 (.own 9 (strsC [((ByteArray.mk #[48])), ((ByteArray.mk #[49])), ((ByteArray.mk #[50])), ((ByteArray.mk #[57])), ((ByteArray.mk #[120])), ((ByteArray.mk #[42])), ((ByteArray.mk #[47])), ((ByteArray.mk #[92])), ((ByteArray.mk #[61])), ((ByteArray.mk #[40])), ((ByteArray.mk #[41])), ((ByteArray.mk #[32])), ((ByteArray.mk #[10]))]) (13 * 1))) p0 (.own 74 (srcC A_s l_s.length c_s a0) 3) (upd (h) b1 (.own 9 (strsC [((ByteArray.mk #[48])), ((ByteArray.mk #[49])), ((ByteArray.mk #[50])), ((ByteArray.mk #[57])), ((ByteArray.mk #[120])), ((ByteArray.mk #[42])), ((ByteArray.mk #[47])), ((ByteArray.mk #[92])), ((ByteArray.mk #[61])), ((ByteArray.mk #[40])), ((ByteArray.mk #[41])), ((ByteArray.mk #[32])), ((ByteArray.mk #[10]))]) (13 * 1))) := (Del.there n_b1_p0.ne.symm (Del.here h_p0))
 refine Ops_call _ _ rfl rfl (EO.fn rfl Try.func54 rfl rfl (Evs.cons rfl (Evs.cons rfl Evs.nil))) (CC.mono (CC.atLe (c_spec_l01Next (h := upd (h) b1 (.own 9 (strsC [((ByteArray.mk #[48])), ((ByteArray.mk #[49])), ((ByteArray.mk #[50])), ((ByteArray.mk #[57])), ((ByteArray.mk #[120])), ((ByteArray.mk #[42])), ((ByteArray.mk #[47])), ((ByteArray.mk #[92])), ((ByteArray.mk #[61])), ((ByteArray.mk #[40])), ((ByteArray.mk #[41])), ((ByteArray.mk #[32])), ((ByteArray.mk #[10]))]) (13 * 1))) hr1 (RdS.le hs_s (Le.under (Le.refl _) hb1)) hd1.none) hd1.le) ?_)
 rintro _ _ ⟨rfl, rfl⟩
 have hq := chk hm; clear hm; obtain ⟨ck1, hm⟩ := hq
 refine Ops_quiet _ rfl rfl (QO.idxSl rfl sz78 sz9 rfl rfl (by omega) (by omega)) ?_
 refine Ops_quiet _ rfl rfl (QO.load rfl sz9 rfl rfl (by (refine (rd_own ((upd_ne _ _ n_b1_p0.ne).trans (upd_same _ _ _)) _).trans ?_); exact strsC_get01 (by first | omega | (simp only [List.length_cons, List.length_nil]; omega)))) ?_
 refine Ops_quiet _ rfl rfl (QO.assign rfl rfl) ?_
 refine Ops_nil ?_
 refine thenA_n ?_
 refine wpA_seq ?_
 refine wpA_seq ?_
 refine wpA_region ?_
 refine Ops_quiet _ rfl rfl (QO.move rfl rfl) ?_
 refine Ops_quiet _ rfl rfl (QO.lenStr rfl sz9 rfl) ?_
 refine Ops_quiet _ rfl rfl (QO.bin rfl rfl rfl rfl) ?_
 refine Ops_nil ?_
 refine thenA_n ?_
 refine wpA_cond rfl (fun g1 => ?_) (fun g1 => ?_)
 ·replace hm := cond_t hm g1
  refine wpA_seq ?_
  refine wpA_region ?_
  refine Ops_quiet _ rfl rfl (QO.move rfl rfl) ?_
  refine Ops_quiet _ rfl rfl (QO.assign rfl rfl) ?_
  refine Ops_nil ?_
  refine thenA_n ?_
  refine wpA_ret ?_
  refine thenA_r ?_
  obtain rfl := Option.some.inj hm
  exact retA_r (h2 := upd (h) p0 (.own 74 (srcC A_s l_s.length c_s r1.2) 3)) (Res.one rfl (rfl)) (Le.upd_left (Le.under (Le.under (Le.refl _) hb1) h_p0) (upd_same _ _ _) (by first | rfl | (simp; done))) ⟨rfl, rfl⟩
 ·replace hm := cond_f hm g1
  refine wpA_skip ?_
  refine thenA_n ?_
  refine wpA_seq ?_
  refine wpA_region ?_
  refine Ops_quiet _ rfl rfl (QO.move rfl rfl) ?_
  refine Ops_quiet _ rfl rfl (QO.move rfl rfl) ?_
  refine Ops_quiet _ rfl rfl (QO.lenStr rfl sz9 rfl) ?_
  have hq := Option.bind_eq_some_iff.1 hm; clear hm; obtain ⟨r2, hr2, hm⟩ := hq
  have hd2 : Del (upd (upd (h) b1 (.own 9 (strsC [((ByteArray.mk #[48])), ((ByteArray.mk #[49])), ((ByteArray.mk #[50])), ((ByteArray.mk #[57])), ((ByteArray.mk #[120])), ((ByteArray.mk #[42])), ((ByteArray.mk #[47])), ((ByteArray.mk #[92])), ((ByteArray.mk #[61])), ((ByteArray.mk #[40])), ((ByteArray.mk #[41])), ((ByteArray.mk #[32])), ((ByteArray.mk #[10]))]) (13 * 1))) p0 (.own 74 (srcC A_s l_s.length c_s r1.2) 3)) p0 (.own 74 (srcC A_s l_s.length c_s r1.2) 3) (upd (h) b1 (.own 9 (strsC [((ByteArray.mk #[48])), ((ByteArray.mk #[49])), ((ByteArray.mk #[50])), ((ByteArray.mk #[57])), ((ByteArray.mk #[120])), ((ByteArray.mk #[42])), ((ByteArray.mk #[47])), ((ByteArray.mk #[92])), ((ByteArray.mk #[61])), ((ByteArray.mk #[40])), ((ByteArray.mk #[41])), ((ByteArray.mk #[32])), ((ByteArray.mk #[10]))]) (13 * 1))) := (Del.here (none_upd n_b1_p0.ne.symm h_p0))
  refine Ops_call _ _ rfl rfl (EO.fn rfl Try.func54 rfl rfl (Evs.cons rfl (Evs.cons rfl Evs.nil))) (CC.mono (CC.atLe (c_spec_l01Next (h := upd (h) b1 (.own 9 (strsC [((ByteArray.mk #[48])), ((ByteArray.mk #[49])), ((ByteArray.mk #[50])), ((ByteArray.mk #[57])), ((ByteArray.mk #[120])), ((ByteArray.mk #[42])), ((ByteArray.mk #[47])), ((ByteArray.mk #[92])), ((ByteArray.mk #[61])), ((ByteArray.mk #[40])), ((ByteArray.mk #[41])), ((ByteArray.mk #[32])), ((ByteArray.mk #[10]))]) (13 * 1))) hr2 (RdS.le hs_s (Le.under (Le.refl _) hb1)) hd2.none) hd2.le) ?_)
  rintro _ _ ⟨rfl, rfl⟩
  refine Ops_quiet _ rfl rfl (QO.assign rfl rfl) ?_
  refine Ops_nil ?_
  refine thenA_n ?_
  refine wpA_seq ?_
  refine wpA_seq ?_
  refine wpA_region ?_
  refine Ops_quiet _ rfl rfl (QO.move rfl rfl) ?_
  have hq := Option.bind_eq_some_iff.1 hm; clear hm; obtain ⟨r3, hr3, hm⟩ := hq
  have hd3 : Del (upd (upd (h) b1 (.own 9 (strsC [((ByteArray.mk #[48])), ((ByteArray.mk #[49])), ((ByteArray.mk #[50])), ((ByteArray.mk #[57])), ((ByteArray.mk #[120])), ((ByteArray.mk #[42])), ((ByteArray.mk #[47])), ((ByteArray.mk #[92])), ((ByteArray.mk #[61])), ((ByteArray.mk #[40])), ((ByteArray.mk #[41])), ((ByteArray.mk #[32])), ((ByteArray.mk #[10]))]) (13 * 1))) p0 (.own 74 (srcC A_s l_s.length c_s r2.2) 3)) p0 (.own 74 (srcC A_s l_s.length c_s r2.2) 3) (upd (h) b1 (.own 9 (strsC [((ByteArray.mk #[48])), ((ByteArray.mk #[49])), ((ByteArray.mk #[50])), ((ByteArray.mk #[57])), ((ByteArray.mk #[120])), ((ByteArray.mk #[42])), ((ByteArray.mk #[47])), ((ByteArray.mk #[92])), ((ByteArray.mk #[61])), ((ByteArray.mk #[40])), ((ByteArray.mk #[41])), ((ByteArray.mk #[32])), ((ByteArray.mk #[10]))]) (13 * 1))) := (Del.here (none_upd n_b1_p0.ne.symm h_p0))
  refine Ops_call _ _ rfl rfl (EO.fn rfl Try.func54 rfl rfl (Evs.cons rfl (Evs.cons rfl Evs.nil))) (CC.mono (CC.atLe (c_spec_l01Next (h := upd (h) b1 (.own 9 (strsC [((ByteArray.mk #[48])), ((ByteArray.mk #[49])), ((ByteArray.mk #[50])), ((ByteArray.mk #[57])), ((ByteArray.mk #[120])), ((ByteArray.mk #[42])), ((ByteArray.mk #[47])), ((ByteArray.mk #[92])), ((ByteArray.mk #[61])), ((ByteArray.mk #[40])), ((ByteArray.mk #[41])), ((ByteArray.mk #[32])), ((ByteArray.mk #[10]))]) (13 * 1))) hr3 (RdS.le hs_s (Le.under (Le.refl _) hb1)) hd3.none) hd3.le) ?_)
  rintro _ _ ⟨rfl, rfl⟩
  refine Ops_nil ?_
  refine thenA_n ?_
  refine wpA_block ?_
  refine wpA_seq ?_
  refine wpA_region ?_
  refine Ops_quiet _ rfl rfl (QO.bin rfl rfl rfl rfl) ?_
  refine Ops_quiet _ rfl rfl (QO.assign rfl rfl) ?_
  refine Ops_nil ?_
  refine thenA_n ?_
  refine wpA_cond rfl (fun g2 => ?_) (fun g2 => ?_)
  ·replace hm := cond_t hm g2
   refine wpA_seq ?_
   refine wpA_drawn (by kernel_rfl) (by kernel_rfl) ?_
   refine QOps.quiet _ rfl rfl (QO.move rfl rfl) ?_
   refine QOps.quiet _ rfl rfl (QO.move rfl rfl) ?_
   have hq := chk hm; clear hm; obtain ⟨ck2, hm⟩ := hq
   refine QOps.quiet _ rfl rfl (QO.strTo rfl sz9 rfl rfl (by omega) (by omega)) ?_
   refine QOps.quiet _ rfl rfl (QO.move rfl rfl) ?_
   have hq := chk hm; clear hm; obtain ⟨ck3, hm⟩ := hq
   refine QOps.quiet _ rfl rfl (QO.concat rfl rfl rfl (by omega)) ?_
   refine QOps.quiet _ rfl rfl (QO.move rfl rfl) ?_
   refine QOps.quiet _ rfl rfl (QO.move rfl rfl) ?_
   refine QOps.quiet _ rfl rfl (QO.bin rfl rfl rfl rfl) ?_
   have hq := chk hm; clear hm; obtain ⟨ck4, hm⟩ := hq
   refine QOps.quiet _ rfl rfl (QO.strFrom rfl sz9 rfl rfl (by omega) (by omega)) ?_
   have hq := chk hm; clear hm; obtain ⟨ck5, hm⟩ := hq
   refine QOps.quiet _ rfl rfl (QO.concat rfl rfl rfl (by omega)) ?_
   refine QOps.quiet _ rfl rfl (QO.assign rfl rfl) ?_
   refine QOps.nil ?_
   refine thenA_n ?_
   refine wpA_ret ?_
   refine blockA_r ?_
   refine thenA_r ?_
   obtain rfl := Option.some.inj hm
   exact retA_r (h2 := upd (h) p0 (.own 74 (srcC A_s l_s.length c_s r3.2) 3)) (Res.one rfl (rfl)) (Le.upd_left (Le.under (Le.under (Le.refl _) hb1) h_p0) (upd_same _ _ _) (by first | rfl | (simp; done))) ⟨rfl, rfl⟩
  ·replace hm := cond_f hm g2
   refine wpA_seq ?_
   refine wpA_region ?_
   refine Ops_quiet _ rfl rfl (QO.bin rfl rfl rfl rfl) ?_
   refine Ops_quiet _ rfl rfl (QO.assign rfl rfl) ?_
   refine Ops_nil ?_
   refine thenA_n ?_
   refine wpA_cond rfl (fun g3 => ?_) (fun g3 => ?_)
   ·replace hm := cond_t hm g3
    refine wpA_seq ?_
    refine wpA_drawn (by kernel_rfl) (by kernel_rfl) ?_
    refine QOps.quiet _ rfl rfl (QO.move rfl rfl) ?_
    refine QOps.quiet _ rfl rfl (QO.move rfl rfl) ?_
    have hq := chk hm; clear hm; obtain ⟨ck6, hm⟩ := hq
    refine QOps.quiet _ rfl rfl (QO.strTo rfl sz9 rfl rfl (by omega) (by omega)) ?_
    refine QOps.quiet _ rfl rfl (QO.move rfl rfl) ?_
    refine QOps.quiet _ rfl rfl (QO.move rfl rfl) ?_
    refine QOps.quiet _ rfl rfl (QO.bin rfl rfl rfl rfl) ?_
    have hq := chk hm; clear hm; obtain ⟨ck7, hm⟩ := hq
    refine QOps.quiet _ rfl rfl (QO.strFrom rfl sz9 rfl rfl (by omega) (by omega)) ?_
    have hq := chk hm; clear hm; obtain ⟨ck8, hm⟩ := hq
    refine QOps.quiet _ rfl rfl (QO.concat rfl rfl rfl (by omega)) ?_
    refine QOps.quiet _ rfl rfl (QO.assign rfl rfl) ?_
    refine QOps.nil ?_
    refine thenA_n ?_
    refine wpA_ret ?_
    refine blockA_r ?_
    refine thenA_r ?_
    obtain rfl := Option.some.inj hm
    exact retA_r (h2 := upd (h) p0 (.own 74 (srcC A_s l_s.length c_s r3.2) 3)) (Res.one rfl (rfl)) (Le.upd_left (Le.under (Le.under (Le.refl _) hb1) h_p0) (upd_same _ _ _) (by first | rfl | (simp; done))) ⟨rfl, rfl⟩
   ·replace hm := cond_f hm g3
    refine wpA_skip ?_
    refine blockA_n ?_
    refine thenA_n ?_
    refine wpA_seq ?_
    refine wpA_drawn (by kernel_rfl) (by kernel_rfl) ?_
    refine QOps.quiet _ rfl rfl (QO.move rfl rfl) ?_
    refine QOps.quiet _ rfl rfl (QO.move rfl rfl) ?_
    have hq := chk hm; clear hm; obtain ⟨ck9, hm⟩ := hq
    refine QOps.quiet _ rfl rfl (QO.strTo rfl sz9 rfl rfl (by omega) (by omega)) ?_
    refine QOps.quiet _ rfl rfl (QO.move rfl rfl) ?_
    have hq := chk hm; clear hm; obtain ⟨ck10, hm⟩ := hq
    refine QOps.quiet _ rfl rfl (QO.concat rfl rfl rfl (by omega)) ?_
    refine QOps.quiet _ rfl rfl (QO.move rfl rfl) ?_
    refine QOps.quiet _ rfl rfl (QO.move rfl rfl) ?_
    have hq := chk hm; clear hm; obtain ⟨ck11, hm⟩ := hq
    refine QOps.quiet _ rfl rfl (QO.strFrom rfl sz9 rfl rfl (by omega) (by omega)) ?_
    have hq := chk hm; clear hm; obtain ⟨ck12, hm⟩ := hq
    refine QOps.quiet _ rfl rfl (QO.concat rfl rfl rfl (by omega)) ?_
    refine QOps.quiet _ rfl rfl (QO.assign rfl rfl) ?_
    refine QOps.nil ?_
    refine thenA_n ?_
    refine wpA_ret ?_
    obtain rfl := Option.some.inj hm
    exact retA_r (h2 := upd (h) p0 (.own 74 (srcC A_s l_s.length c_s r3.2) 3)) (Res.one rfl (rfl)) (Le.upd_left (Le.under (Le.under (Le.refl _) hb1) h_p0) (upd_same _ _ _) (by first | rfl | (simp; done))) ⟨rfl, rfl⟩

/-! loop.example/g01195/spec.DrawParseSquare -/
theorem c_spec_DrawParseSquare {l0 : (List Int)} {A0 : Option Addr} {c0 : Nat} {h : Hp} {r : ByteArray} (hm : m_spec_DrawParseSquare l0 = some r) (hs0 : RdS h A0 (ints .u8 l0)) :
    QC Try.prog 28 #[.slice A0 l0.length c0] h (.string r) := by
 unfold m_spec_DrawParseSquare at hm
 refine CC.enter Try.func28 rfl Try.ntmps28 rfl ?_
 refine wpA_seq ?_
 refine wpA_region ?_
 refine Ops_quiet _ rfl rfl (QO.assign rfl rfl) ?_
 refine Ops_nil ?_
 refine thenA_n ?_
 refine wpA_seq ?_
 refine wpA_region ?_
 refine Ops_quiet _ rfl rfl (QO.move rfl rfl) ?_
 have hq := Option.bind_eq_some_iff.1 hm; clear hm; obtain ⟨r1, hr1, hm⟩ := hq
 refine Ops_call _ _ rfl rfl (EO.fn rfl Try.func51 rfl rfl (Evs.cons rfl Evs.nil)) (CC.mono (c_spec_l01From (l0 := l0) (A0 := A0) (c0 := c0) hr1 (RdS.le hs0 (Le.refl _))) ?_)
 rintro _ _ ⟨b1, hb1, rfl, rfl⟩
 refine Ops_quiet _ rfl rfl (QO.assign rfl rfl) ?_
 refine Ops_nil ?_
 refine thenA_n ?_
 refine wpA_seq ?_
 refine wpA_region ?_
 refine Ops_quiet _ rfl rfl (QO.move rfl rfl) ?_
 have hq := Option.bind_eq_some_iff.1 hm; clear hm; obtain ⟨r2, hr2, hm⟩ := hq
 have hd1 : Del (upd (h) b1 (.own 74 (srcC A0 l0.length c0 r1) 3)) b1 (.own 74 (srcC A0 l0.length c0 r1) 3) (h) := (Del.here hb1)
 refine Ops_call _ _ rfl rfl (EO.fn rfl Try.func52 rfl rfl (Evs.cons rfl Evs.nil)) (CC.mono (CC.atLe (c_spec_l01DrawSquare (h := h) hr2 (RdS.le hs0 (Le.refl _)) hd1.none) hd1.le) ?_)
 rintro _ _ ⟨rfl, rfl⟩
 have hq := Option.bind_eq_some_iff.1 hm; clear hm; obtain ⟨r3, hr3, hm⟩ := hq
 refine Ops_call _ _ rfl rfl (EO.fn rfl Try.func57 rfl rfl (Evs.cons rfl Evs.nil)) (QC.cc (c_spec_l01Text hr3 ) ?_)
 refine Ops_quiet _ rfl rfl (QO.assign rfl rfl) ?_
 refine Ops_nil ?_
 refine thenA_n ?_
 refine wpA_seq ?_
 refine wpA_block ?_
 obtain ⟨R1, hR, hm⟩ := Option.bind_eq_some_iff.1 hm
 obtain ⟨k1, hk1⟩ := loopV_some hR
 clear hR
 refine wpA_mono (Q := fun e s' h' => match (generalizing := false) R1 with | .stop x id => e = .exit id ∧ ∃ (x1 : ByteArray) (x2 : Rng), (x1, x2) = x ∧ Sub s' [(3, .pointer (some ⟨b1, 0, none⟩)), (4, .string x1)] ∧ Le (upd (h) b1 (.own 74 (srcC A0 l0.length c0 x2) 3)) h' | .ret r => False | .next _ => False) ?_ ?_
 ·refine wpA_loop (fun k s' h' => ∃ (x1 : ByteArray) (x2 : Rng), loopW (m_spec_DrawParseSquare_l0 l0) k (x1, x2) = some R1 ∧ Sub s' [(3, .pointer (some ⟨b1, 0, none⟩)), (4, .string x1)] ∧ Le (upd (h) b1 (.own 74 (srcC A0 l0.length c0 x2) 3)) h') (m := k1) ⟨r3, r2.2, hk1, (Sub.cons rfl (Sub.cons rfl Sub.nil)), (Le.upd_left (Le.under (Le.refl _) hb1) (upd_same _ _ _) (by first | rfl | (simp; done)))⟩ ?_
  rintro k1 s' h' ⟨x1, x2, hk1, hsub, hle⟩
  refine wpA_weaken hsub.ok hle ?_
  clear hsub hle s' h'
  cases k1 with
  | zero => exact absurd hk1 (by simp [loopW])
  | succ k1 =>
   obtain ⟨o1, ho1, hk1⟩ := loopW_succ hk1
   unfold m_spec_DrawParseSquare_l0 at ho1
   try dsimp only at ho1
   refine wpA_seq ?_
   refine wpA_seq ?_
   refine wpA_region ?_
   refine Ops_quiet _ rfl rfl (QO.move rfl rfl) ?_
   have hq := Option.bind_eq_some_iff.1 ho1; clear ho1; obtain ⟨r4, hr4, ho1⟩ := hq
   have hd2 : Del (upd (h) b1 (.own 74 (srcC A0 l0.length c0 x2) 3)) b1 (.own 74 (srcC A0 l0.length c0 x2) 3) (h) := (Del.here hb1)
   refine Ops_call _ _ rfl rfl (EO.fn rfl Try.func54 rfl rfl (Evs.cons rfl (Evs.cons rfl Evs.nil))) (CC.mono (CC.atLe (c_spec_l01Next (h := h) hr4 (RdS.le hs0 (Le.refl _)) hd2.none) hd2.le) ?_)
   rintro _ _ ⟨rfl, rfl⟩
   refine Ops_quiet _ rfl rfl (QO.bin rfl rfl rfl rfl) ?_
   refine Ops_nil ?_
   refine thenA_n ?_
   refine wpA_cond rfl (fun g1 => ?_) (fun g1 => ?_)
   ·replace ho1 := cond_t ho1 g1
    refine wpA_skip ?_
    refine thenA_n ?_
    refine wpA_block ?_
    refine wpA_region ?_
    refine Ops_quiet _ rfl rfl (QO.move rfl rfl) ?_
    refine Ops_quiet _ rfl rfl (QO.move rfl rfl) ?_
    have hq := Option.bind_eq_some_iff.1 ho1; clear ho1; obtain ⟨r5, hr5, ho1⟩ := hq
    have hd3 : Del (upd (h) b1 (.own 74 (srcC A0 l0.length c0 r4.2) 3)) b1 (.own 74 (srcC A0 l0.length c0 r4.2) 3) (h) := (Del.here hb1)
    refine Ops_call _ _ rfl rfl (EO.fn rfl Try.func58 rfl rfl (Evs.cons rfl (Evs.cons rfl Evs.nil))) (CC.mono (CC.atLe (c_spec_l01Damage (h := h) hr5 (RdS.le hs0 (Le.refl _)) hd3.none) hd3.le) ?_)
    rintro _ _ ⟨rfl, rfl⟩
    refine Ops_quiet _ rfl rfl (QO.assign rfl rfl) ?_
    refine Ops_nil ?_
    refine blockA_n ?_
    obtain rfl := Option.some.inj ho1
    dsimp only at hk1
    exact thenA_n ⟨k1, Nat.lt_succ_self _, _, _, hk1, (Sub.cons rfl (Sub.cons rfl Sub.nil)), (Le.upd_left (Le.under (Le.refl _) hb1) (upd_same _ _ _) (by first | rfl | (simp; done)))⟩
   ·replace ho1 := cond_f ho1 g1
    refine wpA_exit ?_
    refine thenA_e ?_
    refine thenA_e ?_
    obtain rfl := Option.some.inj ho1
    obtain rfl := Option.some.inj hk1
    exact ⟨rfl, _, _, rfl, (Sub.cons rfl (Sub.cons rfl Sub.nil)), (Le.upd_left (Le.under (Le.refl _) hb1) (upd_same _ _ _) (by first | rfl | (simp; done)))⟩
 ·intro e s' h' hq
  cases R1 with
  | next x => exact hq.elim
  | ret r => exact hq.elim
  | stop x id =>
   obtain ⟨rfl, x3, x4, rfl, hsub1, hle1⟩ := hq
   try dsimp only at hm
   by_cases hid1 : id = 0
   ·subst hid1
    rw [if_pos rfl] at hm
    refine blockA_s ?_
    refine thenA_n ?_
    refine wpA_weaken hsub1.ok hle1 ?_
    refine wpA_seq ?_
    refine wpA_region ?_
    refine Ops_quiet _ rfl rfl (QO.move rfl rfl) ?_
    refine Ops_quiet _ rfl rfl (QO.assign rfl rfl) ?_
    refine Ops_nil ?_
    refine thenA_n ?_
    refine wpA_ret ?_
    obtain rfl := Option.some.inj hm
    exact retA_r (h2 := h) (Res.one rfl (rfl)) (Le.under (Le.refl _) hb1) ⟨rfl, rfl⟩
   rw [if_neg hid1] at hm
   exact absurd hm (by simp)

/-! loop.example/g01195/spec.ParseSquare -/
theorem c_spec_ParseSquare {a0 : ByteArray} {h : Hp} {r : Sq × Int} (hm : m_spec_ParseSquare a0 = some r)  :
    QC Try.prog 29 #[.string a0] h (.tuple #[.agg (sqC r.1).toArray, .int .i64 r.2]) := by
 unfold m_spec_ParseSquare at hm
 refine CC.enter Try.func29 rfl Try.ntmps29 rfl ?_
 refine wpA_seq ?_
 refine wpA_region ?_
 refine Ops_loud rfl (LO.alloc rfl zr28 rfl (fun b1 hb1 => ?_))
 refine Ops_quiet _ rfl rfl (QO.assign rfl rfl) ?_
 refine Ops_nil ?_
 refine thenA_n ?_
 refine wpA_seq ?_
 refine wpA_region ?_
 refine Ops_quiet _ rfl rfl (QO.move rfl rfl) ?_
 have hq := Option.bind_eq_some_iff.1 hm; clear hm; obtain ⟨r1, hr1, hm⟩ := hq
 refine Ops_call _ _ rfl rfl (EO.fn rfl Try.func59 rfl rfl (Evs.cons rfl Evs.nil)) (QC.cc (c_spec_l01Read hr1 ) ?_)
 refine Ops_quiet _ rfl rfl (QO.move rfl rfl) ?_
 refine Ops_quiet _ rfl rfl (QO.extract rfl rfl rfl) ?_
 refine Ops_quiet _ rfl rfl (QO.extract rfl rfl rfl) ?_
 refine Ops_loud rfl (LO.alloc rfl zr28 rfl (fun b2 hb2 => ?_))
 simp only [upd_noneA] at hb2
 obtain ⟨n_b2_b1, hb2⟩ := hb2
 refine Ops_loud rfl (LO.storeAll (cs := sqC r1.1) rfl sz28 rfl rfl (sqC_one _) (sqC_length _) (upd_same _ _ _) (sqC_length _) Chg.here rfl ?_)
 refine Ops_quiet _ rfl rfl (QO.assign rfl rfl) ?_
 refine Ops_nil ?_
 refine thenA_n ?_
 refine wpA_seq ?_
 refine wpA_seq ?_
 refine wpA_region ?_
 refine Ops_quiet _ rfl rfl (QO.move rfl rfl) ?_
 refine Ops_quiet _ rfl rfl (QO.not rfl rfl) ?_
 refine Ops_nil ?_
 refine thenA_n ?_
 refine wpA_cond rfl (fun g1 => ?_) (fun g1 => ?_)
 ·replace hm := cond_t hm g1
  refine wpA_seq ?_
  refine wpA_region ?_
  refine Ops_quiet _ rfl rfl (QO.build0 rfl bd28) ?_
  refine Ops_loud rfl (LO.storeAll (cs := sqC sq0) rfl sz28 rfl rfl (sqC_one _) (sqC_length _) ((upd_ne _ _ n_b2_b1.ne.symm).trans (upd_same _ _ _)) (sqC_length _) (Chg.there n_b2_b1.ne Chg.here) rfl ?_)
  refine Ops_quiet _ rfl rfl (QO.assign rfl rfl) ?_
  refine Ops_nil ?_
  refine thenA_n ?_
  refine wpA_ret ?_
  refine thenA_r ?_
  obtain rfl := Option.some.inj hm
  exact retA_r (h2 := h) (Res.two rfl (res1.row (cs := sqC sq0) (hr := (rdAll ((upd_ne _ _ n_b2_b1.ne.symm).trans (upd_same _ _ _)))) sz28 rfl rfl (sqC_length _)) (rfl)) (Le.under (Le.under (Le.refl _) hb1) hb2) ⟨rfl, rfl⟩
 ·replace hm := cond_f hm g1
  refine wpA_skip ?_
  refine thenA_n ?_
  refine wpA_seq ?_
  refine wpA_region ?_
  refine Ops_quiet _ rfl rfl (QO.loadRow (cs := sqC r1.1) (hr := (rdAll (upd_same _ _ _))) rfl sz28 rfl rfl (sqC_length _)) ?_
  refine Ops_loud rfl (LO.storeAll (cs := sqC r1.1) rfl sz28 rfl rfl (sqC_one _) (sqC_length _) ((upd_ne _ _ n_b2_b1.ne.symm).trans (upd_same _ _ _)) (sqC_length _) (Chg.there n_b2_b1.ne Chg.here) rfl ?_)
  refine Ops_quiet _ rfl rfl (QO.assign rfl rfl) ?_
  refine Ops_nil ?_
  refine thenA_n ?_
  refine wpA_ret ?_
  obtain rfl := Option.some.inj hm
  exact retA_r (h2 := h) (Res.two rfl (res1.row (cs := sqC r1.1) (hr := (rdAll ((upd_ne _ _ n_b2_b1.ne.symm).trans (upd_same _ _ _)))) sz28 rfl rfl (sqC_length _)) (rfl)) (Le.under (Le.under (Le.refl _) hb1) hb2) ⟨rfl, rfl⟩

/-! loop.example/g01195/laws.FnSquares -/
theorem c_laws_FnSquares {l0 : (List Int)} {A0 : Option Addr} {c0 : Nat} {h : Hp} {r : Bool} (hm : m_laws_FnSquares l0 = some r) (hs0 : RdS h A0 (ints .u8 l0)) :
    QC Try.prog 3 #[.slice A0 l0.length c0] h (.bool r) := by
 unfold m_laws_FnSquares at hm
 refine CC.enter Try.func3 rfl Try.ntmps3 rfl ?_
 refine wpA_seq ?_
 refine wpA_region ?_
 refine Ops_quiet _ rfl rfl (QO.assign rfl rfl) ?_
 refine Ops_nil ?_
 refine thenA_n ?_
 refine wpA_seq ?_
 refine wpA_seq ?_
 refine wpA_region ?_
 refine Ops_quiet _ rfl rfl (QO.move rfl rfl) ?_
 have hq := Option.bind_eq_some_iff.1 hm; clear hm; obtain ⟨r1, hr1, hm⟩ := hq
 refine Ops_call _ _ rfl rfl (EO.fn rfl Try.func4 rfl rfl (Evs.cons rfl Evs.nil)) (QC.cc (c_laws_big (l0 := l0) (A0 := A0) (c0 := c0) hr1 (RdS.le hs0 (Le.refl _))) ?_)
 refine Ops_nil ?_
 refine thenA_n ?_
 refine wpA_cond rfl (fun g1 => ?_) (fun g1 => ?_)
 ·replace hm := cond_t hm g1
  refine wpA_seq ?_
  refine wpA_region ?_
  refine Ops_quiet _ rfl rfl (QO.assign rfl rfl) ?_
  refine Ops_nil ?_
  refine thenA_n ?_
  refine wpA_ret ?_
  refine thenA_r ?_
  obtain rfl := Option.some.inj hm
  exact retA_r (h2 := h) (Res.one rfl (rfl)) (Le.refl _) ⟨rfl, rfl⟩
 ·replace hm := cond_f hm g1
  refine wpA_skip ?_
  refine thenA_n ?_
  refine wpA_seq ?_
  refine wpA_region ?_
  refine Ops_quiet _ rfl rfl (QO.move rfl rfl) ?_
  have hq := Option.bind_eq_some_iff.1 hm; clear hm; obtain ⟨r2, hr2, hm⟩ := hq
  refine Ops_call _ _ rfl rfl (EO.fn rfl Try.func5 rfl rfl (Evs.cons rfl Evs.nil)) (QC.cc (c_spec_DrawProductIn (l0 := l0) (A0 := A0) (c0 := c0) hr2 (RdS.le hs0 (Le.refl _))) ?_)
  refine Ops_quiet _ rfl rfl (QO.move rfl rfl) ?_
  refine Ops_quiet _ rfl rfl (QO.extract rfl rfl rfl) ?_
  refine Ops_quiet _ rfl rfl (QO.extract rfl rfl rfl) ?_
  refine Ops_quiet _ rfl rfl (QO.extract rfl rfl rfl) ?_
  refine Ops_loud rfl (LO.alloc rfl zr28 rfl (fun b1 hb1 => ?_))
  refine Ops_loud rfl (LO.storeAll (cs := sqC r2.1) rfl sz28 rfl rfl (sqC_one _) (sqC_length _) (upd_same _ _ _) (sqC_length _) Chg.here rfl ?_)
  refine Ops_quiet _ rfl rfl (QO.assign rfl rfl) ?_
  refine Ops_quiet _ rfl rfl (QO.assign rfl rfl) ?_
  refine Ops_nil ?_
  refine thenA_n ?_
  refine wpA_seq ?_
  refine wpA_region ?_
  refine Ops_quiet _ rfl rfl (QO.loadRow (cs := sqC r2.1) (hr := (rdAll (upd_same _ _ _))) rfl sz28 rfl rfl (sqC_length _)) ?_
  refine Ops_quiet _ rfl rfl (QO.move rfl rfl) ?_
  refine Ops_quiet _ rfl rfl (QO.move rfl rfl) ?_
  have hq := Option.bind_eq_some_iff.1 hm; clear hm; obtain ⟨r3, hr3, hm⟩ := hq
  refine Ops_call _ _ rfl rfl (EO.fn rfl Try.func6 rfl rfl (Evs.cons rfl (Evs.cons rfl (Evs.cons rfl Evs.nil)))) (QC.cc (c_impl_ProductIn hr3 ) ?_)
  refine Ops_quiet _ rfl rfl (QO.move rfl rfl) ?_
  refine Ops_quiet _ rfl rfl (QO.extract rfl rfl rfl) ?_
  refine Ops_quiet _ rfl rfl (QO.extract rfl rfl rfl) ?_
  refine Ops_quiet _ rfl rfl (QO.assign rfl rfl) ?_
  refine Ops_quiet _ rfl rfl (QO.assign rfl rfl) ?_
  refine Ops_nil ?_
  refine thenA_n ?_
  refine wpA_seq ?_
  refine wpA_region ?_
  refine Ops_quiet _ rfl rfl (QO.loadRow (cs := sqC r2.1) (hr := (rdAll (upd_same _ _ _))) rfl sz28 rfl rfl (sqC_length _)) ?_
  refine Ops_quiet _ rfl rfl (QO.move rfl rfl) ?_
  refine Ops_quiet _ rfl rfl (QO.move rfl rfl) ?_
  have hq := Option.bind_eq_some_iff.1 hm; clear hm; obtain ⟨r4, hr4, hm⟩ := hq
  refine Ops_call _ _ rfl rfl (EO.fn rfl Try.func7 rfl rfl (Evs.cons rfl (Evs.cons rfl (Evs.cons rfl Evs.nil)))) (QC.cc (c_spec_ProductIn hr4 ) ?_)
  refine Ops_quiet _ rfl rfl (QO.move rfl rfl) ?_
  refine Ops_quiet _ rfl rfl (QO.extract rfl rfl rfl) ?_
  refine Ops_quiet _ rfl rfl (QO.extract rfl rfl rfl) ?_
  refine Ops_quiet _ rfl rfl (QO.assign rfl rfl) ?_
  refine Ops_quiet _ rfl rfl (QO.assign rfl rfl) ?_
  refine Ops_nil ?_
  refine thenA_n ?_
  refine wpA_seq ?_
  refine wpA_seq ?_
  refine wpA_drawn (by kernel_rfl) (by kernel_rfl) ?_
  refine QOps.quiet _ rfl rfl (QO.move rfl rfl) ?_
  refine QOps.quiet _ rfl rfl (QO.move rfl rfl) ?_
  refine QOps.quiet _ rfl rfl (QO.bin rfl rfl rfl rfl) ?_
  refine QOps.quiet _ rfl rfl (QO.move rfl rfl) ?_
  refine QOps.split 78 rfl (fun g2 => ?_) (fun g2 => ?_)
  ·replace hm := cond_t hm g2
   refine QOps.skip rfl rfl ?_
   refine QOps.skip rfl rfl ?_
   refine QOps.skip rfl rfl ?_
   refine QOps.quiet _ rfl rfl (QO.pick_t rfl rfl rfl) ?_
   refine QOps.quiet _ rfl rfl (QO.move rfl rfl) ?_
   refine QOps.skip rfl rfl ?_
   refine QOps.skip rfl rfl ?_
   refine QOps.skip rfl rfl ?_
   refine QOps.skip rfl rfl ?_
   refine QOps.skip rfl rfl ?_
   refine QOps.quiet _ rfl rfl (QO.pick_t rfl rfl rfl) ?_
   refine QOps.quiet _ rfl rfl (QO.move rfl rfl) ?_
   refine QOps.skip rfl rfl ?_
   refine QOps.skip rfl rfl ?_
   refine QOps.skip rfl rfl ?_
   refine QOps.skip rfl rfl ?_
   refine QOps.skip rfl rfl ?_
   refine QOps.quiet _ rfl rfl (QO.pick_t rfl rfl rfl) ?_
   refine QOps.quiet _ rfl rfl (QO.move rfl rfl) ?_
   refine QOps.skip rfl rfl ?_
   refine QOps.skip rfl rfl ?_
   refine QOps.skip rfl rfl ?_
   refine QOps.skip rfl rfl ?_
   refine QOps.skip rfl rfl ?_
   refine QOps.quiet _ rfl rfl (QO.pick_t rfl rfl rfl) ?_
   refine QOps.nil ?_
   refine thenA_n ?_
   refine wpA_cond_t rfl ?_
   refine wpA_seq ?_
   refine wpA_region ?_
   refine Ops_quiet _ rfl rfl (QO.assign rfl rfl) ?_
   refine Ops_nil ?_
   refine thenA_n ?_
   refine wpA_ret ?_
   refine thenA_r ?_
   obtain rfl := Option.some.inj hm
   exact retA_r (h2 := h) (Res.one rfl (rfl)) (Le.under (Le.refl _) hb1) ⟨rfl, rfl⟩
  ·replace hm := cond_f hm g2
   refine QOps.quiet _ rfl rfl (QO.move rfl rfl) ?_
   refine QOps.quiet _ rfl rfl (QO.move rfl rfl) ?_
   refine QOps.quiet _ rfl rfl (QO.bin rfl rfl rfl rfl) ?_
   refine QOps.quiet _ rfl rfl (QO.pick_f rfl rfl rfl) ?_
   refine QOps.quiet _ rfl rfl (QO.move rfl rfl) ?_
   refine QOps.split 83 rfl (fun g3 => ?_) (fun g3 => ?_)
   ·replace hm := cond_t hm g3
    refine QOps.skip rfl rfl ?_
    refine QOps.skip rfl rfl ?_
    refine QOps.skip rfl rfl ?_
    refine QOps.skip rfl rfl ?_
    refine QOps.skip rfl rfl ?_
    refine QOps.quiet _ rfl rfl (QO.pick_t rfl rfl rfl) ?_
    refine QOps.quiet _ rfl rfl (QO.move rfl rfl) ?_
    refine QOps.skip rfl rfl ?_
    refine QOps.skip rfl rfl ?_
    refine QOps.skip rfl rfl ?_
    refine QOps.skip rfl rfl ?_
    refine QOps.skip rfl rfl ?_
    refine QOps.quiet _ rfl rfl (QO.pick_t rfl rfl rfl) ?_
    refine QOps.quiet _ rfl rfl (QO.move rfl rfl) ?_
    refine QOps.skip rfl rfl ?_
    refine QOps.skip rfl rfl ?_
    refine QOps.skip rfl rfl ?_
    refine QOps.skip rfl rfl ?_
    refine QOps.skip rfl rfl ?_
    refine QOps.quiet _ rfl rfl (QO.pick_t rfl rfl rfl) ?_
    refine QOps.nil ?_
    refine thenA_n ?_
    refine wpA_cond_t rfl ?_
    refine wpA_seq ?_
    refine wpA_region ?_
    refine Ops_quiet _ rfl rfl (QO.assign rfl rfl) ?_
    refine Ops_nil ?_
    refine thenA_n ?_
    refine wpA_ret ?_
    refine thenA_r ?_
    obtain rfl := Option.some.inj hm
    exact retA_r (h2 := h) (Res.one rfl (rfl)) (Le.under (Le.refl _) hb1) ⟨rfl, rfl⟩
   ·replace hm := cond_f hm g3
    refine QOps.quiet _ rfl rfl (QO.loadRow (cs := sqC r2.1) (hr := (rdAll (upd_same _ _ _))) rfl sz28 rfl rfl (sqC_length _)) ?_
    have hq := Option.bind_eq_some_iff.1 hm; clear hm; obtain ⟨r5, hr5, hm⟩ := hq
    refine QOps.call _ _ _ rfl rfl (EO.fn rfl Try.func8 rfl rfl (Evs.cons rfl Evs.nil)) (c_impl_IsSquare hr5 ) ?_
    refine QOps.quiet _ rfl rfl (QO.loadRow (cs := sqC r2.1) (hr := (rdAll (upd_same _ _ _))) rfl sz28 rfl rfl (sqC_length _)) ?_
    have hq := Option.bind_eq_some_iff.1 hm; clear hm; obtain ⟨r6, hr6, hm⟩ := hq
    refine QOps.call _ _ _ rfl rfl (EO.fn rfl Try.func9 rfl rfl (Evs.cons rfl Evs.nil)) (c_spec_IsSquare hr6 ) ?_
    refine QOps.quiet _ rfl rfl (QO.bool_neq rfl sz4 rfl rfl) ?_
    refine QOps.quiet _ rfl rfl (QO.pick_f rfl rfl rfl) ?_
    refine QOps.quiet _ rfl rfl (QO.move rfl rfl) ?_
    refine QOps.split 90 rfl (fun g4 => ?_) (fun g4 => ?_)
    ·replace hm := cond_t hm g4
     refine QOps.skip rfl rfl ?_
     refine QOps.skip rfl rfl ?_
     refine QOps.skip rfl rfl ?_
     refine QOps.skip rfl rfl ?_
     refine QOps.skip rfl rfl ?_
     refine QOps.quiet _ rfl rfl (QO.pick_t rfl rfl rfl) ?_
     refine QOps.quiet _ rfl rfl (QO.move rfl rfl) ?_
     refine QOps.skip rfl rfl ?_
     refine QOps.skip rfl rfl ?_
     refine QOps.skip rfl rfl ?_
     refine QOps.skip rfl rfl ?_
     refine QOps.skip rfl rfl ?_
     refine QOps.quiet _ rfl rfl (QO.pick_t rfl rfl rfl) ?_
     refine QOps.nil ?_
     refine thenA_n ?_
     refine wpA_cond_t rfl ?_
     refine wpA_seq ?_
     refine wpA_region ?_
     refine Ops_quiet _ rfl rfl (QO.assign rfl rfl) ?_
     refine Ops_nil ?_
     refine thenA_n ?_
     refine wpA_ret ?_
     refine thenA_r ?_
     obtain rfl := Option.some.inj hm
     exact retA_r (h2 := h) (Res.one rfl (rfl)) (Le.under (Le.refl _) hb1) ⟨rfl, rfl⟩
    ·replace hm := cond_f hm g4
     refine QOps.quiet _ rfl rfl (QO.loadRow (cs := sqC r2.1) (hr := (rdAll (upd_same _ _ _))) rfl sz28 rfl rfl (sqC_length _)) ?_
     have hq := Option.bind_eq_some_iff.1 hm; clear hm; obtain ⟨r7, hr7, hm⟩ := hq
     refine QOps.call _ _ _ rfl rfl (EO.fn rfl Try.func10 rfl rfl (Evs.cons rfl Evs.nil)) (c_impl_IsLoop hr7 ) ?_
     refine QOps.quiet _ rfl rfl (QO.loadRow (cs := sqC r2.1) (hr := (rdAll (upd_same _ _ _))) rfl sz28 rfl rfl (sqC_length _)) ?_
     have hq := Option.bind_eq_some_iff.1 hm; clear hm; obtain ⟨r8, hr8, hm⟩ := hq
     refine QOps.call _ _ _ rfl rfl (EO.fn rfl Try.func11 rfl rfl (Evs.cons rfl Evs.nil)) (c_spec_IsLoop hr8 ) ?_
     refine QOps.quiet _ rfl rfl (QO.bool_neq rfl sz4 rfl rfl) ?_
     refine QOps.quiet _ rfl rfl (QO.pick_f rfl rfl rfl) ?_
     refine QOps.quiet _ rfl rfl (QO.move rfl rfl) ?_
     refine QOps.split 97 rfl (fun g5 => ?_) (fun g5 => ?_)
     ·replace hm := cond_t hm g5
      refine QOps.skip rfl rfl ?_
      refine QOps.skip rfl rfl ?_
      refine QOps.skip rfl rfl ?_
      refine QOps.skip rfl rfl ?_
      refine QOps.skip rfl rfl ?_
      refine QOps.quiet _ rfl rfl (QO.pick_t rfl rfl rfl) ?_
      refine QOps.nil ?_
      refine thenA_n ?_
      refine wpA_cond_t rfl ?_
      refine wpA_seq ?_
      refine wpA_region ?_
      refine Ops_quiet _ rfl rfl (QO.assign rfl rfl) ?_
      refine Ops_nil ?_
      refine thenA_n ?_
      refine wpA_ret ?_
      refine thenA_r ?_
      obtain rfl := Option.some.inj hm
      exact retA_r (h2 := h) (Res.one rfl (rfl)) (Le.under (Le.refl _) hb1) ⟨rfl, rfl⟩
     ·replace hm := cond_f hm g5
      refine QOps.quiet _ rfl rfl (QO.loadRow (cs := sqC r2.1) (hr := (rdAll (upd_same _ _ _))) rfl sz28 rfl rfl (sqC_length _)) ?_
      have hq := Option.bind_eq_some_iff.1 hm; clear hm; obtain ⟨r9, hr9, hm⟩ := hq
      refine QOps.call _ _ _ rfl rfl (EO.fn rfl Try.func12 rfl rfl (Evs.cons rfl Evs.nil)) (c_impl_IsGroup hr9 ) ?_
      refine QOps.quiet _ rfl rfl (QO.loadRow (cs := sqC r2.1) (hr := (rdAll (upd_same _ _ _))) rfl sz28 rfl rfl (sqC_length _)) ?_
      have hq := Option.bind_eq_some_iff.1 hm; clear hm; obtain ⟨r10, hr10, hm⟩ := hq
      refine QOps.call _ _ _ rfl rfl (EO.fn rfl Try.func13 rfl rfl (Evs.cons rfl Evs.nil)) (c_spec_IsGroup hr10 ) ?_
      refine QOps.quiet _ rfl rfl (QO.bool_neq rfl sz4 rfl rfl) ?_
      refine QOps.quiet _ rfl rfl (QO.pick_f rfl rfl rfl) ?_
      refine QOps.nil ?_
      refine thenA_n ?_
      refine wpA_cond rfl (fun g6 => ?_) (fun g6 => ?_)
      ·replace hm := cond_t hm g6
       refine wpA_seq ?_
       refine wpA_region ?_
       refine Ops_quiet _ rfl rfl (QO.assign rfl rfl) ?_
       refine Ops_nil ?_
       refine thenA_n ?_
       refine wpA_ret ?_
       refine thenA_r ?_
       obtain rfl := Option.some.inj hm
       exact retA_r (h2 := h) (Res.one rfl (rfl)) (Le.under (Le.refl _) hb1) ⟨rfl, rfl⟩
      ·replace hm := cond_f hm g6
       refine wpA_skip ?_
       refine thenA_n ?_
       refine wpA_seq ?_
       refine wpA_seq ?_
       refine wpA_region ?_
       refine Ops_quiet _ rfl rfl (QO.move rfl rfl) ?_
       refine Ops_quiet _ rfl rfl (QO.bin rfl rfl rfl rfl) ?_
       refine Ops_nil ?_
       refine thenA_n ?_
       refine wpA_cond rfl (fun g7 => ?_) (fun g7 => ?_)
       ·replace hm := cond_t hm g7
        refine wpA_weaken (show Abs.Sub _ [(0, .slice A0 l0.length c0), (2, .bool false), (3, .pointer (some ⟨b1, 0, none⟩)), (4, .int .u8 r2.2.1), (5, .int .u8 r2.2.2), (6, .int .u8 r3.1)] from (Sub.cons rfl (Sub.cons rfl (Sub.cons rfl (Sub.cons rfl (Sub.cons rfl (Sub.cons rfl (Sub.nil)))))))).ok (Le.refl _) ?_
        refine wpA_seq ?_
        refine wpA_region ?_
        refine Ops_quiet _ rfl rfl (QO.loadRow (cs := sqC r2.1) (hr := (rdAll (upd_same _ _ _))) rfl sz28 rfl rfl (sqC_length _)) ?_
        refine Ops_quiet _ rfl rfl (QO.move rfl rfl) ?_
        refine Ops_quiet _ rfl rfl (QO.move rfl rfl) ?_
        have hq := Option.bind_eq_some_iff.1 hm; clear hm; obtain ⟨r11, hr11, hm⟩ := hq
        refine Ops_call _ _ rfl rfl (EO.fn rfl Try.func14 rfl rfl (Evs.cons rfl (Evs.cons rfl (Evs.cons rfl Evs.nil)))) (QC.cc (c_impl_LeftQuotient hr11 ) ?_)
        refine Ops_quiet _ rfl rfl (QO.move rfl rfl) ?_
        refine Ops_quiet _ rfl rfl (QO.extract rfl rfl rfl) ?_
        refine Ops_quiet _ rfl rfl (QO.extract rfl rfl rfl) ?_
        refine Ops_quiet _ rfl rfl (QO.assign rfl rfl) ?_
        refine Ops_quiet _ rfl rfl (QO.assign rfl rfl) ?_
        refine Ops_nil ?_
        refine thenA_n ?_
        refine wpA_seq ?_
        refine wpA_region ?_
        refine Ops_quiet _ rfl rfl (QO.loadRow (cs := sqC r2.1) (hr := (rdAll (upd_same _ _ _))) rfl sz28 rfl rfl (sqC_length _)) ?_
        refine Ops_quiet _ rfl rfl (QO.move rfl rfl) ?_
        refine Ops_quiet _ rfl rfl (QO.move rfl rfl) ?_
        have hq := Option.bind_eq_some_iff.1 hm; clear hm; obtain ⟨r12, hr12, hm⟩ := hq
        refine Ops_call _ _ rfl rfl (EO.fn rfl Try.func15 rfl rfl (Evs.cons rfl (Evs.cons rfl (Evs.cons rfl Evs.nil)))) (QC.cc (c_impl_RightQuotient hr12 ) ?_)
        refine Ops_quiet _ rfl rfl (QO.move rfl rfl) ?_
        refine Ops_quiet _ rfl rfl (QO.extract rfl rfl rfl) ?_
        refine Ops_quiet _ rfl rfl (QO.extract rfl rfl rfl) ?_
        refine Ops_quiet _ rfl rfl (QO.assign rfl rfl) ?_
        refine Ops_quiet _ rfl rfl (QO.assign rfl rfl) ?_
        refine Ops_nil ?_
        refine thenA_n ?_
        refine wpA_seq ?_
        refine wpA_region ?_
        refine Ops_quiet _ rfl rfl (QO.loadRow (cs := sqC r2.1) (hr := (rdAll (upd_same _ _ _))) rfl sz28 rfl rfl (sqC_length _)) ?_
        refine Ops_quiet _ rfl rfl (QO.move rfl rfl) ?_
        have hq := Option.bind_eq_some_iff.1 hm; clear hm; obtain ⟨r13, hr13, hm⟩ := hq
        refine Ops_call _ _ rfl rfl (EO.fn rfl Try.func16 rfl rfl (Evs.cons rfl (Evs.cons rfl Evs.nil))) (QC.cc (c_impl_RowMap hr13 ) ?_)
        refine Ops_quiet _ rfl rfl (QO.move rfl rfl) ?_
        refine Ops_quiet _ rfl rfl (QO.extract rfl rfl rfl) ?_
        refine Ops_quiet _ rfl rfl (QO.extract rfl rfl rfl) ?_
        refine Ops_loud rfl (LO.alloc rfl zr34 rfl (fun b2 hb2 => ?_))
        simp only [upd_noneA] at hb2
        obtain ⟨n_b2_b1, hb2⟩ := hb2
        refine Ops_loud rfl (LO.storeAll (cs := tabI .u8 r13.1 10) rfl sz34 rfl rfl (tabI_one _ _ _) (tabI_length _ _ _) (upd_same _ _ _) (tabI_length _ _ _) Chg.here rfl ?_)
        refine Ops_quiet _ rfl rfl (QO.assign rfl rfl) ?_
        refine Ops_nil ?_
        refine thenA_n ?_
        refine wpA_seq ?_
        refine wpA_region ?_
        refine Ops_quiet _ rfl rfl (QO.loadRow (cs := sqC r2.1) (hr := (rdAll ((upd_ne _ _ n_b2_b1.ne.symm).trans (upd_same _ _ _)))) rfl sz28 rfl rfl (sqC_length _)) ?_
        refine Ops_quiet _ rfl rfl (QO.move rfl rfl) ?_
        have hq := Option.bind_eq_some_iff.1 hm; clear hm; obtain ⟨r14, hr14, hm⟩ := hq
        refine Ops_call _ _ rfl rfl (EO.fn rfl Try.func17 rfl rfl (Evs.cons rfl (Evs.cons rfl Evs.nil))) (QC.cc (c_impl_ColumnMap hr14 ) ?_)
        refine Ops_quiet _ rfl rfl (QO.move rfl rfl) ?_
        refine Ops_quiet _ rfl rfl (QO.extract rfl rfl rfl) ?_
        refine Ops_quiet _ rfl rfl (QO.extract rfl rfl rfl) ?_
        refine Ops_loud rfl (LO.alloc rfl zr34 rfl (fun b3 hb3 => ?_))
        simp only [upd_noneA] at hb3
        obtain ⟨n_b3_b2, n_b3_b1, hb3⟩ := hb3
        refine Ops_loud rfl (LO.storeAll (cs := tabI .u8 r14.1 10) rfl sz34 rfl rfl (tabI_one _ _ _) (tabI_length _ _ _) (upd_same _ _ _) (tabI_length _ _ _) Chg.here rfl ?_)
        refine Ops_quiet _ rfl rfl (QO.assign rfl rfl) ?_
        refine Ops_nil ?_
        refine thenA_n ?_
        refine wpA_seq ?_
        refine wpA_region ?_
        refine Ops_quiet _ rfl rfl (QO.loadRow (cs := sqC r2.1) (hr := (rdAll ((upd_ne _ _ n_b3_b1.ne.symm).trans ((upd_ne _ _ n_b2_b1.ne.symm).trans (upd_same _ _ _))))) rfl sz28 rfl rfl (sqC_length _)) ?_
        have hq := Option.bind_eq_some_iff.1 hm; clear hm; obtain ⟨r15, hr15, hm⟩ := hq
        refine Ops_call _ _ rfl rfl (EO.fn rfl Try.func18 rfl rfl (Evs.cons rfl Evs.nil)) (QC.cc (c_impl_OppositeOf hr15 ) ?_)
        refine Ops_quiet _ rfl rfl (QO.move rfl rfl) ?_
        refine Ops_quiet _ rfl rfl (QO.extract rfl rfl rfl) ?_
        refine Ops_quiet _ rfl rfl (QO.extract rfl rfl rfl) ?_
        refine Ops_loud rfl (LO.alloc rfl zr28 rfl (fun b4 hb4 => ?_))
        simp only [upd_noneA] at hb4
        obtain ⟨n_b4_b3, n_b4_b2, n_b4_b1, hb4⟩ := hb4
        refine Ops_loud rfl (LO.storeAll (cs := sqC r15.1) rfl sz28 rfl rfl (sqC_one _) (sqC_length _) (upd_same _ _ _) (sqC_length _) Chg.here rfl ?_)
        refine Ops_quiet _ rfl rfl (QO.assign rfl rfl) ?_
        refine Ops_nil ?_
        refine thenA_n ?_
        refine wpA_seq ?_
        refine wpA_region ?_
        refine Ops_quiet _ rfl rfl (QO.loadRow (cs := sqC r15.1) (hr := (rdAll (upd_same _ _ _))) rfl sz28 rfl rfl (sqC_length _)) ?_
        have hq := Option.bind_eq_some_iff.1 hm; clear hm; obtain ⟨r16, hr16, hm⟩ := hq
        refine Ops_call _ _ rfl rfl (EO.fn rfl Try.func18 rfl rfl (Evs.cons rfl Evs.nil)) (QC.cc (c_impl_OppositeOf hr16 ) ?_)
        refine Ops_quiet _ rfl rfl (QO.move rfl rfl) ?_
        refine Ops_quiet _ rfl rfl (QO.extract rfl rfl rfl) ?_
        refine Ops_quiet _ rfl rfl (QO.extract rfl rfl rfl) ?_
        refine Ops_loud rfl (LO.alloc rfl zr28 rfl (fun b5 hb5 => ?_))
        simp only [upd_noneA] at hb5
        obtain ⟨n_b5_b4, n_b5_b3, n_b5_b2, n_b5_b1, hb5⟩ := hb5
        refine Ops_loud rfl (LO.storeAll (cs := sqC r16.1) rfl sz28 rfl rfl (sqC_one _) (sqC_length _) (upd_same _ _ _) (sqC_length _) Chg.here rfl ?_)
        refine Ops_quiet _ rfl rfl (QO.assign rfl rfl) ?_
        refine Ops_nil ?_
        refine thenA_n ?_
        refine wpA_seq ?_
        refine wpA_region ?_
        refine Ops_quiet _ rfl rfl (QO.loadRow (cs := sqC r15.1) (hr := (rdAll ((upd_ne _ _ n_b5_b4.ne.symm).trans (upd_same _ _ _)))) rfl sz28 rfl rfl (sqC_length _)) ?_
        refine Ops_quiet _ rfl rfl (QO.move rfl rfl) ?_
        refine Ops_quiet _ rfl rfl (QO.move rfl rfl) ?_
        have hq := Option.bind_eq_some_iff.1 hm; clear hm; obtain ⟨r17, hr17, hm⟩ := hq
        refine Ops_call _ _ rfl rfl (EO.fn rfl Try.func6 rfl rfl (Evs.cons rfl (Evs.cons rfl (Evs.cons rfl Evs.nil)))) (QC.cc (c_impl_ProductIn hr17 ) ?_)
        refine Ops_quiet _ rfl rfl (QO.move rfl rfl) ?_
        refine Ops_quiet _ rfl rfl (QO.extract rfl rfl rfl) ?_
        refine Ops_quiet _ rfl rfl (QO.extract rfl rfl rfl) ?_
        refine Ops_quiet _ rfl rfl (QO.assign rfl rfl) ?_
        refine Ops_quiet _ rfl rfl (QO.assign rfl rfl) ?_
        refine Ops_nil ?_
        refine thenA_n ?_
        refine wpA_weaken (show Abs.Sub _ [(0, .slice A0 l0.length c0), (2, .bool false), (3, .pointer (some ⟨b1, 0, none⟩)), (4, .int .u8 r2.2.1), (5, .int .u8 r2.2.2), (6, .int .u8 r3.1), (10, .int .u8 r11.1), (11, .int .i64 r11.2), (12, .int .u8 r12.1), (13, .int .i64 r12.2), (14, .pointer (some ⟨b2, 0, none⟩)), (15, .int .i64 r13.2), (16, .pointer (some ⟨b3, 0, none⟩)), (17, .int .i64 r14.2), (19, .int .i64 r15.2), (20, .pointer (some ⟨b5, 0, none⟩)), (21, .int .i64 r16.2), (22, .int .u8 r17.1), (23, .int .i64 r17.2)] from (Sub.cons rfl (Sub.cons rfl (Sub.cons rfl (Sub.cons rfl (Sub.cons rfl (Sub.cons rfl (Sub.cons rfl (Sub.cons rfl (Sub.cons rfl (Sub.cons rfl (Sub.cons rfl (Sub.cons rfl (Sub.cons rfl (Sub.cons rfl (Sub.cons rfl (Sub.cons rfl (Sub.cons rfl (Sub.cons rfl (Sub.cons rfl (Sub.nil))))))))))))))))))))).ok (Le.refl _) ?_
        refine wpA_seq ?_
        refine wpA_seq ?_
        refine wpA_region ?_
        refine Ops_quiet _ rfl rfl (QO.move rfl rfl) ?_
        refine Ops_quiet _ rfl rfl (QO.bin rfl rfl rfl rfl) ?_
        refine Ops_quiet _ rfl rfl (QO.move rfl rfl) ?_
        refine Ops_case 151 rfl (fun g8 => ?_) (fun g8 => ?_)
        ·replace hm := cond_t hm g8
         refine Ops_skip rfl rfl ?_
         refine Ops_skip rfl rfl ?_
         refine Ops_quiet _ rfl rfl (QO.pick_t rfl rfl rfl) ?_
         refine Ops_quiet _ rfl rfl (QO.move rfl rfl) ?_
         refine Ops_skip rfl rfl ?_
         refine Ops_skip rfl rfl ?_
         refine Ops_quiet _ rfl rfl (QO.pick_t rfl rfl rfl) ?_
         refine Ops_quiet _ rfl rfl (QO.move rfl rfl) ?_
         refine Ops_skip rfl rfl ?_
         refine Ops_skip rfl rfl ?_
         refine Ops_quiet _ rfl rfl (QO.pick_t rfl rfl rfl) ?_
         refine Ops_quiet _ rfl rfl (QO.move rfl rfl) ?_
         refine Ops_skip rfl rfl ?_
         refine Ops_skip rfl rfl ?_
         refine Ops_quiet _ rfl rfl (QO.pick_t rfl rfl rfl) ?_
         refine Ops_quiet _ rfl rfl (QO.move rfl rfl) ?_
         refine Ops_skip rfl rfl ?_
         refine Ops_skip rfl rfl ?_
         refine Ops_quiet _ rfl rfl (QO.pick_t rfl rfl rfl) ?_
         refine Ops_quiet _ rfl rfl (QO.move rfl rfl) ?_
         refine Ops_skip rfl rfl ?_
         refine Ops_skip rfl rfl ?_
         refine Ops_quiet _ rfl rfl (QO.pick_t rfl rfl rfl) ?_
         refine Ops_quiet _ rfl rfl (QO.move rfl rfl) ?_
         refine Ops_skip rfl rfl ?_
         refine Ops_skip rfl rfl ?_
         refine Ops_skip rfl rfl ?_
         refine Ops_quiet _ rfl rfl (QO.pick_t rfl rfl rfl) ?_
         refine Ops_quiet _ rfl rfl (QO.move rfl rfl) ?_
         refine Ops_skip rfl rfl ?_
         refine Ops_skip rfl rfl ?_
         refine Ops_skip rfl rfl ?_
         refine Ops_quiet _ rfl rfl (QO.pick_t rfl rfl rfl) ?_
         refine Ops_quiet _ rfl rfl (QO.move rfl rfl) ?_
         refine Ops_skip rfl rfl ?_
         refine Ops_skip rfl rfl ?_
         refine Ops_skip rfl rfl ?_
         refine Ops_skip rfl rfl ?_
         refine Ops_skip rfl rfl ?_
         refine Ops_quiet _ rfl rfl (QO.pick_t rfl rfl rfl) ?_
         refine Ops_quiet _ rfl rfl (QO.move rfl rfl) ?_
         refine Ops_skip rfl rfl ?_
         refine Ops_skip rfl rfl ?_
         refine Ops_skip rfl rfl ?_
         refine Ops_skip rfl rfl ?_
         refine Ops_skip rfl rfl ?_
         refine Ops_quiet _ rfl rfl (QO.pick_t rfl rfl rfl) ?_
         refine Ops_quiet _ rfl rfl (QO.move rfl rfl) ?_
         refine Ops_skip rfl rfl ?_
         refine Ops_skip rfl rfl ?_
         refine Ops_skip rfl rfl ?_
         refine Ops_quiet _ rfl rfl (QO.pick_t rfl rfl rfl) ?_
         refine Ops_quiet _ rfl rfl (QO.move rfl rfl) ?_
         refine Ops_skip rfl rfl ?_
         refine Ops_skip rfl rfl ?_
         refine Ops_skip rfl rfl ?_
         refine Ops_quiet _ rfl rfl (QO.pick_t rfl rfl rfl) ?_
         refine Ops_nil ?_
         refine thenA_n ?_
         refine wpA_cond_t rfl ?_
         refine wpA_weaken (show Abs.Sub _ [(2, .bool false)] from (Sub.cons rfl (Sub.nil))).ok (Le.refl _) ?_
         refine wpA_seq ?_
         refine wpA_region ?_
         refine Ops_quiet _ rfl rfl (QO.assign rfl rfl) ?_
         refine Ops_nil ?_
         refine thenA_n ?_
         refine wpA_ret ?_
         refine thenA_r ?_
         refine thenA_r ?_
         obtain rfl := Option.some.inj hm
         exact retA_r (h2 := h) (Res.one rfl (rfl)) (Le.under (Le.under (Le.under (Le.under (Le.under (Le.refl _) hb1) hb2) hb3) hb4) hb5) ⟨rfl, rfl⟩
        ·replace hm := cond_f hm g8
         refine Ops_quiet _ rfl rfl (QO.move rfl rfl) ?_
         refine Ops_quiet _ rfl rfl (QO.bin rfl rfl rfl rfl) ?_
         refine Ops_quiet _ rfl rfl (QO.pick_f rfl rfl rfl) ?_
         refine Ops_quiet _ rfl rfl (QO.move rfl rfl) ?_
         refine Ops_case 155 rfl (fun g9 => ?_) (fun g9 => ?_)
         ·replace hm := cond_t hm g9
          refine Ops_skip rfl rfl ?_
          refine Ops_skip rfl rfl ?_
          refine Ops_quiet _ rfl rfl (QO.pick_t rfl rfl rfl) ?_
          refine Ops_quiet _ rfl rfl (QO.move rfl rfl) ?_
          refine Ops_skip rfl rfl ?_
          refine Ops_skip rfl rfl ?_
          refine Ops_quiet _ rfl rfl (QO.pick_t rfl rfl rfl) ?_
          refine Ops_quiet _ rfl rfl (QO.move rfl rfl) ?_
          refine Ops_skip rfl rfl ?_
          refine Ops_skip rfl rfl ?_
          refine Ops_quiet _ rfl rfl (QO.pick_t rfl rfl rfl) ?_
          refine Ops_quiet _ rfl rfl (QO.move rfl rfl) ?_
          refine Ops_skip rfl rfl ?_
          refine Ops_skip rfl rfl ?_
          refine Ops_quiet _ rfl rfl (QO.pick_t rfl rfl rfl) ?_
          refine Ops_quiet _ rfl rfl (QO.move rfl rfl) ?_
          refine Ops_skip rfl rfl ?_
          refine Ops_skip rfl rfl ?_
          refine Ops_quiet _ rfl rfl (QO.pick_t rfl rfl rfl) ?_
          refine Ops_quiet _ rfl rfl (QO.move rfl rfl) ?_
          refine Ops_skip rfl rfl ?_
          refine Ops_skip rfl rfl ?_
          refine Ops_skip rfl rfl ?_
          refine Ops_quiet _ rfl rfl (QO.pick_t rfl rfl rfl) ?_
          refine Ops_quiet _ rfl rfl (QO.move rfl rfl) ?_
          refine Ops_skip rfl rfl ?_
          refine Ops_skip rfl rfl ?_
          refine Ops_skip rfl rfl ?_
          refine Ops_quiet _ rfl rfl (QO.pick_t rfl rfl rfl) ?_
          refine Ops_quiet _ rfl rfl (QO.move rfl rfl) ?_
          refine Ops_skip rfl rfl ?_
          refine Ops_skip rfl rfl ?_
          refine Ops_skip rfl rfl ?_
          refine Ops_skip rfl rfl ?_
          refine Ops_skip rfl rfl ?_
          refine Ops_quiet _ rfl rfl (QO.pick_t rfl rfl rfl) ?_
          refine Ops_quiet _ rfl rfl (QO.move rfl rfl) ?_
          refine Ops_skip rfl rfl ?_
          refine Ops_skip rfl rfl ?_
          refine Ops_skip rfl rfl ?_
          refine Ops_skip rfl rfl ?_
          refine Ops_skip rfl rfl ?_
          refine Ops_quiet _ rfl rfl (QO.pick_t rfl rfl rfl) ?_
          refine Ops_quiet _ rfl rfl (QO.move rfl rfl) ?_
          refine Ops_skip rfl rfl ?_
          refine Ops_skip rfl rfl ?_
          refine Ops_skip rfl rfl ?_
          refine Ops_quiet _ rfl rfl (QO.pick_t rfl rfl rfl) ?_
          refine Ops_quiet _ rfl rfl (QO.move rfl rfl) ?_
          refine Ops_skip rfl rfl ?_
          refine Ops_skip rfl rfl ?_
          refine Ops_skip rfl rfl ?_
          refine Ops_quiet _ rfl rfl (QO.pick_t rfl rfl rfl) ?_
          refine Ops_nil ?_
          refine thenA_n ?_
          refine wpA_cond_t rfl ?_
          refine wpA_weaken (show Abs.Sub _ [(2, .bool false)] from (Sub.cons rfl (Sub.nil))).ok (Le.refl _) ?_
          refine wpA_seq ?_
          refine wpA_region ?_
          refine Ops_quiet _ rfl rfl (QO.assign rfl rfl) ?_
          refine Ops_nil ?_
          refine thenA_n ?_
          refine wpA_ret ?_
          refine thenA_r ?_
          refine thenA_r ?_
          obtain rfl := Option.some.inj hm
          exact retA_r (h2 := h) (Res.one rfl (rfl)) (Le.under (Le.under (Le.under (Le.under (Le.under (Le.refl _) hb1) hb2) hb3) hb4) hb5) ⟨rfl, rfl⟩
         ·replace hm := cond_f hm g9
          refine Ops_quiet _ rfl rfl (QO.move rfl rfl) ?_
          refine Ops_quiet _ rfl rfl (QO.bin rfl rfl rfl rfl) ?_
          refine Ops_quiet _ rfl rfl (QO.pick_f rfl rfl rfl) ?_
          refine Ops_quiet _ rfl rfl (QO.move rfl rfl) ?_
          refine Ops_case 159 rfl (fun g10 => ?_) (fun g10 => ?_)
          ·replace hm := cond_t hm g10
           refine Ops_skip rfl rfl ?_
           refine Ops_skip rfl rfl ?_
           refine Ops_quiet _ rfl rfl (QO.pick_t rfl rfl rfl) ?_
           refine Ops_quiet _ rfl rfl (QO.move rfl rfl) ?_
           refine Ops_skip rfl rfl ?_
           refine Ops_skip rfl rfl ?_
           refine Ops_quiet _ rfl rfl (QO.pick_t rfl rfl rfl) ?_
           refine Ops_quiet _ rfl rfl (QO.move rfl rfl) ?_
           refine Ops_skip rfl rfl ?_
           refine Ops_skip rfl rfl ?_
           refine Ops_quiet _ rfl rfl (QO.pick_t rfl rfl rfl) ?_
           refine Ops_quiet _ rfl rfl (QO.move rfl rfl) ?_
           refine Ops_skip rfl rfl ?_
           refine Ops_skip rfl rfl ?_
           refine Ops_quiet _ rfl rfl (QO.pick_t rfl rfl rfl) ?_
           refine Ops_quiet _ rfl rfl (QO.move rfl rfl) ?_
           refine Ops_skip rfl rfl ?_
           refine Ops_skip rfl rfl ?_
           refine Ops_skip rfl rfl ?_
           refine Ops_quiet _ rfl rfl (QO.pick_t rfl rfl rfl) ?_
           refine Ops_quiet _ rfl rfl (QO.move rfl rfl) ?_
           refine Ops_skip rfl rfl ?_
           refine Ops_skip rfl rfl ?_
           refine Ops_skip rfl rfl ?_
           refine Ops_quiet _ rfl rfl (QO.pick_t rfl rfl rfl) ?_
           refine Ops_quiet _ rfl rfl (QO.move rfl rfl) ?_
           refine Ops_skip rfl rfl ?_
           refine Ops_skip rfl rfl ?_
           refine Ops_skip rfl rfl ?_
           refine Ops_skip rfl rfl ?_
           refine Ops_skip rfl rfl ?_
           refine Ops_quiet _ rfl rfl (QO.pick_t rfl rfl rfl) ?_
           refine Ops_quiet _ rfl rfl (QO.move rfl rfl) ?_
           refine Ops_skip rfl rfl ?_
           refine Ops_skip rfl rfl ?_
           refine Ops_skip rfl rfl ?_
           refine Ops_skip rfl rfl ?_
           refine Ops_skip rfl rfl ?_
           refine Ops_quiet _ rfl rfl (QO.pick_t rfl rfl rfl) ?_
           refine Ops_quiet _ rfl rfl (QO.move rfl rfl) ?_
           refine Ops_skip rfl rfl ?_
           refine Ops_skip rfl rfl ?_
           refine Ops_skip rfl rfl ?_
           refine Ops_quiet _ rfl rfl (QO.pick_t rfl rfl rfl) ?_
           refine Ops_quiet _ rfl rfl (QO.move rfl rfl) ?_
           refine Ops_skip rfl rfl ?_
           refine Ops_skip rfl rfl ?_
           refine Ops_skip rfl rfl ?_
           refine Ops_quiet _ rfl rfl (QO.pick_t rfl rfl rfl) ?_
           refine Ops_nil ?_
           refine thenA_n ?_
           refine wpA_cond_t rfl ?_
           refine wpA_weaken (show Abs.Sub _ [(2, .bool false)] from (Sub.cons rfl (Sub.nil))).ok (Le.refl _) ?_
           refine wpA_seq ?_
           refine wpA_region ?_
           refine Ops_quiet _ rfl rfl (QO.assign rfl rfl) ?_
           refine Ops_nil ?_
           refine thenA_n ?_
           refine wpA_ret ?_
           refine thenA_r ?_
           refine thenA_r ?_
           obtain rfl := Option.some.inj hm
           exact retA_r (h2 := h) (Res.one rfl (rfl)) (Le.under (Le.under (Le.under (Le.under (Le.under (Le.refl _) hb1) hb2) hb3) hb4) hb5) ⟨rfl, rfl⟩
          ·replace hm := cond_f hm g10
           refine Ops_quiet _ rfl rfl (QO.move rfl rfl) ?_
           refine Ops_quiet _ rfl rfl (QO.bin rfl rfl rfl rfl) ?_
           refine Ops_quiet _ rfl rfl (QO.pick_f rfl rfl rfl) ?_
           refine Ops_quiet _ rfl rfl (QO.move rfl rfl) ?_
           refine Ops_case 163 rfl (fun g11 => ?_) (fun g11 => ?_)
           ·replace hm := cond_t hm g11
            refine Ops_skip rfl rfl ?_
            refine Ops_skip rfl rfl ?_
            refine Ops_quiet _ rfl rfl (QO.pick_t rfl rfl rfl) ?_
            refine Ops_quiet _ rfl rfl (QO.move rfl rfl) ?_
            refine Ops_skip rfl rfl ?_
            refine Ops_skip rfl rfl ?_
            refine Ops_quiet _ rfl rfl (QO.pick_t rfl rfl rfl) ?_
            refine Ops_quiet _ rfl rfl (QO.move rfl rfl) ?_
            refine Ops_skip rfl rfl ?_
            refine Ops_skip rfl rfl ?_
            refine Ops_quiet _ rfl rfl (QO.pick_t rfl rfl rfl) ?_
            refine Ops_quiet _ rfl rfl (QO.move rfl rfl) ?_
            refine Ops_skip rfl rfl ?_
            refine Ops_skip rfl rfl ?_
            refine Ops_skip rfl rfl ?_
            refine Ops_quiet _ rfl rfl (QO.pick_t rfl rfl rfl) ?_
            refine Ops_quiet _ rfl rfl (QO.move rfl rfl) ?_
            refine Ops_skip rfl rfl ?_
            refine Ops_skip rfl rfl ?_
            refine Ops_skip rfl rfl ?_
            refine Ops_quiet _ rfl rfl (QO.pick_t rfl rfl rfl) ?_
            refine Ops_quiet _ rfl rfl (QO.move rfl rfl) ?_
            refine Ops_skip rfl rfl ?_
            refine Ops_skip rfl rfl ?_
            refine Ops_skip rfl rfl ?_
            refine Ops_skip rfl rfl ?_
            refine Ops_skip rfl rfl ?_
            refine Ops_quiet _ rfl rfl (QO.pick_t rfl rfl rfl) ?_
            refine Ops_quiet _ rfl rfl (QO.move rfl rfl) ?_
            refine Ops_skip rfl rfl ?_
            refine Ops_skip rfl rfl ?_
            refine Ops_skip rfl rfl ?_
            refine Ops_skip rfl rfl ?_
            refine Ops_skip rfl rfl ?_
            refine Ops_quiet _ rfl rfl (QO.pick_t rfl rfl rfl) ?_
            refine Ops_quiet _ rfl rfl (QO.move rfl rfl) ?_
            refine Ops_skip rfl rfl ?_
            refine Ops_skip rfl rfl ?_
            refine Ops_skip rfl rfl ?_
            refine Ops_quiet _ rfl rfl (QO.pick_t rfl rfl rfl) ?_
            refine Ops_quiet _ rfl rfl (QO.move rfl rfl) ?_
            refine Ops_skip rfl rfl ?_
            refine Ops_skip rfl rfl ?_
            refine Ops_skip rfl rfl ?_
            refine Ops_quiet _ rfl rfl (QO.pick_t rfl rfl rfl) ?_
            refine Ops_nil ?_
            refine thenA_n ?_
            refine wpA_cond_t rfl ?_
            refine wpA_weaken (show Abs.Sub _ [(2, .bool false)] from (Sub.cons rfl (Sub.nil))).ok (Le.refl _) ?_
            refine wpA_seq ?_
            refine wpA_region ?_
            refine Ops_quiet _ rfl rfl (QO.assign rfl rfl) ?_
            refine Ops_nil ?_
            refine thenA_n ?_
            refine wpA_ret ?_
            refine thenA_r ?_
            refine thenA_r ?_
            obtain rfl := Option.some.inj hm
            exact retA_r (h2 := h) (Res.one rfl (rfl)) (Le.under (Le.under (Le.under (Le.under (Le.under (Le.refl _) hb1) hb2) hb3) hb4) hb5) ⟨rfl, rfl⟩
           ·replace hm := cond_f hm g11
            refine Ops_quiet _ rfl rfl (QO.move rfl rfl) ?_
            refine Ops_quiet _ rfl rfl (QO.bin rfl rfl rfl rfl) ?_
            refine Ops_quiet _ rfl rfl (QO.pick_f rfl rfl rfl) ?_
            refine Ops_quiet _ rfl rfl (QO.move rfl rfl) ?_
            refine Ops_case 167 rfl (fun g12 => ?_) (fun g12 => ?_)
            ·replace hm := cond_t hm g12
             refine Ops_skip rfl rfl ?_
             refine Ops_skip rfl rfl ?_
             refine Ops_quiet _ rfl rfl (QO.pick_t rfl rfl rfl) ?_
             refine Ops_quiet _ rfl rfl (QO.move rfl rfl) ?_
             refine Ops_skip rfl rfl ?_
             refine Ops_skip rfl rfl ?_
             refine Ops_quiet _ rfl rfl (QO.pick_t rfl rfl rfl) ?_
             refine Ops_quiet _ rfl rfl (QO.move rfl rfl) ?_
             refine Ops_skip rfl rfl ?_
             refine Ops_skip rfl rfl ?_
             refine Ops_skip rfl rfl ?_
             refine Ops_quiet _ rfl rfl (QO.pick_t rfl rfl rfl) ?_
             refine Ops_quiet _ rfl rfl (QO.move rfl rfl) ?_
             refine Ops_skip rfl rfl ?_
             refine Ops_skip rfl rfl ?_
             refine Ops_skip rfl rfl ?_
             refine Ops_quiet _ rfl rfl (QO.pick_t rfl rfl rfl) ?_
             refine Ops_quiet _ rfl rfl (QO.move rfl rfl) ?_
             refine Ops_skip rfl rfl ?_
             refine Ops_skip rfl rfl ?_
             refine Ops_skip rfl rfl ?_
             refine Ops_skip rfl rfl ?_
             refine Ops_skip rfl rfl ?_
             refine Ops_quiet _ rfl rfl (QO.pick_t rfl rfl rfl) ?_
             refine Ops_quiet _ rfl rfl (QO.move rfl rfl) ?_
             refine Ops_skip rfl rfl ?_
             refine Ops_skip rfl rfl ?_
             refine Ops_skip rfl rfl ?_
             refine Ops_skip rfl rfl ?_
             refine Ops_skip rfl rfl ?_
             refine Ops_quiet _ rfl rfl (QO.pick_t rfl rfl rfl) ?_
             refine Ops_quiet _ rfl rfl (QO.move rfl rfl) ?_
             refine Ops_skip rfl rfl ?_
             refine Ops_skip rfl rfl ?_
             refine Ops_skip rfl rfl ?_
             refine Ops_quiet _ rfl rfl (QO.pick_t rfl rfl rfl) ?_
             refine Ops_quiet _ rfl rfl (QO.move rfl rfl) ?_
             refine Ops_skip rfl rfl ?_
             refine Ops_skip rfl rfl ?_
             refine Ops_skip rfl rfl ?_
             refine Ops_quiet _ rfl rfl (QO.pick_t rfl rfl rfl) ?_
             refine Ops_nil ?_
             refine thenA_n ?_
             refine wpA_cond_t rfl ?_
             refine wpA_weaken (show Abs.Sub _ [(2, .bool false)] from (Sub.cons rfl (Sub.nil))).ok (Le.refl _) ?_
             refine wpA_seq ?_
             refine wpA_region ?_
             refine Ops_quiet _ rfl rfl (QO.assign rfl rfl) ?_
             refine Ops_nil ?_
             refine thenA_n ?_
             refine wpA_ret ?_
             refine thenA_r ?_
             refine thenA_r ?_
             obtain rfl := Option.some.inj hm
             exact retA_r (h2 := h) (Res.one rfl (rfl)) (Le.under (Le.under (Le.under (Le.under (Le.under (Le.refl _) hb1) hb2) hb3) hb4) hb5) ⟨rfl, rfl⟩
            ·replace hm := cond_f hm g12
             refine Ops_quiet _ rfl rfl (QO.move rfl rfl) ?_
             refine Ops_quiet _ rfl rfl (QO.bin rfl rfl rfl rfl) ?_
             refine Ops_quiet _ rfl rfl (QO.pick_f rfl rfl rfl) ?_
             refine Ops_quiet _ rfl rfl (QO.move rfl rfl) ?_
             refine Ops_case 171 rfl (fun g13 => ?_) (fun g13 => ?_)
             ·replace hm := cond_t hm g13
              refine Ops_skip rfl rfl ?_
              refine Ops_skip rfl rfl ?_
              refine Ops_quiet _ rfl rfl (QO.pick_t rfl rfl rfl) ?_
              refine Ops_quiet _ rfl rfl (QO.move rfl rfl) ?_
              refine Ops_skip rfl rfl ?_
              refine Ops_skip rfl rfl ?_
              refine Ops_skip rfl rfl ?_
              refine Ops_quiet _ rfl rfl (QO.pick_t rfl rfl rfl) ?_
              refine Ops_quiet _ rfl rfl (QO.move rfl rfl) ?_
              refine Ops_skip rfl rfl ?_
              refine Ops_skip rfl rfl ?_
              refine Ops_skip rfl rfl ?_
              refine Ops_quiet _ rfl rfl (QO.pick_t rfl rfl rfl) ?_
              refine Ops_quiet _ rfl rfl (QO.move rfl rfl) ?_
              refine Ops_skip rfl rfl ?_
              refine Ops_skip rfl rfl ?_
              refine Ops_skip rfl rfl ?_
              refine Ops_skip rfl rfl ?_
              refine Ops_skip rfl rfl ?_
              refine Ops_quiet _ rfl rfl (QO.pick_t rfl rfl rfl) ?_
              refine Ops_quiet _ rfl rfl (QO.move rfl rfl) ?_
              refine Ops_skip rfl rfl ?_
              refine Ops_skip rfl rfl ?_
              refine Ops_skip rfl rfl ?_
              refine Ops_skip rfl rfl ?_
              refine Ops_skip rfl rfl ?_
              refine Ops_quiet _ rfl rfl (QO.pick_t rfl rfl rfl) ?_
              refine Ops_quiet _ rfl rfl (QO.move rfl rfl) ?_
              refine Ops_skip rfl rfl ?_
              refine Ops_skip rfl rfl ?_
              refine Ops_skip rfl rfl ?_
              refine Ops_quiet _ rfl rfl (QO.pick_t rfl rfl rfl) ?_
              refine Ops_quiet _ rfl rfl (QO.move rfl rfl) ?_
              refine Ops_skip rfl rfl ?_
              refine Ops_skip rfl rfl ?_
              refine Ops_skip rfl rfl ?_
              refine Ops_quiet _ rfl rfl (QO.pick_t rfl rfl rfl) ?_
              refine Ops_nil ?_
              refine thenA_n ?_
              refine wpA_cond_t rfl ?_
              refine wpA_weaken (show Abs.Sub _ [(2, .bool false)] from (Sub.cons rfl (Sub.nil))).ok (Le.refl _) ?_
              refine wpA_seq ?_
              refine wpA_region ?_
              refine Ops_quiet _ rfl rfl (QO.assign rfl rfl) ?_
              refine Ops_nil ?_
              refine thenA_n ?_
              refine wpA_ret ?_
              refine thenA_r ?_
              refine thenA_r ?_
              obtain rfl := Option.some.inj hm
              exact retA_r (h2 := h) (Res.one rfl (rfl)) (Le.under (Le.under (Le.under (Le.under (Le.under (Le.refl _) hb1) hb2) hb3) hb4) hb5) ⟨rfl, rfl⟩
             ·replace hm := cond_f hm g13
              refine Ops_quiet _ rfl rfl (QO.move rfl rfl) ?_
              refine Ops_quiet _ rfl rfl (QO.bin rfl rfl rfl rfl) ?_
              refine Ops_quiet _ rfl rfl (QO.pick_f rfl rfl rfl) ?_
              refine Ops_quiet _ rfl rfl (QO.move rfl rfl) ?_
              refine Ops_case 175 rfl (fun g14 => ?_) (fun g14 => ?_)
              ·replace hm := cond_t hm g14
               refine Ops_skip rfl rfl ?_
               refine Ops_skip rfl rfl ?_
               refine Ops_skip rfl rfl ?_
               refine Ops_quiet _ rfl rfl (QO.pick_t rfl rfl rfl) ?_
               refine Ops_quiet _ rfl rfl (QO.move rfl rfl) ?_
               refine Ops_skip rfl rfl ?_
               refine Ops_skip rfl rfl ?_
               refine Ops_skip rfl rfl ?_
               refine Ops_quiet _ rfl rfl (QO.pick_t rfl rfl rfl) ?_
               refine Ops_quiet _ rfl rfl (QO.move rfl rfl) ?_
               refine Ops_skip rfl rfl ?_
               refine Ops_skip rfl rfl ?_
               refine Ops_skip rfl rfl ?_
               refine Ops_skip rfl rfl ?_
               refine Ops_skip rfl rfl ?_
               refine Ops_quiet _ rfl rfl (QO.pick_t rfl rfl rfl) ?_
               refine Ops_quiet _ rfl rfl (QO.move rfl rfl) ?_
               refine Ops_skip rfl rfl ?_
               refine Ops_skip rfl rfl ?_
               refine Ops_skip rfl rfl ?_
               refine Ops_skip rfl rfl ?_
               refine Ops_skip rfl rfl ?_
               refine Ops_quiet _ rfl rfl (QO.pick_t rfl rfl rfl) ?_
               refine Ops_quiet _ rfl rfl (QO.move rfl rfl) ?_
               refine Ops_skip rfl rfl ?_
               refine Ops_skip rfl rfl ?_
               refine Ops_skip rfl rfl ?_
               refine Ops_quiet _ rfl rfl (QO.pick_t rfl rfl rfl) ?_
               refine Ops_quiet _ rfl rfl (QO.move rfl rfl) ?_
               refine Ops_skip rfl rfl ?_
               refine Ops_skip rfl rfl ?_
               refine Ops_skip rfl rfl ?_
               refine Ops_quiet _ rfl rfl (QO.pick_t rfl rfl rfl) ?_
               refine Ops_nil ?_
               refine thenA_n ?_
               refine wpA_cond_t rfl ?_
               refine wpA_weaken (show Abs.Sub _ [(2, .bool false)] from (Sub.cons rfl (Sub.nil))).ok (Le.refl _) ?_
               refine wpA_seq ?_
               refine wpA_region ?_
               refine Ops_quiet _ rfl rfl (QO.assign rfl rfl) ?_
               refine Ops_nil ?_
               refine thenA_n ?_
               refine wpA_ret ?_
               refine thenA_r ?_
               refine thenA_r ?_
               obtain rfl := Option.some.inj hm
               exact retA_r (h2 := h) (Res.one rfl (rfl)) (Le.under (Le.under (Le.under (Le.under (Le.under (Le.refl _) hb1) hb2) hb3) hb4) hb5) ⟨rfl, rfl⟩
              ·replace hm := cond_f hm g14
               refine Ops_quiet _ rfl rfl (QO.move rfl rfl) ?_
               refine Ops_quiet _ rfl rfl (QO.move rfl rfl) ?_
               refine Ops_quiet _ rfl rfl (QO.bin rfl rfl rfl rfl) ?_
               refine Ops_quiet _ rfl rfl (QO.pick_f rfl rfl rfl) ?_
               refine Ops_quiet _ rfl rfl (QO.move rfl rfl) ?_
               refine Ops_case 180 rfl (fun g15 => ?_) (fun g15 => ?_)
               ·replace hm := cond_t hm g15
                refine Ops_skip rfl rfl ?_
                refine Ops_skip rfl rfl ?_
                refine Ops_skip rfl rfl ?_
                refine Ops_quiet _ rfl rfl (QO.pick_t rfl rfl rfl) ?_
                refine Ops_quiet _ rfl rfl (QO.move rfl rfl) ?_
                refine Ops_skip rfl rfl ?_
                refine Ops_skip rfl rfl ?_
                refine Ops_skip rfl rfl ?_
                refine Ops_skip rfl rfl ?_
                refine Ops_skip rfl rfl ?_
                refine Ops_quiet _ rfl rfl (QO.pick_t rfl rfl rfl) ?_
                refine Ops_quiet _ rfl rfl (QO.move rfl rfl) ?_
                refine Ops_skip rfl rfl ?_
                refine Ops_skip rfl rfl ?_
                refine Ops_skip rfl rfl ?_
                refine Ops_skip rfl rfl ?_
                refine Ops_skip rfl rfl ?_
                refine Ops_quiet _ rfl rfl (QO.pick_t rfl rfl rfl) ?_
                refine Ops_quiet _ rfl rfl (QO.move rfl rfl) ?_
                refine Ops_skip rfl rfl ?_
                refine Ops_skip rfl rfl ?_
                refine Ops_skip rfl rfl ?_
                refine Ops_quiet _ rfl rfl (QO.pick_t rfl rfl rfl) ?_
                refine Ops_quiet _ rfl rfl (QO.move rfl rfl) ?_
                refine Ops_skip rfl rfl ?_
                refine Ops_skip rfl rfl ?_
                refine Ops_skip rfl rfl ?_
                refine Ops_quiet _ rfl rfl (QO.pick_t rfl rfl rfl) ?_
                refine Ops_nil ?_
                refine thenA_n ?_
                refine wpA_cond_t rfl ?_
                refine wpA_weaken (show Abs.Sub _ [(2, .bool false)] from (Sub.cons rfl (Sub.nil))).ok (Le.refl _) ?_
                refine wpA_seq ?_
                refine wpA_region ?_
                refine Ops_quiet _ rfl rfl (QO.assign rfl rfl) ?_
                refine Ops_nil ?_
                refine thenA_n ?_
                refine wpA_ret ?_
                refine thenA_r ?_
                refine thenA_r ?_
                obtain rfl := Option.some.inj hm
                exact retA_r (h2 := h) (Res.one rfl (rfl)) (Le.under (Le.under (Le.under (Le.under (Le.under (Le.refl _) hb1) hb2) hb3) hb4) hb5) ⟨rfl, rfl⟩
               ·replace hm := cond_f hm g15
                refine Ops_quiet _ rfl rfl (QO.move rfl rfl) ?_
                refine Ops_quiet _ rfl rfl (QO.move rfl rfl) ?_
                refine Ops_quiet _ rfl rfl (QO.bin rfl rfl rfl rfl) ?_
                refine Ops_quiet _ rfl rfl (QO.pick_f rfl rfl rfl) ?_
                refine Ops_quiet _ rfl rfl (QO.move rfl rfl) ?_
                refine Ops_case 185 rfl (fun g16 => ?_) (fun g16 => ?_)
                ·replace hm := cond_t hm g16
                 refine Ops_skip rfl rfl ?_
                 refine Ops_skip rfl rfl ?_
                 refine Ops_skip rfl rfl ?_
                 refine Ops_skip rfl rfl ?_
                 refine Ops_skip rfl rfl ?_
                 refine Ops_quiet _ rfl rfl (QO.pick_t rfl rfl rfl) ?_
                 refine Ops_quiet _ rfl rfl (QO.move rfl rfl) ?_
                 refine Ops_skip rfl rfl ?_
                 refine Ops_skip rfl rfl ?_
                 refine Ops_skip rfl rfl ?_
                 refine Ops_skip rfl rfl ?_
                 refine Ops_skip rfl rfl ?_
                 refine Ops_quiet _ rfl rfl (QO.pick_t rfl rfl rfl) ?_
                 refine Ops_quiet _ rfl rfl (QO.move rfl rfl) ?_
                 refine Ops_skip rfl rfl ?_
                 refine Ops_skip rfl rfl ?_
                 refine Ops_skip rfl rfl ?_
                 refine Ops_quiet _ rfl rfl (QO.pick_t rfl rfl rfl) ?_
                 refine Ops_quiet _ rfl rfl (QO.move rfl rfl) ?_
                 refine Ops_skip rfl rfl ?_
                 refine Ops_skip rfl rfl ?_
                 refine Ops_skip rfl rfl ?_
                 refine Ops_quiet _ rfl rfl (QO.pick_t rfl rfl rfl) ?_
                 refine Ops_nil ?_
                 refine thenA_n ?_
                 refine wpA_cond_t rfl ?_
                 refine wpA_weaken (show Abs.Sub _ [(2, .bool false)] from (Sub.cons rfl (Sub.nil))).ok (Le.refl _) ?_
                 refine wpA_seq ?_
                 refine wpA_region ?_
                 refine Ops_quiet _ rfl rfl (QO.assign rfl rfl) ?_
                 refine Ops_nil ?_
                 refine thenA_n ?_
                 refine wpA_ret ?_
                 refine thenA_r ?_
                 refine thenA_r ?_
                 obtain rfl := Option.some.inj hm
                 exact retA_r (h2 := h) (Res.one rfl (rfl)) (Le.under (Le.under (Le.under (Le.under (Le.under (Le.refl _) hb1) hb2) hb3) hb4) hb5) ⟨rfl, rfl⟩
                ·replace hm := cond_f hm g16
                 refine Ops_quiet _ rfl rfl (QO.move rfl rfl) ?_
                 have hq := chk hm; clear hm; obtain ⟨ck1, hm⟩ := hq
                 refine Ops_quiet _ rfl rfl (QO.idxArr rfl sz34 sz5 rfl rfl (by omega) (by omega)) ?_
                 refine Ops_quiet _ rfl rfl (QO.load rfl sz5 rfl rfl (by (refine (rd_own ((upd_ne _ _ n_b5_b2.ne.symm).trans ((upd_ne _ _ n_b4_b2.ne.symm).trans ((upd_ne _ _ n_b3_b2.ne.symm).trans (upd_same _ _ _)))) _).trans ?_); exact tabI_get01 (by omega))) ?_
                 refine Ops_quiet _ rfl rfl (QO.move rfl rfl) ?_
                 refine Ops_quiet _ rfl rfl (QO.bin rfl rfl rfl rfl) ?_
                 refine Ops_quiet _ rfl rfl (QO.pick_f rfl rfl rfl) ?_
                 refine Ops_quiet _ rfl rfl (QO.move rfl rfl) ?_
                 refine Ops_case 192 rfl (fun g17 => ?_) (fun g17 => ?_)
                 ·replace hm := cond_t hm g17
                  refine Ops_skip rfl rfl ?_
                  refine Ops_skip rfl rfl ?_
                  refine Ops_skip rfl rfl ?_
                  refine Ops_skip rfl rfl ?_
                  refine Ops_skip rfl rfl ?_
                  refine Ops_quiet _ rfl rfl (QO.pick_t rfl rfl rfl) ?_
                  refine Ops_quiet _ rfl rfl (QO.move rfl rfl) ?_
                  refine Ops_skip rfl rfl ?_
                  refine Ops_skip rfl rfl ?_
                  refine Ops_skip rfl rfl ?_
                  refine Ops_quiet _ rfl rfl (QO.pick_t rfl rfl rfl) ?_
                  refine Ops_quiet _ rfl rfl (QO.move rfl rfl) ?_
                  refine Ops_skip rfl rfl ?_
                  refine Ops_skip rfl rfl ?_
                  refine Ops_skip rfl rfl ?_
                  refine Ops_quiet _ rfl rfl (QO.pick_t rfl rfl rfl) ?_
                  refine Ops_nil ?_
                  refine thenA_n ?_
                  refine wpA_cond_t rfl ?_
                  refine wpA_weaken (show Abs.Sub _ [(2, .bool false)] from (Sub.cons rfl (Sub.nil))).ok (Le.refl _) ?_
                  refine wpA_seq ?_
                  refine wpA_region ?_
                  refine Ops_quiet _ rfl rfl (QO.assign rfl rfl) ?_
                  refine Ops_nil ?_
                  refine thenA_n ?_
                  refine wpA_ret ?_
                  refine thenA_r ?_
                  refine thenA_r ?_
                  obtain rfl := Option.some.inj hm
                  exact retA_r (h2 := h) (Res.one rfl (rfl)) (Le.under (Le.under (Le.under (Le.under (Le.under (Le.refl _) hb1) hb2) hb3) hb4) hb5) ⟨rfl, rfl⟩
                 ·replace hm := cond_f hm g17
                  refine Ops_quiet _ rfl rfl (QO.move rfl rfl) ?_
                  have hq := chk hm; clear hm; obtain ⟨ck2, hm⟩ := hq
                  refine Ops_quiet _ rfl rfl (QO.idxArr rfl sz34 sz5 rfl rfl (by omega) (by omega)) ?_
                  refine Ops_quiet _ rfl rfl (QO.load rfl sz5 rfl rfl (by (refine (rd_own ((upd_ne _ _ n_b5_b3.ne.symm).trans ((upd_ne _ _ n_b4_b3.ne.symm).trans (upd_same _ _ _))) _).trans ?_); exact tabI_get01 (by omega))) ?_
                  refine Ops_quiet _ rfl rfl (QO.move rfl rfl) ?_
                  refine Ops_quiet _ rfl rfl (QO.bin rfl rfl rfl rfl) ?_
                  refine Ops_quiet _ rfl rfl (QO.pick_f rfl rfl rfl) ?_
                  refine Ops_quiet _ rfl rfl (QO.move rfl rfl) ?_
                  refine Ops_case 199 rfl (fun g18 => ?_) (fun g18 => ?_)
                  ·replace hm := cond_t hm g18
                   refine Ops_skip rfl rfl ?_
                   refine Ops_skip rfl rfl ?_
                   refine Ops_skip rfl rfl ?_
                   refine Ops_quiet _ rfl rfl (QO.pick_t rfl rfl rfl) ?_
                   refine Ops_quiet _ rfl rfl (QO.move rfl rfl) ?_
                   refine Ops_skip rfl rfl ?_
                   refine Ops_skip rfl rfl ?_
                   refine Ops_skip rfl rfl ?_
                   refine Ops_quiet _ rfl rfl (QO.pick_t rfl rfl rfl) ?_
                   refine Ops_nil ?_
                   refine thenA_n ?_
                   refine wpA_cond_t rfl ?_
                   refine wpA_weaken (show Abs.Sub _ [(2, .bool false)] from (Sub.cons rfl (Sub.nil))).ok (Le.refl _) ?_
                   refine wpA_seq ?_
                   refine wpA_region ?_
                   refine Ops_quiet _ rfl rfl (QO.assign rfl rfl) ?_
                   refine Ops_nil ?_
                   refine thenA_n ?_
                   refine wpA_ret ?_
                   refine thenA_r ?_
                   refine thenA_r ?_
                   obtain rfl := Option.some.inj hm
                   exact retA_r (h2 := h) (Res.one rfl (rfl)) (Le.under (Le.under (Le.under (Le.under (Le.under (Le.refl _) hb1) hb2) hb3) hb4) hb5) ⟨rfl, rfl⟩
                  ·replace hm := cond_f hm g18
                   refine Ops_quiet _ rfl rfl (QO.loadRow (cs := sqC r16.1) (hr := (rdAll (upd_same _ _ _))) rfl sz28 rfl rfl (sqC_length _)) ?_
                   refine Ops_quiet _ rfl rfl (QO.loadRow (cs := sqC r2.1) (hr := (rdAll ((upd_ne _ _ n_b5_b1.ne.symm).trans ((upd_ne _ _ n_b4_b1.ne.symm).trans ((upd_ne _ _ n_b3_b1.ne.symm).trans ((upd_ne _ _ n_b2_b1.ne.symm).trans (upd_same _ _ _))))))) rfl sz28 rfl rfl (sqC_length _)) ?_
                   refine Ops_quiet _ rfl rfl (QO.agg_neq rfl rfl rfl eg28 (eqv28 _ _) rfl) ?_
                   refine Ops_quiet _ rfl rfl (QO.pick_f rfl rfl rfl) ?_
                   refine Ops_quiet _ rfl rfl (QO.move rfl rfl) ?_
                   refine Ops_case 204 rfl (fun g19 => ?_) (fun g19 => ?_)
                   ·replace hm := cond_t hm g19
                    refine Ops_skip rfl rfl ?_
                    refine Ops_skip rfl rfl ?_
                    refine Ops_skip rfl rfl ?_
                    refine Ops_quiet _ rfl rfl (QO.pick_t rfl rfl rfl) ?_
                    refine Ops_nil ?_
                    refine thenA_n ?_
                    refine wpA_cond_t rfl ?_
                    refine wpA_weaken (show Abs.Sub _ [(2, .bool false)] from (Sub.cons rfl (Sub.nil))).ok (Le.refl _) ?_
                    refine wpA_seq ?_
                    refine wpA_region ?_
                    refine Ops_quiet _ rfl rfl (QO.assign rfl rfl) ?_
                    refine Ops_nil ?_
                    refine thenA_n ?_
                    refine wpA_ret ?_
                    refine thenA_r ?_
                    refine thenA_r ?_
                    obtain rfl := Option.some.inj hm
                    exact retA_r (h2 := h) (Res.one rfl (rfl)) (Le.under (Le.under (Le.under (Le.under (Le.under (Le.refl _) hb1) hb2) hb3) hb4) hb5) ⟨rfl, rfl⟩
                   ·replace hm := cond_f hm g19
                    refine Ops_quiet _ rfl rfl (QO.move rfl rfl) ?_
                    refine Ops_quiet _ rfl rfl (QO.move rfl rfl) ?_
                    refine Ops_quiet _ rfl rfl (QO.bin rfl rfl rfl rfl) ?_
                    refine Ops_quiet _ rfl rfl (QO.pick_f rfl rfl rfl) ?_
                    refine Ops_nil ?_
                    refine thenA_n ?_
                    refine wpA_cond rfl (fun g20 => ?_) (fun g20 => ?_)
                    ·replace hm := cond_t hm g20
                     refine wpA_weaken (show Abs.Sub _ [(2, .bool false)] from (Sub.cons rfl (Sub.nil))).ok (Le.refl _) ?_
                     refine wpA_seq ?_
                     refine wpA_region ?_
                     refine Ops_quiet _ rfl rfl (QO.assign rfl rfl) ?_
                     refine Ops_nil ?_
                     refine thenA_n ?_
                     refine wpA_ret ?_
                     refine thenA_r ?_
                     refine thenA_r ?_
                     obtain rfl := Option.some.inj hm
                     exact retA_r (h2 := h) (Res.one rfl (rfl)) (Le.under (Le.under (Le.under (Le.under (Le.under (Le.refl _) hb1) hb2) hb3) hb4) hb5) ⟨rfl, rfl⟩
                    ·replace hm := cond_f hm g20
                     refine wpA_skip ?_
                     refine thenA_n ?_
                     refine wpA_weaken (show Abs.Sub _ [(0, .slice A0 l0.length c0), (2, .bool false), (3, .pointer (some ⟨b1, 0, none⟩))] from (Sub.cons rfl (Sub.cons rfl (Sub.cons rfl (Sub.nil))))).ok (Le.refl _) ?_
                     refine wpA_seq ?_
                     refine wpA_region ?_
                     refine Ops_quiet _ rfl rfl (QO.loadRow (cs := sqC r2.1) (hr := (rdAll ((upd_ne _ _ n_b5_b1.ne.symm).trans ((upd_ne _ _ n_b4_b1.ne.symm).trans ((upd_ne _ _ n_b3_b1.ne.symm).trans ((upd_ne _ _ n_b2_b1.ne.symm).trans (upd_same _ _ _))))))) rfl sz28 rfl rfl (sqC_length _)) ?_
                     have hq := Option.bind_eq_some_iff.1 hm; clear hm; obtain ⟨r18, hr18, hm⟩ := hq
                     refine Ops_call _ _ rfl rfl (EO.fn rfl Try.func19 rfl rfl (Evs.cons rfl Evs.nil)) (CC.mono (c_impl_ListsOfSquare hr18 ) ?_)
                     rintro _ _ ⟨g_f1, b6, cap_b6, hf1, okf_f1, hb6, ho_b6, rfl, rfl⟩
                     simp only [frF_updA, frF_updOA] at hf1
                     obtain ⟨n_f1_b5, n_f1_b4, n_f1_b3, n_f1_b2, n_f1_b1, hf1⟩ := hf1
                     simp only [frO_updA, frO_updOA, frO_famHA] at hb6
                     obtain ⟨n_b6_f1, n_b6_b5, n_b6_b4, n_b6_b3, n_b6_b2, n_b6_b1, hb6⟩ := hb6
                     refine Ops_quiet _ rfl rfl (QO.move rfl rfl) ?_
                     refine Ops_quiet _ rfl rfl (QO.extract rfl rfl rfl) ?_
                     refine Ops_quiet _ rfl rfl (QO.extract rfl rfl rfl) ?_
                     refine Ops_quiet _ rfl rfl (QO.assign rfl rfl) ?_
                     refine Ops_quiet _ rfl rfl (QO.assign rfl rfl) ?_
                     refine Ops_nil ?_
                     refine thenA_n ?_
                     refine wpA_seq ?_
                     refine wpA_region ?_
                     refine Ops_quiet _ rfl rfl (QO.move rfl rfl) ?_
                     have hq := Option.bind_eq_some_iff.1 hm; clear hm; obtain ⟨r19, hr19, hm⟩ := hq
                     refine Ops_call _ _ rfl rfl (EO.fn rfl Try.func20 rfl rfl (Evs.cons rfl Evs.nil)) (QC.cc (c_impl_SquareOfLists (l0 := r18.1) (A0 := adO b6) (c0 := cap_b6) (ga0 := (g_f1).map fun p => (adO p.1, p.2)) hr19 (RdSS.fam (RdS.ownO LkO.here (fun e => congrArg (fun l => rowsC g_f1 l) (ho_b6.nilL e))) (fun i hi => RdS.ownO (LkO.thereO (NeOF.neOO n_b6_f1 i) (famH_row okf_f1 hi)) (fun e => congrArg (fun l => ints .i64 l) ((okf_f1.ok i hi).nilL e))))) ?_)
                     refine Ops_quiet _ rfl rfl (QO.move rfl rfl) ?_
                     refine Ops_quiet _ rfl rfl (QO.extract rfl rfl rfl) ?_
                     refine Ops_quiet _ rfl rfl (QO.extract rfl rfl rfl) ?_
                     refine Ops_loud rfl (LO.alloc rfl zr28 rfl (fun b7 hb7 => ?_))
                     simp only [upd_noneA, updO_noneA, famH_noneA] at hb7
                     obtain ⟨n_b7_b6, n_b7_f1, n_b7_b5, n_b7_b4, n_b7_b3, n_b7_b2, n_b7_b1, hb7⟩ := hb7
                     refine Ops_loud rfl (LO.storeAll (cs := sqC r19.1) rfl sz28 rfl rfl (sqC_one _) (sqC_length _) (upd_same _ _ _) (sqC_length _) Chg.here rfl ?_)
                     refine Ops_quiet _ rfl rfl (QO.assign rfl rfl) ?_
                     refine Ops_nil ?_
                     refine thenA_n ?_
                     refine wpA_seq ?_
                     refine wpA_region ?_
                     refine Ops_quiet _ rfl rfl (QO.loadRow (cs := sqC r2.1) (hr := (rdAll ((upd_ne _ _ n_b7_b1.ne.symm).trans ((updO_ne n_b6_b1).trans ((famH_ne n_f1_b1).trans ((upd_ne _ _ n_b5_b1.ne.symm).trans ((upd_ne _ _ n_b4_b1.ne.symm).trans ((upd_ne _ _ n_b3_b1.ne.symm).trans ((upd_ne _ _ n_b2_b1.ne.symm).trans (upd_same _ _ _)))))))))) rfl sz28 rfl rfl (sqC_length _)) ?_
                     have hq := Option.bind_eq_some_iff.1 hm; clear hm; obtain ⟨r20, hr20, hm⟩ := hq
                     refine Ops_call _ _ rfl rfl (EO.fn rfl Try.func21 rfl rfl (Evs.cons rfl Evs.nil)) (QC.cc (c_impl_SquareText hr20 ) ?_)
                     refine Ops_quiet _ rfl rfl (QO.move rfl rfl) ?_
                     refine Ops_quiet _ rfl rfl (QO.extract rfl rfl rfl) ?_
                     refine Ops_quiet _ rfl rfl (QO.extract rfl rfl rfl) ?_
                     refine Ops_quiet _ rfl rfl (QO.assign rfl rfl) ?_
                     refine Ops_quiet _ rfl rfl (QO.assign rfl rfl) ?_
                     refine Ops_nil ?_
                     refine thenA_n ?_
                     refine wpA_seq ?_
                     refine wpA_region ?_
                     refine Ops_quiet _ rfl rfl (QO.move rfl rfl) ?_
                     have hq := Option.bind_eq_some_iff.1 hm; clear hm; obtain ⟨r21, hr21, hm⟩ := hq
                     refine Ops_call _ _ rfl rfl (EO.fn rfl Try.func22 rfl rfl (Evs.cons rfl Evs.nil)) (QC.cc (c_impl_ParseSquare hr21 ) ?_)
                     refine Ops_quiet _ rfl rfl (QO.move rfl rfl) ?_
                     refine Ops_quiet _ rfl rfl (QO.extract rfl rfl rfl) ?_
                     refine Ops_quiet _ rfl rfl (QO.extract rfl rfl rfl) ?_
                     refine Ops_loud rfl (LO.alloc rfl zr28 rfl (fun b8 hb8 => ?_))
                     simp only [upd_noneA, updO_noneA, famH_noneA] at hb8
                     obtain ⟨n_b8_b7, n_b8_b6, n_b8_f1, n_b8_b5, n_b8_b4, n_b8_b3, n_b8_b2, n_b8_b1, hb8⟩ := hb8
                     refine Ops_loud rfl (LO.storeAll (cs := sqC r21.1) rfl sz28 rfl rfl (sqC_one _) (sqC_length _) (upd_same _ _ _) (sqC_length _) Chg.here rfl ?_)
                     refine Ops_quiet _ rfl rfl (QO.assign rfl rfl) ?_
                     refine Ops_nil ?_
                     refine thenA_n ?_
                     refine wpA_seq ?_
                     refine wpA_region ?_
                     refine Ops_quiet _ rfl rfl (QO.move rfl rfl) ?_
                     refine Ops_quiet _ rfl rfl (QO.bin rfl rfl rfl rfl) ?_
                     refine Ops_quiet _ rfl rfl (QO.move rfl rfl) ?_
                     refine Ops_case 231 rfl (fun g21 => ?_) (fun g21 => ?_)
                     ·replace hm := cond_t hm g21
                      refine Ops_skip rfl rfl ?_
                      refine Ops_skip rfl rfl ?_
                      refine Ops_quiet _ rfl rfl (QO.pick_t rfl rfl rfl) ?_
                      refine Ops_quiet _ rfl rfl (QO.move rfl rfl) ?_
                      refine Ops_skip rfl rfl ?_
                      refine Ops_skip rfl rfl ?_
                      refine Ops_quiet _ rfl rfl (QO.pick_t rfl rfl rfl) ?_
                      refine Ops_quiet _ rfl rfl (QO.move rfl rfl) ?_
                      refine Ops_skip rfl rfl ?_
                      refine Ops_skip rfl rfl ?_
                      refine Ops_quiet _ rfl rfl (QO.pick_t rfl rfl rfl) ?_
                      refine Ops_quiet _ rfl rfl (QO.move rfl rfl) ?_
                      refine Ops_skip rfl rfl ?_
                      refine Ops_skip rfl rfl ?_
                      refine Ops_skip rfl rfl ?_
                      refine Ops_quiet _ rfl rfl (QO.pick_t rfl rfl rfl) ?_
                      refine Ops_quiet _ rfl rfl (QO.move rfl rfl) ?_
                      refine Ops_skip rfl rfl ?_
                      refine Ops_skip rfl rfl ?_
                      refine Ops_skip rfl rfl ?_
                      refine Ops_quiet _ rfl rfl (QO.pick_t rfl rfl rfl) ?_
                      refine Ops_nil ?_
                      refine thenA_n ?_
                      refine wpA_cond_t rfl ?_
                      refine wpA_seq ?_
                      refine wpA_region ?_
                      refine Ops_quiet _ rfl rfl (QO.assign rfl rfl) ?_
                      refine Ops_nil ?_
                      refine thenA_n ?_
                      refine wpA_ret ?_
                      refine thenA_r ?_
                      obtain rfl := Option.some.inj hm
                      exact retA_r (h2 := h) (Res.one rfl (rfl)) (Le.under (Le.under (Le.underO (Le.underF (Le.under (Le.under (Le.under (Le.under (Le.under (Le.refl _) hb1) hb2) hb3) hb4) hb5) hf1) hb6) hb7) hb8) ⟨rfl, rfl⟩
                     ·replace hm := cond_f hm g21
                      refine Ops_quiet _ rfl rfl (QO.move rfl rfl) ?_
                      refine Ops_quiet _ rfl rfl (QO.bin rfl rfl rfl rfl) ?_
                      refine Ops_quiet _ rfl rfl (QO.pick_f rfl rfl rfl) ?_
                      refine Ops_quiet _ rfl rfl (QO.move rfl rfl) ?_
                      refine Ops_case 235 rfl (fun g22 => ?_) (fun g22 => ?_)
                      ·replace hm := cond_t hm g22
                       refine Ops_skip rfl rfl ?_
                       refine Ops_skip rfl rfl ?_
                       refine Ops_quiet _ rfl rfl (QO.pick_t rfl rfl rfl) ?_
                       refine Ops_quiet _ rfl rfl (QO.move rfl rfl) ?_
                       refine Ops_skip rfl rfl ?_
                       refine Ops_skip rfl rfl ?_
                       refine Ops_quiet _ rfl rfl (QO.pick_t rfl rfl rfl) ?_
                       refine Ops_quiet _ rfl rfl (QO.move rfl rfl) ?_
                       refine Ops_skip rfl rfl ?_
                       refine Ops_skip rfl rfl ?_
                       refine Ops_skip rfl rfl ?_
                       refine Ops_quiet _ rfl rfl (QO.pick_t rfl rfl rfl) ?_
                       refine Ops_quiet _ rfl rfl (QO.move rfl rfl) ?_
                       refine Ops_skip rfl rfl ?_
                       refine Ops_skip rfl rfl ?_
                       refine Ops_skip rfl rfl ?_
                       refine Ops_quiet _ rfl rfl (QO.pick_t rfl rfl rfl) ?_
                       refine Ops_nil ?_
                       refine thenA_n ?_
                       refine wpA_cond_t rfl ?_
                       refine wpA_seq ?_
                       refine wpA_region ?_
                       refine Ops_quiet _ rfl rfl (QO.assign rfl rfl) ?_
                       refine Ops_nil ?_
                       refine thenA_n ?_
                       refine wpA_ret ?_
                       refine thenA_r ?_
                       obtain rfl := Option.some.inj hm
                       exact retA_r (h2 := h) (Res.one rfl (rfl)) (Le.under (Le.under (Le.underO (Le.underF (Le.under (Le.under (Le.under (Le.under (Le.under (Le.refl _) hb1) hb2) hb3) hb4) hb5) hf1) hb6) hb7) hb8) ⟨rfl, rfl⟩
                      ·replace hm := cond_f hm g22
                       refine Ops_quiet _ rfl rfl (QO.move rfl rfl) ?_
                       refine Ops_quiet _ rfl rfl (QO.bin rfl rfl rfl rfl) ?_
                       refine Ops_quiet _ rfl rfl (QO.pick_f rfl rfl rfl) ?_
                       refine Ops_quiet _ rfl rfl (QO.move rfl rfl) ?_
                       refine Ops_case 239 rfl (fun g23 => ?_) (fun g23 => ?_)
                       ·replace hm := cond_t hm g23
                        refine Ops_skip rfl rfl ?_
                        refine Ops_skip rfl rfl ?_
                        refine Ops_quiet _ rfl rfl (QO.pick_t rfl rfl rfl) ?_
                        refine Ops_quiet _ rfl rfl (QO.move rfl rfl) ?_
                        refine Ops_skip rfl rfl ?_
                        refine Ops_skip rfl rfl ?_
                        refine Ops_skip rfl rfl ?_
                        refine Ops_quiet _ rfl rfl (QO.pick_t rfl rfl rfl) ?_
                        refine Ops_quiet _ rfl rfl (QO.move rfl rfl) ?_
                        refine Ops_skip rfl rfl ?_
                        refine Ops_skip rfl rfl ?_
                        refine Ops_skip rfl rfl ?_
                        refine Ops_quiet _ rfl rfl (QO.pick_t rfl rfl rfl) ?_
                        refine Ops_nil ?_
                        refine thenA_n ?_
                        refine wpA_cond_t rfl ?_
                        refine wpA_seq ?_
                        refine wpA_region ?_
                        refine Ops_quiet _ rfl rfl (QO.assign rfl rfl) ?_
                        refine Ops_nil ?_
                        refine thenA_n ?_
                        refine wpA_ret ?_
                        refine thenA_r ?_
                        obtain rfl := Option.some.inj hm
                        exact retA_r (h2 := h) (Res.one rfl (rfl)) (Le.under (Le.under (Le.underO (Le.underF (Le.under (Le.under (Le.under (Le.under (Le.under (Le.refl _) hb1) hb2) hb3) hb4) hb5) hf1) hb6) hb7) hb8) ⟨rfl, rfl⟩
                       ·replace hm := cond_f hm g23
                        refine Ops_quiet _ rfl rfl (QO.move rfl rfl) ?_
                        refine Ops_quiet _ rfl rfl (QO.bin rfl rfl rfl rfl) ?_
                        refine Ops_quiet _ rfl rfl (QO.pick_f rfl rfl rfl) ?_
                        refine Ops_quiet _ rfl rfl (QO.move rfl rfl) ?_
                        refine Ops_case 243 rfl (fun g24 => ?_) (fun g24 => ?_)
                        ·replace hm := cond_t hm g24
                         refine Ops_skip rfl rfl ?_
                         refine Ops_skip rfl rfl ?_
                         refine Ops_skip rfl rfl ?_
                         refine Ops_quiet _ rfl rfl (QO.pick_t rfl rfl rfl) ?_
                         refine Ops_quiet _ rfl rfl (QO.move rfl rfl) ?_
                         refine Ops_skip rfl rfl ?_
                         refine Ops_skip rfl rfl ?_
                         refine Ops_skip rfl rfl ?_
                         refine Ops_quiet _ rfl rfl (QO.pick_t rfl rfl rfl) ?_
                         refine Ops_nil ?_
                         refine thenA_n ?_
                         refine wpA_cond_t rfl ?_
                         refine wpA_seq ?_
                         refine wpA_region ?_
                         refine Ops_quiet _ rfl rfl (QO.assign rfl rfl) ?_
                         refine Ops_nil ?_
                         refine thenA_n ?_
                         refine wpA_ret ?_
                         refine thenA_r ?_
                         obtain rfl := Option.some.inj hm
                         exact retA_r (h2 := h) (Res.one rfl (rfl)) (Le.under (Le.under (Le.underO (Le.underF (Le.under (Le.under (Le.under (Le.under (Le.under (Le.refl _) hb1) hb2) hb3) hb4) hb5) hf1) hb6) hb7) hb8) ⟨rfl, rfl⟩
                        ·replace hm := cond_f hm g24
                         refine Ops_quiet _ rfl rfl (QO.loadRow (cs := sqC r19.1) (hr := (rdAll ((upd_ne _ _ n_b8_b7.ne.symm).trans (upd_same _ _ _)))) rfl sz28 rfl rfl (sqC_length _)) ?_
                         refine Ops_quiet _ rfl rfl (QO.loadRow (cs := sqC r2.1) (hr := (rdAll ((upd_ne _ _ n_b8_b1.ne.symm).trans ((upd_ne _ _ n_b7_b1.ne.symm).trans ((updO_ne n_b6_b1).trans ((famH_ne n_f1_b1).trans ((upd_ne _ _ n_b5_b1.ne.symm).trans ((upd_ne _ _ n_b4_b1.ne.symm).trans ((upd_ne _ _ n_b3_b1.ne.symm).trans ((upd_ne _ _ n_b2_b1.ne.symm).trans (upd_same _ _ _))))))))))) rfl sz28 rfl rfl (sqC_length _)) ?_
                         refine Ops_quiet _ rfl rfl (QO.agg_neq rfl rfl rfl eg28 (eqv28 _ _) rfl) ?_
                         refine Ops_quiet _ rfl rfl (QO.pick_f rfl rfl rfl) ?_
                         refine Ops_quiet _ rfl rfl (QO.move rfl rfl) ?_
                         refine Ops_case 248 rfl (fun g25 => ?_) (fun g25 => ?_)
                         ·replace hm := cond_t hm g25
                          refine Ops_skip rfl rfl ?_
                          refine Ops_skip rfl rfl ?_
                          refine Ops_skip rfl rfl ?_
                          refine Ops_quiet _ rfl rfl (QO.pick_t rfl rfl rfl) ?_
                          refine Ops_nil ?_
                          refine thenA_n ?_
                          refine wpA_cond_t rfl ?_
                          refine wpA_seq ?_
                          refine wpA_region ?_
                          refine Ops_quiet _ rfl rfl (QO.assign rfl rfl) ?_
                          refine Ops_nil ?_
                          refine thenA_n ?_
                          refine wpA_ret ?_
                          refine thenA_r ?_
                          obtain rfl := Option.some.inj hm
                          exact retA_r (h2 := h) (Res.one rfl (rfl)) (Le.under (Le.under (Le.underO (Le.underF (Le.under (Le.under (Le.under (Le.under (Le.under (Le.refl _) hb1) hb2) hb3) hb4) hb5) hf1) hb6) hb7) hb8) ⟨rfl, rfl⟩
                         ·replace hm := cond_f hm g25
                          refine Ops_quiet _ rfl rfl (QO.loadRow (cs := sqC r21.1) (hr := (rdAll (upd_same _ _ _))) rfl sz28 rfl rfl (sqC_length _)) ?_
                          refine Ops_quiet _ rfl rfl (QO.loadRow (cs := sqC r2.1) (hr := (rdAll ((upd_ne _ _ n_b8_b1.ne.symm).trans ((upd_ne _ _ n_b7_b1.ne.symm).trans ((updO_ne n_b6_b1).trans ((famH_ne n_f1_b1).trans ((upd_ne _ _ n_b5_b1.ne.symm).trans ((upd_ne _ _ n_b4_b1.ne.symm).trans ((upd_ne _ _ n_b3_b1.ne.symm).trans ((upd_ne _ _ n_b2_b1.ne.symm).trans (upd_same _ _ _))))))))))) rfl sz28 rfl rfl (sqC_length _)) ?_
                          refine Ops_quiet _ rfl rfl (QO.agg_neq rfl rfl rfl eg28 (eqv28 _ _) rfl) ?_
                          refine Ops_quiet _ rfl rfl (QO.pick_f rfl rfl rfl) ?_
                          refine Ops_nil ?_
                          refine thenA_n ?_
                          refine wpA_cond rfl (fun g26 => ?_) (fun g26 => ?_)
                          ·replace hm := cond_t hm g26
                           refine wpA_seq ?_
                           refine wpA_region ?_
                           refine Ops_quiet _ rfl rfl (QO.assign rfl rfl) ?_
                           refine Ops_nil ?_
                           refine thenA_n ?_
                           refine wpA_ret ?_
                           refine thenA_r ?_
                           obtain rfl := Option.some.inj hm
                           exact retA_r (h2 := h) (Res.one rfl (rfl)) (Le.under (Le.under (Le.underO (Le.underF (Le.under (Le.under (Le.under (Le.under (Le.under (Le.refl _) hb1) hb2) hb3) hb4) hb5) hf1) hb6) hb7) hb8) ⟨rfl, rfl⟩
                          ·replace hm := cond_f hm g26
                           refine wpA_skip ?_
                           refine thenA_n ?_
                           refine wpA_seq ?_
                           refine wpA_region ?_
                           refine Ops_quiet _ rfl rfl (QO.move rfl rfl) ?_
                           have hq := Option.bind_eq_some_iff.1 hm; clear hm; obtain ⟨r22, hr22, hm⟩ := hq
                           refine Ops_call _ _ rfl rfl (EO.fn rfl Try.func23 rfl rfl (Evs.cons rfl Evs.nil)) (QC.cc (c_spec_DrawLeftQuotient (l0 := l0) (A0 := A0) (c0 := c0) hr22 (RdS.le hs0 (Le.under (Le.under (Le.underO (Le.underF (Le.under (Le.under (Le.under (Le.under (Le.under (Le.refl _) hb1) hb2) hb3) hb4) hb5) hf1) hb6) hb7) hb8))) ?_)
                           refine Ops_quiet _ rfl rfl (QO.move rfl rfl) ?_
                           refine Ops_quiet _ rfl rfl (QO.extract rfl rfl rfl) ?_
                           refine Ops_quiet _ rfl rfl (QO.extract rfl rfl rfl) ?_
                           refine Ops_quiet _ rfl rfl (QO.extract rfl rfl rfl) ?_
                           refine Ops_loud rfl (LO.alloc rfl zr28 rfl (fun b9 hb9 => ?_))
                           simp only [upd_noneA, updO_noneA, famH_noneA] at hb9
                           obtain ⟨n_b9_b8, n_b9_b7, n_b9_b6, n_b9_f1, n_b9_b5, n_b9_b4, n_b9_b3, n_b9_b2, n_b9_b1, hb9⟩ := hb9
                           refine Ops_loud rfl (LO.storeAll (cs := sqC r22.1) rfl sz28 rfl rfl (sqC_one _) (sqC_length _) (upd_same _ _ _) (sqC_length _) Chg.here rfl ?_)
                           refine Ops_quiet _ rfl rfl (QO.assign rfl rfl) ?_
                           refine Ops_quiet _ rfl rfl (QO.assign rfl rfl) ?_
                           refine Ops_nil ?_
                           refine thenA_n ?_
                           refine wpA_weaken (show Abs.Sub _ [(0, .slice A0 l0.length c0), (2, .bool false), (32, .pointer (some ⟨b9, 0, none⟩)), (33, .int .u8 r22.2.1), (34, .int .u8 r22.2.2)] from (Sub.cons rfl (Sub.cons rfl (Sub.cons rfl (Sub.cons rfl (Sub.cons rfl (Sub.nil))))))).ok (Le.refl _) ?_
                           refine wpA_seq ?_
                           refine wpA_region ?_
                           refine Ops_quiet _ rfl rfl (QO.loadRow (cs := sqC r22.1) (hr := (rdAll (upd_same _ _ _))) rfl sz28 rfl rfl (sqC_length _)) ?_
                           refine Ops_quiet _ rfl rfl (QO.move rfl rfl) ?_
                           refine Ops_quiet _ rfl rfl (QO.move rfl rfl) ?_
                           have hq := Option.bind_eq_some_iff.1 hm; clear hm; obtain ⟨r23, hr23, hm⟩ := hq
                           refine Ops_call _ _ rfl rfl (EO.fn rfl Try.func14 rfl rfl (Evs.cons rfl (Evs.cons rfl (Evs.cons rfl Evs.nil)))) (QC.cc (c_impl_LeftQuotient hr23 ) ?_)
                           refine Ops_quiet _ rfl rfl (QO.move rfl rfl) ?_
                           refine Ops_quiet _ rfl rfl (QO.extract rfl rfl rfl) ?_
                           refine Ops_quiet _ rfl rfl (QO.extract rfl rfl rfl) ?_
                           refine Ops_quiet _ rfl rfl (QO.assign rfl rfl) ?_
                           refine Ops_quiet _ rfl rfl (QO.assign rfl rfl) ?_
                           refine Ops_nil ?_
                           refine thenA_n ?_
                           refine wpA_seq ?_
                           refine wpA_region ?_
                           refine Ops_quiet _ rfl rfl (QO.loadRow (cs := sqC r22.1) (hr := (rdAll (upd_same _ _ _))) rfl sz28 rfl rfl (sqC_length _)) ?_
                           refine Ops_quiet _ rfl rfl (QO.move rfl rfl) ?_
                           refine Ops_quiet _ rfl rfl (QO.move rfl rfl) ?_
                           have hq := Option.bind_eq_some_iff.1 hm; clear hm; obtain ⟨r24, hr24, hm⟩ := hq
                           refine Ops_call _ _ rfl rfl (EO.fn rfl Try.func24 rfl rfl (Evs.cons rfl (Evs.cons rfl (Evs.cons rfl Evs.nil)))) (QC.cc (c_spec_LeftQuotient hr24 ) ?_)
                           refine Ops_quiet _ rfl rfl (QO.move rfl rfl) ?_
                           refine Ops_quiet _ rfl rfl (QO.extract rfl rfl rfl) ?_
                           refine Ops_quiet _ rfl rfl (QO.extract rfl rfl rfl) ?_
                           refine Ops_quiet _ rfl rfl (QO.assign rfl rfl) ?_
                           refine Ops_quiet _ rfl rfl (QO.assign rfl rfl) ?_
                           refine Ops_nil ?_
                           refine thenA_n ?_
                           refine wpA_seq ?_
                           refine wpA_region ?_
                           refine Ops_quiet _ rfl rfl (QO.loadRow (cs := sqC r22.1) (hr := (rdAll (upd_same _ _ _))) rfl sz28 rfl rfl (sqC_length _)) ?_
                           refine Ops_quiet _ rfl rfl (QO.move rfl rfl) ?_
                           refine Ops_quiet _ rfl rfl (QO.move rfl rfl) ?_
                           have hq := Option.bind_eq_some_iff.1 hm; clear hm; obtain ⟨r25, hr25, hm⟩ := hq
                           refine Ops_call _ _ rfl rfl (EO.fn rfl Try.func15 rfl rfl (Evs.cons rfl (Evs.cons rfl (Evs.cons rfl Evs.nil)))) (QC.cc (c_impl_RightQuotient hr25 ) ?_)
                           refine Ops_quiet _ rfl rfl (QO.move rfl rfl) ?_
                           refine Ops_quiet _ rfl rfl (QO.extract rfl rfl rfl) ?_
                           refine Ops_quiet _ rfl rfl (QO.extract rfl rfl rfl) ?_
                           refine Ops_quiet _ rfl rfl (QO.assign rfl rfl) ?_
                           refine Ops_quiet _ rfl rfl (QO.assign rfl rfl) ?_
                           refine Ops_nil ?_
                           refine thenA_n ?_
                           refine wpA_seq ?_
                           refine wpA_region ?_
                           refine Ops_quiet _ rfl rfl (QO.loadRow (cs := sqC r22.1) (hr := (rdAll (upd_same _ _ _))) rfl sz28 rfl rfl (sqC_length _)) ?_
                           refine Ops_quiet _ rfl rfl (QO.move rfl rfl) ?_
                           refine Ops_quiet _ rfl rfl (QO.move rfl rfl) ?_
                           have hq := Option.bind_eq_some_iff.1 hm; clear hm; obtain ⟨r26, hr26, hm⟩ := hq
                           refine Ops_call _ _ rfl rfl (EO.fn rfl Try.func25 rfl rfl (Evs.cons rfl (Evs.cons rfl (Evs.cons rfl Evs.nil)))) (QC.cc (c_spec_RightQuotient hr26 ) ?_)
                           refine Ops_quiet _ rfl rfl (QO.move rfl rfl) ?_
                           refine Ops_quiet _ rfl rfl (QO.extract rfl rfl rfl) ?_
                           refine Ops_quiet _ rfl rfl (QO.extract rfl rfl rfl) ?_
                           refine Ops_quiet _ rfl rfl (QO.assign rfl rfl) ?_
                           refine Ops_quiet _ rfl rfl (QO.assign rfl rfl) ?_
                           refine Ops_nil ?_
                           refine thenA_n ?_
                           refine wpA_seq ?_
                           refine wpA_region ?_
                           refine Ops_quiet _ rfl rfl (QO.move rfl rfl) ?_
                           have hq := Option.bind_eq_some_iff.1 hm; clear hm; obtain ⟨r27, hr27, hm⟩ := hq
                           refine Ops_call _ _ rfl rfl (EO.fn rfl Try.func26 rfl rfl (Evs.cons rfl Evs.nil)) (CC.mono (CC.atLe (c_spec_DrawSquareOfLists (l0 := l0) (A0 := A0) (c0 := c0) (h := upd (upd (upd (upd (upd (upd (upd (upd (h) b1 (.own 28 (sqC r2.1) 101)) b2 (.own 34 (tabI .u8 r13.1 10) 10)) b3 (.own 34 (tabI .u8 r14.1 10) 10)) b4 (.own 28 (sqC r15.1) 101)) b5 (.own 28 (sqC r16.1) 101)) b7 (.own 28 (sqC r19.1) 101)) b8 (.own 28 (sqC r21.1) 101)) b9 (.own 28 (sqC r22.1) 101)) hr27 (RdS.le hs0 (Le.under (Le.under (Le.under (Le.under (Le.under (Le.under (Le.under (Le.under (Le.refl _) hb1) hb2) hb3) hb4) hb5) hb7) hb8) hb9))) (Le.upd_left (Le.upd_left (Le.upd_left (Le.upd_left (Le.upd_left (Le.upd_left (Le.upd_left (Le.upd_left (Le.under (Le.under (Le.under (Le.underO (Le.underF (Le.under (Le.under (Le.under (Le.under (Le.under (Le.refl _) hb1) hb2) hb3) hb4) hb5) hf1) hb6) hb7) hb8) hb9) ((upd_ne _ _ n_b9_b1.ne.symm).trans ((upd_ne _ _ n_b8_b1.ne.symm).trans ((upd_ne _ _ n_b7_b1.ne.symm).trans ((updO_ne n_b6_b1).trans ((famH_ne n_f1_b1).trans ((upd_ne _ _ n_b5_b1.ne.symm).trans ((upd_ne _ _ n_b4_b1.ne.symm).trans ((upd_ne _ _ n_b3_b1.ne.symm).trans ((upd_ne _ _ n_b2_b1.ne.symm).trans (upd_same _ _ _)))))))))) (by first | rfl | (simp; done))) ((upd_ne _ _ n_b9_b2.ne.symm).trans ((upd_ne _ _ n_b8_b2.ne.symm).trans ((upd_ne _ _ n_b7_b2.ne.symm).trans ((updO_ne n_b6_b2).trans ((famH_ne n_f1_b2).trans ((upd_ne _ _ n_b5_b2.ne.symm).trans ((upd_ne _ _ n_b4_b2.ne.symm).trans ((upd_ne _ _ n_b3_b2.ne.symm).trans (upd_same _ _ _))))))))) (by first | rfl | (simp; done))) ((upd_ne _ _ n_b9_b3.ne.symm).trans ((upd_ne _ _ n_b8_b3.ne.symm).trans ((upd_ne _ _ n_b7_b3.ne.symm).trans ((updO_ne n_b6_b3).trans ((famH_ne n_f1_b3).trans ((upd_ne _ _ n_b5_b3.ne.symm).trans ((upd_ne _ _ n_b4_b3.ne.symm).trans (upd_same _ _ _)))))))) (by first | rfl | (simp; done))) ((upd_ne _ _ n_b9_b4.ne.symm).trans ((upd_ne _ _ n_b8_b4.ne.symm).trans ((upd_ne _ _ n_b7_b4.ne.symm).trans ((updO_ne n_b6_b4).trans ((famH_ne n_f1_b4).trans ((upd_ne _ _ n_b5_b4.ne.symm).trans (upd_same _ _ _))))))) (by first | rfl | (simp; done))) ((upd_ne _ _ n_b9_b5.ne.symm).trans ((upd_ne _ _ n_b8_b5.ne.symm).trans ((upd_ne _ _ n_b7_b5.ne.symm).trans ((updO_ne n_b6_b5).trans ((famH_ne n_f1_b5).trans (upd_same _ _ _)))))) (by first | rfl | (simp; done))) ((upd_ne _ _ n_b9_b7.ne.symm).trans ((upd_ne _ _ n_b8_b7.ne.symm).trans (upd_same _ _ _))) (by first | rfl | (simp; done))) ((upd_ne _ _ n_b9_b8.ne.symm).trans (upd_same _ _ _)) (by first | rfl | (simp; done))) (upd_same _ _ _) (by first | rfl | (simp; done)))) ?_)
                           rintro _ _ ⟨g_f2, b10, cap_b10, hf2, okf_f2, hb10, ho_b10, rfl, rfl⟩
                           simp only [frF_updA, frF_updOA] at hf2
                           obtain ⟨n_f2_b9, n_f2_b8, n_f2_b7, n_f2_b5, n_f2_b4, n_f2_b3, n_f2_b2, n_f2_b1, hf2⟩ := hf2
                           simp only [frO_updA, frO_updOA, frO_famHA] at hb10
                           obtain ⟨n_b10_f2, n_b10_b9, n_b10_b8, n_b10_b7, n_b10_b5, n_b10_b4, n_b10_b3, n_b10_b2, n_b10_b1, hb10⟩ := hb10
                           refine Ops_quiet _ rfl rfl (QO.assign rfl rfl) ?_
                           refine Ops_nil ?_
                           refine thenA_n ?_
                           refine wpA_seq ?_
                           refine wpA_region ?_
                           refine Ops_quiet _ rfl rfl (QO.move rfl rfl) ?_
                           have hq := Option.bind_eq_some_iff.1 hm; clear hm; obtain ⟨r28, hr28, hm⟩ := hq
                           refine Ops_call _ _ rfl rfl (EO.fn rfl Try.func20 rfl rfl (Evs.cons rfl Evs.nil)) (QC.cc (c_impl_SquareOfLists (l0 := r27) (A0 := adO b10) (c0 := cap_b10) (ga0 := (g_f2).map fun p => (adO p.1, p.2)) hr28 (RdSS.fam (RdS.ownO LkO.here (fun e => congrArg (fun l => rowsC g_f2 l) (ho_b10.nilL e))) (fun i hi => RdS.ownO (LkO.thereO (NeOF.neOO n_b10_f2 i) (famH_row okf_f2 hi)) (fun e => congrArg (fun l => ints .i64 l) ((okf_f2.ok i hi).nilL e))))) ?_)
                           refine Ops_quiet _ rfl rfl (QO.move rfl rfl) ?_
                           refine Ops_quiet _ rfl rfl (QO.extract rfl rfl rfl) ?_
                           refine Ops_quiet _ rfl rfl (QO.extract rfl rfl rfl) ?_
                           refine Ops_loud rfl (LO.alloc rfl zr28 rfl (fun b11 hb11 => ?_))
                           simp only [upd_noneA, updO_noneA, famH_noneA] at hb11
                           obtain ⟨n_b11_b10, n_b11_f2, n_b11_b9, n_b11_b8, n_b11_b7, n_b11_b5, n_b11_b4, n_b11_b3, n_b11_b2, n_b11_b1, hb11⟩ := hb11
                           refine Ops_loud rfl (LO.storeAll (cs := sqC r28.1) rfl sz28 rfl rfl (sqC_one _) (sqC_length _) (upd_same _ _ _) (sqC_length _) Chg.here rfl ?_)
                           refine Ops_quiet _ rfl rfl (QO.assign rfl rfl) ?_
                           refine Ops_nil ?_
                           refine thenA_n ?_
                           refine wpA_seq ?_
                           refine wpA_region ?_
                           refine Ops_quiet _ rfl rfl (QO.move rfl rfl) ?_
                           have hq := Option.bind_eq_some_iff.1 hm; clear hm; obtain ⟨r29, hr29, hm⟩ := hq
                           refine Ops_call _ _ rfl rfl (EO.fn rfl Try.func27 rfl rfl (Evs.cons rfl Evs.nil)) (QC.cc (c_spec_SquareOfLists (l0 := r27) (A0 := adO b10) (c0 := cap_b10) (ga0 := (g_f2).map fun p => (adO p.1, p.2)) hr29 (RdSS.fam (RdS.ownO (LkO.there n_b11_b10 LkO.here) (fun e => congrArg (fun l => rowsC g_f2 l) (ho_b10.nilL e))) (fun i hi => RdS.ownO (LkO.there (NeF.neO n_b11_f2 i) (LkO.thereO (NeOF.neOO n_b10_f2 i) (famH_row okf_f2 hi))) (fun e => congrArg (fun l => ints .i64 l) ((okf_f2.ok i hi).nilL e))))) ?_)
                           refine Ops_quiet _ rfl rfl (QO.move rfl rfl) ?_
                           refine Ops_quiet _ rfl rfl (QO.extract rfl rfl rfl) ?_
                           refine Ops_quiet _ rfl rfl (QO.extract rfl rfl rfl) ?_
                           refine Ops_loud rfl (LO.alloc rfl zr28 rfl (fun b12 hb12 => ?_))
                           simp only [upd_noneA, updO_noneA, famH_noneA] at hb12
                           obtain ⟨n_b12_b11, n_b12_b10, n_b12_f2, n_b12_b9, n_b12_b8, n_b12_b7, n_b12_b5, n_b12_b4, n_b12_b3, n_b12_b2, n_b12_b1, hb12⟩ := hb12
                           refine Ops_loud rfl (LO.storeAll (cs := sqC r29.1) rfl sz28 rfl rfl (sqC_one _) (sqC_length _) (upd_same _ _ _) (sqC_length _) Chg.here rfl ?_)
                           refine Ops_quiet _ rfl rfl (QO.assign rfl rfl) ?_
                           refine Ops_nil ?_
                           refine thenA_n ?_
                           refine wpA_seq ?_
                           refine wpA_region ?_
                           refine Ops_quiet _ rfl rfl (QO.move rfl rfl) ?_
                           have hq := Option.bind_eq_some_iff.1 hm; clear hm; obtain ⟨r30, hr30, hm⟩ := hq
                           refine Ops_call _ _ rfl rfl (EO.fn rfl Try.func28 rfl rfl (Evs.cons rfl Evs.nil)) (QC.cc (c_spec_DrawParseSquare (l0 := l0) (A0 := A0) (c0 := c0) hr30 (RdS.le hs0 (Le.under (Le.under (Le.underO (Le.underF (Le.under (Le.under (Le.under (Le.under (Le.under (Le.under (Le.under (Le.under (Le.refl _) hb1) hb2) hb3) hb4) hb5) hb7) hb8) hb9) hf2) hb10) hb11) hb12))) ?_)
                           refine Ops_quiet _ rfl rfl (QO.assign rfl rfl) ?_
                           refine Ops_nil ?_
                           refine thenA_n ?_
                           refine wpA_weaken (show Abs.Sub _ [(2, .bool false), (35, .int .u8 r23.1), (36, .int .i64 r23.2), (37, .int .u8 r24.1), (38, .int .i64 r24.2), (39, .int .u8 r25.1), (40, .int .i64 r25.2), (41, .int .u8 r26.1), (42, .int .i64 r26.2), (44, .pointer (some ⟨b11, 0, none⟩)), (45, .int .i64 r28.2), (46, .pointer (some ⟨b12, 0, none⟩)), (47, .int .i64 r29.2), (48, .string r30)] from (Sub.cons rfl (Sub.cons rfl (Sub.cons rfl (Sub.cons rfl (Sub.cons rfl (Sub.cons rfl (Sub.cons rfl (Sub.cons rfl (Sub.cons rfl (Sub.cons rfl (Sub.cons rfl (Sub.cons rfl (Sub.cons rfl (Sub.cons rfl (Sub.nil)))))))))))))))).ok (Le.refl _) ?_
                           refine wpA_seq ?_
                           refine wpA_region ?_
                           refine Ops_quiet _ rfl rfl (QO.move rfl rfl) ?_
                           have hq := Option.bind_eq_some_iff.1 hm; clear hm; obtain ⟨r31, hr31, hm⟩ := hq
                           refine Ops_call _ _ rfl rfl (EO.fn rfl Try.func22 rfl rfl (Evs.cons rfl Evs.nil)) (QC.cc (c_impl_ParseSquare hr31 ) ?_)
                           refine Ops_quiet _ rfl rfl (QO.move rfl rfl) ?_
                           refine Ops_quiet _ rfl rfl (QO.extract rfl rfl rfl) ?_
                           refine Ops_quiet _ rfl rfl (QO.extract rfl rfl rfl) ?_
                           refine Ops_loud rfl (LO.alloc rfl zr28 rfl (fun b13 hb13 => ?_))
                           simp only [upd_noneA, updO_noneA, famH_noneA] at hb13
                           obtain ⟨n_b13_b12, n_b13_b11, n_b13_b10, n_b13_f2, n_b13_b9, n_b13_b8, n_b13_b7, n_b13_b5, n_b13_b4, n_b13_b3, n_b13_b2, n_b13_b1, hb13⟩ := hb13
                           refine Ops_loud rfl (LO.storeAll (cs := sqC r31.1) rfl sz28 rfl rfl (sqC_one _) (sqC_length _) (upd_same _ _ _) (sqC_length _) Chg.here rfl ?_)
                           refine Ops_quiet _ rfl rfl (QO.assign rfl rfl) ?_
                           refine Ops_nil ?_
                           refine thenA_n ?_
                           refine wpA_seq ?_
                           refine wpA_region ?_
                           refine Ops_quiet _ rfl rfl (QO.move rfl rfl) ?_
                           have hq := Option.bind_eq_some_iff.1 hm; clear hm; obtain ⟨r32, hr32, hm⟩ := hq
                           refine Ops_call _ _ rfl rfl (EO.fn rfl Try.func29 rfl rfl (Evs.cons rfl Evs.nil)) (QC.cc (c_spec_ParseSquare hr32 ) ?_)
                           refine Ops_quiet _ rfl rfl (QO.move rfl rfl) ?_
                           refine Ops_quiet _ rfl rfl (QO.extract rfl rfl rfl) ?_
                           refine Ops_quiet _ rfl rfl (QO.extract rfl rfl rfl) ?_
                           refine Ops_loud rfl (LO.alloc rfl zr28 rfl (fun b14 hb14 => ?_))
                           simp only [upd_noneA, updO_noneA, famH_noneA] at hb14
                           obtain ⟨n_b14_b13, n_b14_b12, n_b14_b11, n_b14_b10, n_b14_f2, n_b14_b9, n_b14_b8, n_b14_b7, n_b14_b5, n_b14_b4, n_b14_b3, n_b14_b2, n_b14_b1, hb14⟩ := hb14
                           refine Ops_loud rfl (LO.storeAll (cs := sqC r32.1) rfl sz28 rfl rfl (sqC_one _) (sqC_length _) (upd_same _ _ _) (sqC_length _) Chg.here rfl ?_)
                           refine Ops_quiet _ rfl rfl (QO.assign rfl rfl) ?_
                           refine Ops_nil ?_
                           refine thenA_n ?_
                           refine wpA_seq ?_
                           refine wpA_region ?_
                           refine Ops_quiet _ rfl rfl (QO.move rfl rfl) ?_
                           refine Ops_quiet _ rfl rfl (QO.move rfl rfl) ?_
                           refine Ops_quiet _ rfl rfl (QO.bin rfl rfl rfl rfl) ?_
                           refine Ops_quiet _ rfl rfl (QO.move rfl rfl) ?_
                           refine Ops_case 314 rfl (fun g27 => ?_) (fun g27 => ?_)
                           ·replace hm := cond_t hm g27
                            refine Ops_quiet _ rfl rfl (QO.move rfl rfl) ?_
                            refine Ops_quiet _ rfl rfl (QO.move rfl rfl) ?_
                            refine Ops_quiet _ rfl rfl (QO.bin rfl rfl rfl rfl) ?_
                            refine Ops_quiet _ rfl rfl (QO.pick_t rfl rfl rfl) ?_
                            refine Ops_quiet _ rfl rfl (QO.move rfl rfl) ?_
                            refine Ops_case 319 rfl (fun g28 => ?_) (fun g28 => ?_)
                            ·replace hm := cond_t hm g28
                             refine Ops_quiet _ rfl rfl (QO.move rfl rfl) ?_
                             refine Ops_quiet _ rfl rfl (QO.move rfl rfl) ?_
                             refine Ops_quiet _ rfl rfl (QO.bin rfl rfl rfl rfl) ?_
                             refine Ops_quiet _ rfl rfl (QO.pick_t rfl rfl rfl) ?_
                             refine Ops_quiet _ rfl rfl (QO.move rfl rfl) ?_
                             refine Ops_case 324 rfl (fun g29 => ?_) (fun g29 => ?_)
                             ·replace hm := cond_t hm g29
                              refine Ops_quiet _ rfl rfl (QO.move rfl rfl) ?_
                              refine Ops_quiet _ rfl rfl (QO.move rfl rfl) ?_
                              refine Ops_quiet _ rfl rfl (QO.bin rfl rfl rfl rfl) ?_
                              refine Ops_quiet _ rfl rfl (QO.pick_t rfl rfl rfl) ?_
                              refine Ops_quiet _ rfl rfl (QO.move rfl rfl) ?_
                              refine Ops_case 329 rfl (fun g30 => ?_) (fun g30 => ?_)
                              ·replace hm := cond_t hm g30
                               refine Ops_quiet _ rfl rfl (QO.move rfl rfl) ?_
                               refine Ops_quiet _ rfl rfl (QO.move rfl rfl) ?_
                               refine Ops_quiet _ rfl rfl (QO.bin rfl rfl rfl rfl) ?_
                               refine Ops_quiet _ rfl rfl (QO.pick_t rfl rfl rfl) ?_
                               refine Ops_quiet _ rfl rfl (QO.move rfl rfl) ?_
                               refine Ops_case 334 rfl (fun g31 => ?_) (fun g31 => ?_)
                               ·replace hm := cond_t hm g31
                                refine Ops_quiet _ rfl rfl (QO.loadRow (cs := sqC r28.1) (hr := (rdAll ((upd_ne _ _ n_b14_b11.ne.symm).trans ((upd_ne _ _ n_b13_b11.ne.symm).trans ((upd_ne _ _ n_b12_b11.ne.symm).trans (upd_same _ _ _)))))) rfl sz28 rfl rfl (sqC_length _)) ?_
                                refine Ops_quiet _ rfl rfl (QO.loadRow (cs := sqC r29.1) (hr := (rdAll ((upd_ne _ _ n_b14_b12.ne.symm).trans ((upd_ne _ _ n_b13_b12.ne.symm).trans (upd_same _ _ _))))) rfl sz28 rfl rfl (sqC_length _)) ?_
                                refine Ops_quiet _ rfl rfl (QO.agg_eql rfl rfl rfl eg28 (eqv28 _ _) rfl) ?_
                                refine Ops_quiet _ rfl rfl (QO.pick_t rfl rfl rfl) ?_
                                refine Ops_quiet _ rfl rfl (QO.move rfl rfl) ?_
                                refine Ops_case 339 rfl (fun g32 => ?_) (fun g32 => ?_)
                                ·replace hm := cond_t hm g32
                                 refine Ops_quiet _ rfl rfl (QO.move rfl rfl) ?_
                                 refine Ops_quiet _ rfl rfl (QO.move rfl rfl) ?_
                                 refine Ops_quiet _ rfl rfl (QO.bin rfl rfl rfl rfl) ?_
                                 refine Ops_quiet _ rfl rfl (QO.pick_t rfl rfl rfl) ?_
                                 refine Ops_quiet _ rfl rfl (QO.move rfl rfl) ?_
                                 refine Ops_case 344 rfl (fun g33 => ?_) (fun g33 => ?_)
                                 ·replace hm := cond_t hm g33
                                  refine Ops_quiet _ rfl rfl (QO.loadRow (cs := sqC r31.1) (hr := (rdAll ((upd_ne _ _ n_b14_b13.ne.symm).trans (upd_same _ _ _)))) rfl sz28 rfl rfl (sqC_length _)) ?_
                                  refine Ops_quiet _ rfl rfl (QO.loadRow (cs := sqC r32.1) (hr := (rdAll (upd_same _ _ _))) rfl sz28 rfl rfl (sqC_length _)) ?_
                                  refine Ops_quiet _ rfl rfl (QO.agg_eql rfl rfl rfl eg28 (eqv28 _ _) rfl) ?_
                                  refine Ops_quiet _ rfl rfl (QO.pick_t rfl rfl rfl) ?_
                                  refine Ops_quiet _ rfl rfl (QO.assign rfl rfl) ?_
                                  refine Ops_nil ?_
                                  refine thenA_n ?_
                                  refine wpA_ret ?_
                                  obtain rfl := Option.some.inj hm
                                  exact retA_r (h2 := h) (Res.one rfl (rfl)) (Le.under (Le.under (Le.under (Le.under (Le.underO (Le.underF (Le.under (Le.under (Le.under (Le.under (Le.under (Le.under (Le.under (Le.under (Le.refl _) hb1) hb2) hb3) hb4) hb5) hb7) hb8) hb9) hf2) hb10) hb11) hb12) hb13) hb14) ⟨rfl, rfl⟩
                                 ·replace hm := cond_f hm g33
                                  refine Ops_skip rfl rfl ?_
                                  refine Ops_skip rfl rfl ?_
                                  refine Ops_skip rfl rfl ?_
                                  refine Ops_quiet _ rfl rfl (QO.pick_f rfl rfl rfl) ?_
                                  refine Ops_quiet _ rfl rfl (QO.assign rfl rfl) ?_
                                  refine Ops_nil ?_
                                  refine thenA_n ?_
                                  refine wpA_ret ?_
                                  obtain rfl := Option.some.inj hm
                                  exact retA_r (h2 := h) (Res.one rfl (rfl)) (Le.under (Le.under (Le.under (Le.under (Le.underO (Le.underF (Le.under (Le.under (Le.under (Le.under (Le.under (Le.under (Le.under (Le.under (Le.refl _) hb1) hb2) hb3) hb4) hb5) hb7) hb8) hb9) hf2) hb10) hb11) hb12) hb13) hb14) ⟨rfl, rfl⟩
                                ·replace hm := cond_f hm g32
                                 refine Ops_skip rfl rfl ?_
                                 refine Ops_skip rfl rfl ?_
                                 refine Ops_skip rfl rfl ?_
                                 refine Ops_quiet _ rfl rfl (QO.pick_f rfl rfl rfl) ?_
                                 refine Ops_quiet _ rfl rfl (QO.move rfl rfl) ?_
                                 refine Ops_skip rfl rfl ?_
                                 refine Ops_skip rfl rfl ?_
                                 refine Ops_skip rfl rfl ?_
                                 refine Ops_quiet _ rfl rfl (QO.pick_f rfl rfl rfl) ?_
                                 refine Ops_quiet _ rfl rfl (QO.assign rfl rfl) ?_
                                 refine Ops_nil ?_
                                 refine thenA_n ?_
                                 refine wpA_ret ?_
                                 obtain rfl := Option.some.inj hm
                                 exact retA_r (h2 := h) (Res.one rfl (rfl)) (Le.under (Le.under (Le.under (Le.under (Le.underO (Le.underF (Le.under (Le.under (Le.under (Le.under (Le.under (Le.under (Le.under (Le.under (Le.refl _) hb1) hb2) hb3) hb4) hb5) hb7) hb8) hb9) hf2) hb10) hb11) hb12) hb13) hb14) ⟨rfl, rfl⟩
                               ·replace hm := cond_f hm g31
                                refine Ops_skip rfl rfl ?_
                                refine Ops_skip rfl rfl ?_
                                refine Ops_skip rfl rfl ?_
                                refine Ops_quiet _ rfl rfl (QO.pick_f rfl rfl rfl) ?_
                                refine Ops_quiet _ rfl rfl (QO.move rfl rfl) ?_
                                refine Ops_skip rfl rfl ?_
                                refine Ops_skip rfl rfl ?_
                                refine Ops_skip rfl rfl ?_
                                refine Ops_quiet _ rfl rfl (QO.pick_f rfl rfl rfl) ?_
                                refine Ops_quiet _ rfl rfl (QO.move rfl rfl) ?_
                                refine Ops_skip rfl rfl ?_
                                refine Ops_skip rfl rfl ?_
                                refine Ops_skip rfl rfl ?_
                                refine Ops_quiet _ rfl rfl (QO.pick_f rfl rfl rfl) ?_
                                refine Ops_quiet _ rfl rfl (QO.assign rfl rfl) ?_
                                refine Ops_nil ?_
                                refine thenA_n ?_
                                refine wpA_ret ?_
                                obtain rfl := Option.some.inj hm
                                exact retA_r (h2 := h) (Res.one rfl (rfl)) (Le.under (Le.under (Le.under (Le.under (Le.underO (Le.underF (Le.under (Le.under (Le.under (Le.under (Le.under (Le.under (Le.under (Le.under (Le.refl _) hb1) hb2) hb3) hb4) hb5) hb7) hb8) hb9) hf2) hb10) hb11) hb12) hb13) hb14) ⟨rfl, rfl⟩
                              ·replace hm := cond_f hm g30
                               refine Ops_skip rfl rfl ?_
                               refine Ops_skip rfl rfl ?_
                               refine Ops_skip rfl rfl ?_
                               refine Ops_quiet _ rfl rfl (QO.pick_f rfl rfl rfl) ?_
                               refine Ops_quiet _ rfl rfl (QO.move rfl rfl) ?_
                               refine Ops_skip rfl rfl ?_
                               refine Ops_skip rfl rfl ?_
                               refine Ops_skip rfl rfl ?_
                               refine Ops_quiet _ rfl rfl (QO.pick_f rfl rfl rfl) ?_
                               refine Ops_quiet _ rfl rfl (QO.move rfl rfl) ?_
                               refine Ops_skip rfl rfl ?_
                               refine Ops_skip rfl rfl ?_
                               refine Ops_skip rfl rfl ?_
                               refine Ops_quiet _ rfl rfl (QO.pick_f rfl rfl rfl) ?_
                               refine Ops_quiet _ rfl rfl (QO.move rfl rfl) ?_
                               refine Ops_skip rfl rfl ?_
                               refine Ops_skip rfl rfl ?_
                               refine Ops_skip rfl rfl ?_
                               refine Ops_quiet _ rfl rfl (QO.pick_f rfl rfl rfl) ?_
                               refine Ops_quiet _ rfl rfl (QO.assign rfl rfl) ?_
                               refine Ops_nil ?_
                               refine thenA_n ?_
                               refine wpA_ret ?_
                               obtain rfl := Option.some.inj hm
                               exact retA_r (h2 := h) (Res.one rfl (rfl)) (Le.under (Le.under (Le.under (Le.under (Le.underO (Le.underF (Le.under (Le.under (Le.under (Le.under (Le.under (Le.under (Le.under (Le.under (Le.refl _) hb1) hb2) hb3) hb4) hb5) hb7) hb8) hb9) hf2) hb10) hb11) hb12) hb13) hb14) ⟨rfl, rfl⟩
                             ·replace hm := cond_f hm g29
                              refine Ops_skip rfl rfl ?_
                              refine Ops_skip rfl rfl ?_
                              refine Ops_skip rfl rfl ?_
                              refine Ops_quiet _ rfl rfl (QO.pick_f rfl rfl rfl) ?_
                              refine Ops_quiet _ rfl rfl (QO.move rfl rfl) ?_
                              refine Ops_skip rfl rfl ?_
                              refine Ops_skip rfl rfl ?_
                              refine Ops_skip rfl rfl ?_
                              refine Ops_quiet _ rfl rfl (QO.pick_f rfl rfl rfl) ?_
                              refine Ops_quiet _ rfl rfl (QO.move rfl rfl) ?_
                              refine Ops_skip rfl rfl ?_
                              refine Ops_skip rfl rfl ?_
                              refine Ops_skip rfl rfl ?_
                              refine Ops_quiet _ rfl rfl (QO.pick_f rfl rfl rfl) ?_
                              refine Ops_quiet _ rfl rfl (QO.move rfl rfl) ?_
                              refine Ops_skip rfl rfl ?_
                              refine Ops_skip rfl rfl ?_
                              refine Ops_skip rfl rfl ?_
                              refine Ops_quiet _ rfl rfl (QO.pick_f rfl rfl rfl) ?_
                              refine Ops_quiet _ rfl rfl (QO.move rfl rfl) ?_
                              refine Ops_skip rfl rfl ?_
                              refine Ops_skip rfl rfl ?_
                              refine Ops_skip rfl rfl ?_
                              refine Ops_quiet _ rfl rfl (QO.pick_f rfl rfl rfl) ?_
                              refine Ops_quiet _ rfl rfl (QO.assign rfl rfl) ?_
                              refine Ops_nil ?_
                              refine thenA_n ?_
                              refine wpA_ret ?_
                              obtain rfl := Option.some.inj hm
                              exact retA_r (h2 := h) (Res.one rfl (rfl)) (Le.under (Le.under (Le.under (Le.under (Le.underO (Le.underF (Le.under (Le.under (Le.under (Le.under (Le.under (Le.under (Le.under (Le.under (Le.refl _) hb1) hb2) hb3) hb4) hb5) hb7) hb8) hb9) hf2) hb10) hb11) hb12) hb13) hb14) ⟨rfl, rfl⟩
                            ·replace hm := cond_f hm g28
                             refine Ops_skip rfl rfl ?_
                             refine Ops_skip rfl rfl ?_
                             refine Ops_skip rfl rfl ?_
                             refine Ops_quiet _ rfl rfl (QO.pick_f rfl rfl rfl) ?_
                             refine Ops_quiet _ rfl rfl (QO.move rfl rfl) ?_
                             refine Ops_skip rfl rfl ?_
                             refine Ops_skip rfl rfl ?_
                             refine Ops_skip rfl rfl ?_
                             refine Ops_quiet _ rfl rfl (QO.pick_f rfl rfl rfl) ?_
                             refine Ops_quiet _ rfl rfl (QO.move rfl rfl) ?_
                             refine Ops_skip rfl rfl ?_
                             refine Ops_skip rfl rfl ?_
                             refine Ops_skip rfl rfl ?_
                             refine Ops_quiet _ rfl rfl (QO.pick_f rfl rfl rfl) ?_
                             refine Ops_quiet _ rfl rfl (QO.move rfl rfl) ?_
                             refine Ops_skip rfl rfl ?_
                             refine Ops_skip rfl rfl ?_
                             refine Ops_skip rfl rfl ?_
                             refine Ops_quiet _ rfl rfl (QO.pick_f rfl rfl rfl) ?_
                             refine Ops_quiet _ rfl rfl (QO.move rfl rfl) ?_
                             refine Ops_skip rfl rfl ?_
                             refine Ops_skip rfl rfl ?_
                             refine Ops_skip rfl rfl ?_
                             refine Ops_quiet _ rfl rfl (QO.pick_f rfl rfl rfl) ?_
                             refine Ops_quiet _ rfl rfl (QO.move rfl rfl) ?_
                             refine Ops_skip rfl rfl ?_
                             refine Ops_skip rfl rfl ?_
                             refine Ops_skip rfl rfl ?_
                             refine Ops_quiet _ rfl rfl (QO.pick_f rfl rfl rfl) ?_
                             refine Ops_quiet _ rfl rfl (QO.assign rfl rfl) ?_
                             refine Ops_nil ?_
                             refine thenA_n ?_
                             refine wpA_ret ?_
                             obtain rfl := Option.some.inj hm
                             exact retA_r (h2 := h) (Res.one rfl (rfl)) (Le.under (Le.under (Le.under (Le.under (Le.underO (Le.underF (Le.under (Le.under (Le.under (Le.under (Le.under (Le.under (Le.under (Le.under (Le.refl _) hb1) hb2) hb3) hb4) hb5) hb7) hb8) hb9) hf2) hb10) hb11) hb12) hb13) hb14) ⟨rfl, rfl⟩
                           ·replace hm := cond_f hm g27
                            refine Ops_skip rfl rfl ?_
                            refine Ops_skip rfl rfl ?_
                            refine Ops_skip rfl rfl ?_
                            refine Ops_quiet _ rfl rfl (QO.pick_f rfl rfl rfl) ?_
                            refine Ops_quiet _ rfl rfl (QO.move rfl rfl) ?_
                            refine Ops_skip rfl rfl ?_
                            refine Ops_skip rfl rfl ?_
                            refine Ops_skip rfl rfl ?_
                            refine Ops_quiet _ rfl rfl (QO.pick_f rfl rfl rfl) ?_
                            refine Ops_quiet _ rfl rfl (QO.move rfl rfl) ?_
                            refine Ops_skip rfl rfl ?_
                            refine Ops_skip rfl rfl ?_
                            refine Ops_skip rfl rfl ?_
                            refine Ops_quiet _ rfl rfl (QO.pick_f rfl rfl rfl) ?_
                            refine Ops_quiet _ rfl rfl (QO.move rfl rfl) ?_
                            refine Ops_skip rfl rfl ?_
                            refine Ops_skip rfl rfl ?_
                            refine Ops_skip rfl rfl ?_
                            refine Ops_quiet _ rfl rfl (QO.pick_f rfl rfl rfl) ?_
                            refine Ops_quiet _ rfl rfl (QO.move rfl rfl) ?_
                            refine Ops_skip rfl rfl ?_
                            refine Ops_skip rfl rfl ?_
                            refine Ops_skip rfl rfl ?_
                            refine Ops_quiet _ rfl rfl (QO.pick_f rfl rfl rfl) ?_
                            refine Ops_quiet _ rfl rfl (QO.move rfl rfl) ?_
                            refine Ops_skip rfl rfl ?_
                            refine Ops_skip rfl rfl ?_
                            refine Ops_skip rfl rfl ?_
                            refine Ops_quiet _ rfl rfl (QO.pick_f rfl rfl rfl) ?_
                            refine Ops_quiet _ rfl rfl (QO.move rfl rfl) ?_
                            refine Ops_skip rfl rfl ?_
                            refine Ops_skip rfl rfl ?_
                            refine Ops_skip rfl rfl ?_
                            refine Ops_quiet _ rfl rfl (QO.pick_f rfl rfl rfl) ?_
                            refine Ops_quiet _ rfl rfl (QO.assign rfl rfl) ?_
                            refine Ops_nil ?_
                            refine thenA_n ?_
                            refine wpA_ret ?_
                            obtain rfl := Option.some.inj hm
                            exact retA_r (h2 := h) (Res.one rfl (rfl)) (Le.under (Le.under (Le.under (Le.under (Le.underO (Le.underF (Le.under (Le.under (Le.under (Le.under (Le.under (Le.under (Le.under (Le.under (Le.refl _) hb1) hb2) hb3) hb4) hb5) hb7) hb8) hb9) hf2) hb10) hb11) hb12) hb13) hb14) ⟨rfl, rfl⟩
       ·replace hm := cond_f hm g7
        refine wpA_skip ?_
        refine thenA_n ?_
        refine wpA_weaken (show Abs.Sub _ [(0, .slice A0 l0.length c0), (2, .bool false)] from (Sub.cons rfl (Sub.cons rfl (Sub.nil)))).ok (Le.refl _) ?_
        refine wpA_seq ?_
        refine wpA_region ?_
        refine Ops_quiet _ rfl rfl (QO.move rfl rfl) ?_
        have hq := Option.bind_eq_some_iff.1 hm; clear hm; obtain ⟨r33, hr33, hm⟩ := hq
        refine Ops_call _ _ rfl rfl (EO.fn rfl Try.func23 rfl rfl (Evs.cons rfl Evs.nil)) (QC.cc (c_spec_DrawLeftQuotient (l0 := l0) (A0 := A0) (c0 := c0) hr33 (RdS.le hs0 (Le.under (Le.refl _) hb1))) ?_)
        refine Ops_quiet _ rfl rfl (QO.move rfl rfl) ?_
        refine Ops_quiet _ rfl rfl (QO.extract rfl rfl rfl) ?_
        refine Ops_quiet _ rfl rfl (QO.extract rfl rfl rfl) ?_
        refine Ops_quiet _ rfl rfl (QO.extract rfl rfl rfl) ?_
        refine Ops_loud rfl (LO.alloc rfl zr28 rfl (fun b15 hb15 => ?_))
        simp only [upd_noneA] at hb15
        obtain ⟨n_b15_b1, hb15⟩ := hb15
        refine Ops_loud rfl (LO.storeAll (cs := sqC r33.1) rfl sz28 rfl rfl (sqC_one _) (sqC_length _) (upd_same _ _ _) (sqC_length _) Chg.here rfl ?_)
        refine Ops_quiet _ rfl rfl (QO.assign rfl rfl) ?_
        refine Ops_quiet _ rfl rfl (QO.assign rfl rfl) ?_
        refine Ops_nil ?_
        refine thenA_n ?_
        refine wpA_seq ?_
        refine wpA_region ?_
        refine Ops_quiet _ rfl rfl (QO.loadRow (cs := sqC r33.1) (hr := (rdAll (upd_same _ _ _))) rfl sz28 rfl rfl (sqC_length _)) ?_
        refine Ops_quiet _ rfl rfl (QO.move rfl rfl) ?_
        refine Ops_quiet _ rfl rfl (QO.move rfl rfl) ?_
        have hq := Option.bind_eq_some_iff.1 hm; clear hm; obtain ⟨r34, hr34, hm⟩ := hq
        refine Ops_call _ _ rfl rfl (EO.fn rfl Try.func14 rfl rfl (Evs.cons rfl (Evs.cons rfl (Evs.cons rfl Evs.nil)))) (QC.cc (c_impl_LeftQuotient hr34 ) ?_)
        refine Ops_quiet _ rfl rfl (QO.move rfl rfl) ?_
        refine Ops_quiet _ rfl rfl (QO.extract rfl rfl rfl) ?_
        refine Ops_quiet _ rfl rfl (QO.extract rfl rfl rfl) ?_
        refine Ops_quiet _ rfl rfl (QO.assign rfl rfl) ?_
        refine Ops_quiet _ rfl rfl (QO.assign rfl rfl) ?_
        refine Ops_nil ?_
        refine thenA_n ?_
        refine wpA_seq ?_
        refine wpA_region ?_
        refine Ops_quiet _ rfl rfl (QO.loadRow (cs := sqC r33.1) (hr := (rdAll (upd_same _ _ _))) rfl sz28 rfl rfl (sqC_length _)) ?_
        refine Ops_quiet _ rfl rfl (QO.move rfl rfl) ?_
        refine Ops_quiet _ rfl rfl (QO.move rfl rfl) ?_
        have hq := Option.bind_eq_some_iff.1 hm; clear hm; obtain ⟨r35, hr35, hm⟩ := hq
        refine Ops_call _ _ rfl rfl (EO.fn rfl Try.func24 rfl rfl (Evs.cons rfl (Evs.cons rfl (Evs.cons rfl Evs.nil)))) (QC.cc (c_spec_LeftQuotient hr35 ) ?_)
        refine Ops_quiet _ rfl rfl (QO.move rfl rfl) ?_
        refine Ops_quiet _ rfl rfl (QO.extract rfl rfl rfl) ?_
        refine Ops_quiet _ rfl rfl (QO.extract rfl rfl rfl) ?_
        refine Ops_quiet _ rfl rfl (QO.assign rfl rfl) ?_
        refine Ops_quiet _ rfl rfl (QO.assign rfl rfl) ?_
        refine Ops_nil ?_
        refine thenA_n ?_
        refine wpA_seq ?_
        refine wpA_region ?_
        refine Ops_quiet _ rfl rfl (QO.loadRow (cs := sqC r33.1) (hr := (rdAll (upd_same _ _ _))) rfl sz28 rfl rfl (sqC_length _)) ?_
        refine Ops_quiet _ rfl rfl (QO.move rfl rfl) ?_
        refine Ops_quiet _ rfl rfl (QO.move rfl rfl) ?_
        have hq := Option.bind_eq_some_iff.1 hm; clear hm; obtain ⟨r36, hr36, hm⟩ := hq
        refine Ops_call _ _ rfl rfl (EO.fn rfl Try.func15 rfl rfl (Evs.cons rfl (Evs.cons rfl (Evs.cons rfl Evs.nil)))) (QC.cc (c_impl_RightQuotient hr36 ) ?_)
        refine Ops_quiet _ rfl rfl (QO.move rfl rfl) ?_
        refine Ops_quiet _ rfl rfl (QO.extract rfl rfl rfl) ?_
        refine Ops_quiet _ rfl rfl (QO.extract rfl rfl rfl) ?_
        refine Ops_quiet _ rfl rfl (QO.assign rfl rfl) ?_
        refine Ops_quiet _ rfl rfl (QO.assign rfl rfl) ?_
        refine Ops_nil ?_
        refine thenA_n ?_
        refine wpA_seq ?_
        refine wpA_region ?_
        refine Ops_quiet _ rfl rfl (QO.loadRow (cs := sqC r33.1) (hr := (rdAll (upd_same _ _ _))) rfl sz28 rfl rfl (sqC_length _)) ?_
        refine Ops_quiet _ rfl rfl (QO.move rfl rfl) ?_
        refine Ops_quiet _ rfl rfl (QO.move rfl rfl) ?_
        have hq := Option.bind_eq_some_iff.1 hm; clear hm; obtain ⟨r37, hr37, hm⟩ := hq
        refine Ops_call _ _ rfl rfl (EO.fn rfl Try.func25 rfl rfl (Evs.cons rfl (Evs.cons rfl (Evs.cons rfl Evs.nil)))) (QC.cc (c_spec_RightQuotient hr37 ) ?_)
        refine Ops_quiet _ rfl rfl (QO.move rfl rfl) ?_
        refine Ops_quiet _ rfl rfl (QO.extract rfl rfl rfl) ?_
        refine Ops_quiet _ rfl rfl (QO.extract rfl rfl rfl) ?_
        refine Ops_quiet _ rfl rfl (QO.assign rfl rfl) ?_
        refine Ops_quiet _ rfl rfl (QO.assign rfl rfl) ?_
        refine Ops_nil ?_
        refine thenA_n ?_
        refine wpA_seq ?_
        refine wpA_region ?_
        refine Ops_quiet _ rfl rfl (QO.move rfl rfl) ?_
        have hq := Option.bind_eq_some_iff.1 hm; clear hm; obtain ⟨r38, hr38, hm⟩ := hq
        refine Ops_call _ _ rfl rfl (EO.fn rfl Try.func26 rfl rfl (Evs.cons rfl Evs.nil)) (CC.mono (c_spec_DrawSquareOfLists (l0 := l0) (A0 := A0) (c0 := c0) hr38 (RdS.le hs0 (Le.under (Le.under (Le.refl _) hb1) hb15))) ?_)
        rintro _ _ ⟨g_f3, b16, cap_b16, hf3, okf_f3, hb16, ho_b16, rfl, rfl⟩
        simp only [frF_updA, frF_updOA] at hf3
        obtain ⟨n_f3_b15, n_f3_b1, hf3⟩ := hf3
        simp only [frO_updA, frO_updOA, frO_famHA] at hb16
        obtain ⟨n_b16_f3, n_b16_b15, n_b16_b1, hb16⟩ := hb16
        refine Ops_quiet _ rfl rfl (QO.assign rfl rfl) ?_
        refine Ops_nil ?_
        refine thenA_n ?_
        refine wpA_seq ?_
        refine wpA_region ?_
        refine Ops_quiet _ rfl rfl (QO.move rfl rfl) ?_
        have hq := Option.bind_eq_some_iff.1 hm; clear hm; obtain ⟨r39, hr39, hm⟩ := hq
        refine Ops_call _ _ rfl rfl (EO.fn rfl Try.func20 rfl rfl (Evs.cons rfl Evs.nil)) (QC.cc (c_impl_SquareOfLists (l0 := r38) (A0 := adO b16) (c0 := cap_b16) (ga0 := (g_f3).map fun p => (adO p.1, p.2)) hr39 (RdSS.fam (RdS.ownO LkO.here (fun e => congrArg (fun l => rowsC g_f3 l) (ho_b16.nilL e))) (fun i hi => RdS.ownO (LkO.thereO (NeOF.neOO n_b16_f3 i) (famH_row okf_f3 hi)) (fun e => congrArg (fun l => ints .i64 l) ((okf_f3.ok i hi).nilL e))))) ?_)
        refine Ops_quiet _ rfl rfl (QO.move rfl rfl) ?_
        refine Ops_quiet _ rfl rfl (QO.extract rfl rfl rfl) ?_
        refine Ops_quiet _ rfl rfl (QO.extract rfl rfl rfl) ?_
        refine Ops_loud rfl (LO.alloc rfl zr28 rfl (fun b17 hb17 => ?_))
        simp only [upd_noneA, updO_noneA, famH_noneA] at hb17
        obtain ⟨n_b17_b16, n_b17_f3, n_b17_b15, n_b17_b1, hb17⟩ := hb17
        refine Ops_loud rfl (LO.storeAll (cs := sqC r39.1) rfl sz28 rfl rfl (sqC_one _) (sqC_length _) (upd_same _ _ _) (sqC_length _) Chg.here rfl ?_)
        refine Ops_quiet _ rfl rfl (QO.assign rfl rfl) ?_
        refine Ops_nil ?_
        refine thenA_n ?_
        refine wpA_seq ?_
        refine wpA_region ?_
        refine Ops_quiet _ rfl rfl (QO.move rfl rfl) ?_
        have hq := Option.bind_eq_some_iff.1 hm; clear hm; obtain ⟨r40, hr40, hm⟩ := hq
        refine Ops_call _ _ rfl rfl (EO.fn rfl Try.func27 rfl rfl (Evs.cons rfl Evs.nil)) (QC.cc (c_spec_SquareOfLists (l0 := r38) (A0 := adO b16) (c0 := cap_b16) (ga0 := (g_f3).map fun p => (adO p.1, p.2)) hr40 (RdSS.fam (RdS.ownO (LkO.there n_b17_b16 LkO.here) (fun e => congrArg (fun l => rowsC g_f3 l) (ho_b16.nilL e))) (fun i hi => RdS.ownO (LkO.there (NeF.neO n_b17_f3 i) (LkO.thereO (NeOF.neOO n_b16_f3 i) (famH_row okf_f3 hi))) (fun e => congrArg (fun l => ints .i64 l) ((okf_f3.ok i hi).nilL e))))) ?_)
        refine Ops_quiet _ rfl rfl (QO.move rfl rfl) ?_
        refine Ops_quiet _ rfl rfl (QO.extract rfl rfl rfl) ?_
        refine Ops_quiet _ rfl rfl (QO.extract rfl rfl rfl) ?_
        refine Ops_loud rfl (LO.alloc rfl zr28 rfl (fun b18 hb18 => ?_))
        simp only [upd_noneA, updO_noneA, famH_noneA] at hb18
        obtain ⟨n_b18_b17, n_b18_b16, n_b18_f3, n_b18_b15, n_b18_b1, hb18⟩ := hb18
        refine Ops_loud rfl (LO.storeAll (cs := sqC r40.1) rfl sz28 rfl rfl (sqC_one _) (sqC_length _) (upd_same _ _ _) (sqC_length _) Chg.here rfl ?_)
        refine Ops_quiet _ rfl rfl (QO.assign rfl rfl) ?_
        refine Ops_nil ?_
        refine thenA_n ?_
        refine wpA_weaken (show Abs.Sub _ [(0, .slice A0 l0.length c0), (2, .bool false), (35, .int .u8 r34.1), (36, .int .i64 r34.2), (37, .int .u8 r35.1), (38, .int .i64 r35.2), (39, .int .u8 r36.1), (40, .int .i64 r36.2), (41, .int .u8 r37.1), (42, .int .i64 r37.2), (44, .pointer (some ⟨b17, 0, none⟩)), (45, .int .i64 r39.2), (46, .pointer (some ⟨b18, 0, none⟩)), (47, .int .i64 r40.2)] from (Sub.cons rfl (Sub.cons rfl (Sub.cons rfl (Sub.cons rfl (Sub.cons rfl (Sub.cons rfl (Sub.cons rfl (Sub.cons rfl (Sub.cons rfl (Sub.cons rfl (Sub.cons rfl (Sub.cons rfl (Sub.cons rfl (Sub.cons rfl (Sub.nil)))))))))))))))).ok (Le.refl _) ?_
        refine wpA_seq ?_
        refine wpA_region ?_
        refine Ops_quiet _ rfl rfl (QO.move rfl rfl) ?_
        have hq := Option.bind_eq_some_iff.1 hm; clear hm; obtain ⟨r41, hr41, hm⟩ := hq
        refine Ops_call _ _ rfl rfl (EO.fn rfl Try.func28 rfl rfl (Evs.cons rfl Evs.nil)) (QC.cc (c_spec_DrawParseSquare (l0 := l0) (A0 := A0) (c0 := c0) hr41 (RdS.le hs0 (Le.under (Le.under (Le.underO (Le.underF (Le.under (Le.under (Le.refl _) hb1) hb15) hf3) hb16) hb17) hb18))) ?_)
        refine Ops_quiet _ rfl rfl (QO.assign rfl rfl) ?_
        refine Ops_nil ?_
        refine thenA_n ?_
        refine wpA_seq ?_
        refine wpA_region ?_
        refine Ops_quiet _ rfl rfl (QO.move rfl rfl) ?_
        have hq := Option.bind_eq_some_iff.1 hm; clear hm; obtain ⟨r42, hr42, hm⟩ := hq
        refine Ops_call _ _ rfl rfl (EO.fn rfl Try.func22 rfl rfl (Evs.cons rfl Evs.nil)) (QC.cc (c_impl_ParseSquare hr42 ) ?_)
        refine Ops_quiet _ rfl rfl (QO.move rfl rfl) ?_
        refine Ops_quiet _ rfl rfl (QO.extract rfl rfl rfl) ?_
        refine Ops_quiet _ rfl rfl (QO.extract rfl rfl rfl) ?_
        refine Ops_loud rfl (LO.alloc rfl zr28 rfl (fun b19 hb19 => ?_))
        simp only [upd_noneA, updO_noneA, famH_noneA] at hb19
        obtain ⟨n_b19_b18, n_b19_b17, n_b19_b16, n_b19_f3, n_b19_b15, n_b19_b1, hb19⟩ := hb19
        refine Ops_loud rfl (LO.storeAll (cs := sqC r42.1) rfl sz28 rfl rfl (sqC_one _) (sqC_length _) (upd_same _ _ _) (sqC_length _) Chg.here rfl ?_)
        refine Ops_quiet _ rfl rfl (QO.assign rfl rfl) ?_
        refine Ops_nil ?_
        refine thenA_n ?_
        refine wpA_seq ?_
        refine wpA_region ?_
        refine Ops_quiet _ rfl rfl (QO.move rfl rfl) ?_
        have hq := Option.bind_eq_some_iff.1 hm; clear hm; obtain ⟨r43, hr43, hm⟩ := hq
        refine Ops_call _ _ rfl rfl (EO.fn rfl Try.func29 rfl rfl (Evs.cons rfl Evs.nil)) (QC.cc (c_spec_ParseSquare hr43 ) ?_)
        refine Ops_quiet _ rfl rfl (QO.move rfl rfl) ?_
        refine Ops_quiet _ rfl rfl (QO.extract rfl rfl rfl) ?_
        refine Ops_quiet _ rfl rfl (QO.extract rfl rfl rfl) ?_
        refine Ops_loud rfl (LO.alloc rfl zr28 rfl (fun b20 hb20 => ?_))
        simp only [upd_noneA, updO_noneA, famH_noneA] at hb20
        obtain ⟨n_b20_b19, n_b20_b18, n_b20_b17, n_b20_b16, n_b20_f3, n_b20_b15, n_b20_b1, hb20⟩ := hb20
        refine Ops_loud rfl (LO.storeAll (cs := sqC r43.1) rfl sz28 rfl rfl (sqC_one _) (sqC_length _) (upd_same _ _ _) (sqC_length _) Chg.here rfl ?_)
        refine Ops_quiet _ rfl rfl (QO.assign rfl rfl) ?_
        refine Ops_nil ?_
        refine thenA_n ?_
        refine wpA_seq ?_
        refine wpA_region ?_
        refine Ops_quiet _ rfl rfl (QO.move rfl rfl) ?_
        refine Ops_quiet _ rfl rfl (QO.move rfl rfl) ?_
        refine Ops_quiet _ rfl rfl (QO.bin rfl rfl rfl rfl) ?_
        refine Ops_quiet _ rfl rfl (QO.move rfl rfl) ?_
        refine Ops_case 314 rfl (fun g34 => ?_) (fun g34 => ?_)
        ·replace hm := cond_t hm g34
         refine Ops_quiet _ rfl rfl (QO.move rfl rfl) ?_
         refine Ops_quiet _ rfl rfl (QO.move rfl rfl) ?_
         refine Ops_quiet _ rfl rfl (QO.bin rfl rfl rfl rfl) ?_
         refine Ops_quiet _ rfl rfl (QO.pick_t rfl rfl rfl) ?_
         refine Ops_quiet _ rfl rfl (QO.move rfl rfl) ?_
         refine Ops_case 319 rfl (fun g35 => ?_) (fun g35 => ?_)
         ·replace hm := cond_t hm g35
          refine Ops_quiet _ rfl rfl (QO.move rfl rfl) ?_
          refine Ops_quiet _ rfl rfl (QO.move rfl rfl) ?_
          refine Ops_quiet _ rfl rfl (QO.bin rfl rfl rfl rfl) ?_
          refine Ops_quiet _ rfl rfl (QO.pick_t rfl rfl rfl) ?_
          refine Ops_quiet _ rfl rfl (QO.move rfl rfl) ?_
          refine Ops_case 324 rfl (fun g36 => ?_) (fun g36 => ?_)
          ·replace hm := cond_t hm g36
           refine Ops_quiet _ rfl rfl (QO.move rfl rfl) ?_
           refine Ops_quiet _ rfl rfl (QO.move rfl rfl) ?_
           refine Ops_quiet _ rfl rfl (QO.bin rfl rfl rfl rfl) ?_
           refine Ops_quiet _ rfl rfl (QO.pick_t rfl rfl rfl) ?_
           refine Ops_quiet _ rfl rfl (QO.move rfl rfl) ?_
           refine Ops_case 329 rfl (fun g37 => ?_) (fun g37 => ?_)
           ·replace hm := cond_t hm g37
            refine Ops_quiet _ rfl rfl (QO.move rfl rfl) ?_
            refine Ops_quiet _ rfl rfl (QO.move rfl rfl) ?_
            refine Ops_quiet _ rfl rfl (QO.bin rfl rfl rfl rfl) ?_
            refine Ops_quiet _ rfl rfl (QO.pick_t rfl rfl rfl) ?_
            refine Ops_quiet _ rfl rfl (QO.move rfl rfl) ?_
            refine Ops_case 334 rfl (fun g38 => ?_) (fun g38 => ?_)
            ·replace hm := cond_t hm g38
             refine Ops_quiet _ rfl rfl (QO.loadRow (cs := sqC r39.1) (hr := (rdAll ((upd_ne _ _ n_b20_b17.ne.symm).trans ((upd_ne _ _ n_b19_b17.ne.symm).trans ((upd_ne _ _ n_b18_b17.ne.symm).trans (upd_same _ _ _)))))) rfl sz28 rfl rfl (sqC_length _)) ?_
             refine Ops_quiet _ rfl rfl (QO.loadRow (cs := sqC r40.1) (hr := (rdAll ((upd_ne _ _ n_b20_b18.ne.symm).trans ((upd_ne _ _ n_b19_b18.ne.symm).trans (upd_same _ _ _))))) rfl sz28 rfl rfl (sqC_length _)) ?_
             refine Ops_quiet _ rfl rfl (QO.agg_eql rfl rfl rfl eg28 (eqv28 _ _) rfl) ?_
             refine Ops_quiet _ rfl rfl (QO.pick_t rfl rfl rfl) ?_
             refine Ops_quiet _ rfl rfl (QO.move rfl rfl) ?_
             refine Ops_case 339 rfl (fun g39 => ?_) (fun g39 => ?_)
             ·replace hm := cond_t hm g39
              refine Ops_quiet _ rfl rfl (QO.move rfl rfl) ?_
              refine Ops_quiet _ rfl rfl (QO.move rfl rfl) ?_
              refine Ops_quiet _ rfl rfl (QO.bin rfl rfl rfl rfl) ?_
              refine Ops_quiet _ rfl rfl (QO.pick_t rfl rfl rfl) ?_
              refine Ops_quiet _ rfl rfl (QO.move rfl rfl) ?_
              refine Ops_case 344 rfl (fun g40 => ?_) (fun g40 => ?_)
              ·replace hm := cond_t hm g40
               refine Ops_quiet _ rfl rfl (QO.loadRow (cs := sqC r42.1) (hr := (rdAll ((upd_ne _ _ n_b20_b19.ne.symm).trans (upd_same _ _ _)))) rfl sz28 rfl rfl (sqC_length _)) ?_
               refine Ops_quiet _ rfl rfl (QO.loadRow (cs := sqC r43.1) (hr := (rdAll (upd_same _ _ _))) rfl sz28 rfl rfl (sqC_length _)) ?_
               refine Ops_quiet _ rfl rfl (QO.agg_eql rfl rfl rfl eg28 (eqv28 _ _) rfl) ?_
               refine Ops_quiet _ rfl rfl (QO.pick_t rfl rfl rfl) ?_
               refine Ops_quiet _ rfl rfl (QO.assign rfl rfl) ?_
               refine Ops_nil ?_
               refine thenA_n ?_
               refine wpA_ret ?_
               obtain rfl := Option.some.inj hm
               exact retA_r (h2 := h) (Res.one rfl (rfl)) (Le.under (Le.under (Le.under (Le.under (Le.underO (Le.underF (Le.under (Le.under (Le.refl _) hb1) hb15) hf3) hb16) hb17) hb18) hb19) hb20) ⟨rfl, rfl⟩
              ·replace hm := cond_f hm g40
               refine Ops_skip rfl rfl ?_
               refine Ops_skip rfl rfl ?_
               refine Ops_skip rfl rfl ?_
               refine Ops_quiet _ rfl rfl (QO.pick_f rfl rfl rfl) ?_
               refine Ops_quiet _ rfl rfl (QO.assign rfl rfl) ?_
               refine Ops_nil ?_
               refine thenA_n ?_
               refine wpA_ret ?_
               obtain rfl := Option.some.inj hm
               exact retA_r (h2 := h) (Res.one rfl (rfl)) (Le.under (Le.under (Le.under (Le.under (Le.underO (Le.underF (Le.under (Le.under (Le.refl _) hb1) hb15) hf3) hb16) hb17) hb18) hb19) hb20) ⟨rfl, rfl⟩
             ·replace hm := cond_f hm g39
              refine Ops_skip rfl rfl ?_
              refine Ops_skip rfl rfl ?_
              refine Ops_skip rfl rfl ?_
              refine Ops_quiet _ rfl rfl (QO.pick_f rfl rfl rfl) ?_
              refine Ops_quiet _ rfl rfl (QO.move rfl rfl) ?_
              refine Ops_skip rfl rfl ?_
              refine Ops_skip rfl rfl ?_
              refine Ops_skip rfl rfl ?_
              refine Ops_quiet _ rfl rfl (QO.pick_f rfl rfl rfl) ?_
              refine Ops_quiet _ rfl rfl (QO.assign rfl rfl) ?_
              refine Ops_nil ?_
              refine thenA_n ?_
              refine wpA_ret ?_
              obtain rfl := Option.some.inj hm
              exact retA_r (h2 := h) (Res.one rfl (rfl)) (Le.under (Le.under (Le.under (Le.under (Le.underO (Le.underF (Le.under (Le.under (Le.refl _) hb1) hb15) hf3) hb16) hb17) hb18) hb19) hb20) ⟨rfl, rfl⟩
            ·replace hm := cond_f hm g38
             refine Ops_skip rfl rfl ?_
             refine Ops_skip rfl rfl ?_
             refine Ops_skip rfl rfl ?_
             refine Ops_quiet _ rfl rfl (QO.pick_f rfl rfl rfl) ?_
             refine Ops_quiet _ rfl rfl (QO.move rfl rfl) ?_
             refine Ops_skip rfl rfl ?_
             refine Ops_skip rfl rfl ?_
             refine Ops_skip rfl rfl ?_
             refine Ops_quiet _ rfl rfl (QO.pick_f rfl rfl rfl) ?_
             refine Ops_quiet _ rfl rfl (QO.move rfl rfl) ?_
             refine Ops_skip rfl rfl ?_
             refine Ops_skip rfl rfl ?_
             refine Ops_skip rfl rfl ?_
             refine Ops_quiet _ rfl rfl (QO.pick_f rfl rfl rfl) ?_
             refine Ops_quiet _ rfl rfl (QO.assign rfl rfl) ?_
             refine Ops_nil ?_
             refine thenA_n ?_
             refine wpA_ret ?_
             obtain rfl := Option.some.inj hm
             exact retA_r (h2 := h) (Res.one rfl (rfl)) (Le.under (Le.under (Le.under (Le.under (Le.underO (Le.underF (Le.under (Le.under (Le.refl _) hb1) hb15) hf3) hb16) hb17) hb18) hb19) hb20) ⟨rfl, rfl⟩
           ·replace hm := cond_f hm g37
            refine Ops_skip rfl rfl ?_
            refine Ops_skip rfl rfl ?_
            refine Ops_skip rfl rfl ?_
            refine Ops_quiet _ rfl rfl (QO.pick_f rfl rfl rfl) ?_
            refine Ops_quiet _ rfl rfl (QO.move rfl rfl) ?_
            refine Ops_skip rfl rfl ?_
            refine Ops_skip rfl rfl ?_
            refine Ops_skip rfl rfl ?_
            refine Ops_quiet _ rfl rfl (QO.pick_f rfl rfl rfl) ?_
            refine Ops_quiet _ rfl rfl (QO.move rfl rfl) ?_
            refine Ops_skip rfl rfl ?_
            refine Ops_skip rfl rfl ?_
            refine Ops_skip rfl rfl ?_
            refine Ops_quiet _ rfl rfl (QO.pick_f rfl rfl rfl) ?_
            refine Ops_quiet _ rfl rfl (QO.move rfl rfl) ?_
            refine Ops_skip rfl rfl ?_
            refine Ops_skip rfl rfl ?_
            refine Ops_skip rfl rfl ?_
            refine Ops_quiet _ rfl rfl (QO.pick_f rfl rfl rfl) ?_
            refine Ops_quiet _ rfl rfl (QO.assign rfl rfl) ?_
            refine Ops_nil ?_
            refine thenA_n ?_
            refine wpA_ret ?_
            obtain rfl := Option.some.inj hm
            exact retA_r (h2 := h) (Res.one rfl (rfl)) (Le.under (Le.under (Le.under (Le.under (Le.underO (Le.underF (Le.under (Le.under (Le.refl _) hb1) hb15) hf3) hb16) hb17) hb18) hb19) hb20) ⟨rfl, rfl⟩
          ·replace hm := cond_f hm g36
           refine Ops_skip rfl rfl ?_
           refine Ops_skip rfl rfl ?_
           refine Ops_skip rfl rfl ?_
           refine Ops_quiet _ rfl rfl (QO.pick_f rfl rfl rfl) ?_
           refine Ops_quiet _ rfl rfl (QO.move rfl rfl) ?_
           refine Ops_skip rfl rfl ?_
           refine Ops_skip rfl rfl ?_
           refine Ops_skip rfl rfl ?_
           refine Ops_quiet _ rfl rfl (QO.pick_f rfl rfl rfl) ?_
           refine Ops_quiet _ rfl rfl (QO.move rfl rfl) ?_
           refine Ops_skip rfl rfl ?_
           refine Ops_skip rfl rfl ?_
           refine Ops_skip rfl rfl ?_
           refine Ops_quiet _ rfl rfl (QO.pick_f rfl rfl rfl) ?_
           refine Ops_quiet _ rfl rfl (QO.move rfl rfl) ?_
           refine Ops_skip rfl rfl ?_
           refine Ops_skip rfl rfl ?_
           refine Ops_skip rfl rfl ?_
           refine Ops_quiet _ rfl rfl (QO.pick_f rfl rfl rfl) ?_
           refine Ops_quiet _ rfl rfl (QO.move rfl rfl) ?_
           refine Ops_skip rfl rfl ?_
           refine Ops_skip rfl rfl ?_
           refine Ops_skip rfl rfl ?_
           refine Ops_quiet _ rfl rfl (QO.pick_f rfl rfl rfl) ?_
           refine Ops_quiet _ rfl rfl (QO.assign rfl rfl) ?_
           refine Ops_nil ?_
           refine thenA_n ?_
           refine wpA_ret ?_
           obtain rfl := Option.some.inj hm
           exact retA_r (h2 := h) (Res.one rfl (rfl)) (Le.under (Le.under (Le.under (Le.under (Le.underO (Le.underF (Le.under (Le.under (Le.refl _) hb1) hb15) hf3) hb16) hb17) hb18) hb19) hb20) ⟨rfl, rfl⟩
         ·replace hm := cond_f hm g35
          refine Ops_skip rfl rfl ?_
          refine Ops_skip rfl rfl ?_
          refine Ops_skip rfl rfl ?_
          refine Ops_quiet _ rfl rfl (QO.pick_f rfl rfl rfl) ?_
          refine Ops_quiet _ rfl rfl (QO.move rfl rfl) ?_
          refine Ops_skip rfl rfl ?_
          refine Ops_skip rfl rfl ?_
          refine Ops_skip rfl rfl ?_
          refine Ops_quiet _ rfl rfl (QO.pick_f rfl rfl rfl) ?_
          refine Ops_quiet _ rfl rfl (QO.move rfl rfl) ?_
          refine Ops_skip rfl rfl ?_
          refine Ops_skip rfl rfl ?_
          refine Ops_skip rfl rfl ?_
          refine Ops_quiet _ rfl rfl (QO.pick_f rfl rfl rfl) ?_
          refine Ops_quiet _ rfl rfl (QO.move rfl rfl) ?_
          refine Ops_skip rfl rfl ?_
          refine Ops_skip rfl rfl ?_
          refine Ops_skip rfl rfl ?_
          refine Ops_quiet _ rfl rfl (QO.pick_f rfl rfl rfl) ?_
          refine Ops_quiet _ rfl rfl (QO.move rfl rfl) ?_
          refine Ops_skip rfl rfl ?_
          refine Ops_skip rfl rfl ?_
          refine Ops_skip rfl rfl ?_
          refine Ops_quiet _ rfl rfl (QO.pick_f rfl rfl rfl) ?_
          refine Ops_quiet _ rfl rfl (QO.move rfl rfl) ?_
          refine Ops_skip rfl rfl ?_
          refine Ops_skip rfl rfl ?_
          refine Ops_skip rfl rfl ?_
          refine Ops_quiet _ rfl rfl (QO.pick_f rfl rfl rfl) ?_
          refine Ops_quiet _ rfl rfl (QO.assign rfl rfl) ?_
          refine Ops_nil ?_
          refine thenA_n ?_
          refine wpA_ret ?_
          obtain rfl := Option.some.inj hm
          exact retA_r (h2 := h) (Res.one rfl (rfl)) (Le.under (Le.under (Le.under (Le.under (Le.underO (Le.underF (Le.under (Le.under (Le.refl _) hb1) hb15) hf3) hb16) hb17) hb18) hb19) hb20) ⟨rfl, rfl⟩
        ·replace hm := cond_f hm g34
         refine Ops_skip rfl rfl ?_
         refine Ops_skip rfl rfl ?_
         refine Ops_skip rfl rfl ?_
         refine Ops_quiet _ rfl rfl (QO.pick_f rfl rfl rfl) ?_
         refine Ops_quiet _ rfl rfl (QO.move rfl rfl) ?_
         refine Ops_skip rfl rfl ?_
         refine Ops_skip rfl rfl ?_
         refine Ops_skip rfl rfl ?_
         refine Ops_quiet _ rfl rfl (QO.pick_f rfl rfl rfl) ?_
         refine Ops_quiet _ rfl rfl (QO.move rfl rfl) ?_
         refine Ops_skip rfl rfl ?_
         refine Ops_skip rfl rfl ?_
         refine Ops_skip rfl rfl ?_
         refine Ops_quiet _ rfl rfl (QO.pick_f rfl rfl rfl) ?_
         refine Ops_quiet _ rfl rfl (QO.move rfl rfl) ?_
         refine Ops_skip rfl rfl ?_
         refine Ops_skip rfl rfl ?_
         refine Ops_skip rfl rfl ?_
         refine Ops_quiet _ rfl rfl (QO.pick_f rfl rfl rfl) ?_
         refine Ops_quiet _ rfl rfl (QO.move rfl rfl) ?_
         refine Ops_skip rfl rfl ?_
         refine Ops_skip rfl rfl ?_
         refine Ops_skip rfl rfl ?_
         refine Ops_quiet _ rfl rfl (QO.pick_f rfl rfl rfl) ?_
         refine Ops_quiet _ rfl rfl (QO.move rfl rfl) ?_
         refine Ops_skip rfl rfl ?_
         refine Ops_skip rfl rfl ?_
         refine Ops_skip rfl rfl ?_
         refine Ops_quiet _ rfl rfl (QO.pick_f rfl rfl rfl) ?_
         refine Ops_quiet _ rfl rfl (QO.move rfl rfl) ?_
         refine Ops_skip rfl rfl ?_
         refine Ops_skip rfl rfl ?_
         refine Ops_skip rfl rfl ?_
         refine Ops_quiet _ rfl rfl (QO.pick_f rfl rfl rfl) ?_
         refine Ops_quiet _ rfl rfl (QO.assign rfl rfl) ?_
         refine Ops_nil ?_
         refine thenA_n ?_
         refine wpA_ret ?_
         obtain rfl := Option.some.inj hm
         exact retA_r (h2 := h) (Res.one rfl (rfl)) (Le.under (Le.under (Le.under (Le.under (Le.underO (Le.underF (Le.under (Le.under (Le.refl _) hb1) hb15) hf3) hb16) hb17) hb18) hb19) hb20) ⟨rfl, rfl⟩
end Go.Lab
