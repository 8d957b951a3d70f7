/- The walks: each function computes what its model tells. -/
import Derived.Test.YtnkllppifbmkjaaW1
set_option linter.unusedVariables false
set_option linter.unusedSimpArgs false
namespace Go.Lab
open Go Go.Abs Go.Proofs
set_option maxRecDepth 20000
set_option linter.unusedVariables false
set_option linter.unusedSimpArgs false
/-! loop.example/g01195/spec.l01Moved -/
theorem c_spec_l01Moved {a0 : Sq} {a1 : (Nat → Int)} {a2 : (Nat → Int)} {a3 : (Nat → Int)} {h : Hp} {r : Sq} (hm : m_spec_l01Moved a0 a1 a2 a3 = some r)  :
    QC Try.prog 64 #[.agg (sqC a0).toArray, .agg (tabI .u8 a1 10).toArray, .agg (tabI .u8 a2 10).toArray, .agg (tabI .u8 a3 10).toArray] h (.agg (sqC r).toArray) := by
 unfold m_spec_l01Moved at hm
 refine CC.enter Try.func64 rfl Try.ntmps64 rfl ?_
 refine wpA_seq ?_
 refine wpA_region ?_
 refine Ops_loud rfl (LO.boxAgg rfl rfl rfl (fun b1 hb1 => ?_))
 refine Ops_loud rfl (LO.boxAgg rfl rfl rfl (fun b2 hb2 => ?_))
 simp only [upd_noneA] at hb2
 obtain ⟨n_b2_b1, hb2⟩ := hb2
 refine Ops_loud rfl (LO.boxAgg rfl rfl rfl (fun b3 hb3 => ?_))
 simp only [upd_noneA] at hb3
 obtain ⟨n_b3_b2, n_b3_b1, hb3⟩ := hb3
 refine Ops_loud rfl (LO.boxAgg rfl rfl rfl (fun b4 hb4 => ?_))
 simp only [upd_noneA] at hb4
 obtain ⟨n_b4_b3, n_b4_b2, n_b4_b1, hb4⟩ := hb4
 refine Ops_loud rfl (LO.alloc rfl zr37 rfl (fun b5 hb5 => ?_))
 simp only [upd_noneA] at hb5
 obtain ⟨n_b5_b4, n_b5_b3, n_b5_b2, n_b5_b1, hb5⟩ := hb5
 refine Ops_nil ?_
 refine thenA_n ?_
 refine wpA_seq ?_
 refine wpA_region ?_
 refine Ops_quiet _ rfl rfl (QO.fieldAt (fo := 0) rfl sz37 rfl rfl sz2 rfl rfl) ?_
 refine Ops_quiet _ rfl rfl (QO.load rfl sz2 rfl rfl (by (refine (rd_own ((upd_ne _ _ n_b5_b1.ne.symm).trans ((upd_ne _ _ n_b4_b1.ne.symm).trans ((upd_ne _ _ n_b3_b1.ne.symm).trans ((upd_ne _ _ n_b2_b1.ne.symm).trans (upd_same _ _ _))))) _).trans ?_); exact rfl)) ?_
 refine Ops_quiet _ rfl rfl (QO.build1 rfl rfl (bd37_0 a0.order)) ?_
 refine Ops_loud rfl (LO.alloc rfl zr37 rfl (fun b6 hb6 => ?_))
 simp only [upd_noneA] at hb6
 obtain ⟨n_b6_b5, n_b6_b4, n_b6_b3, n_b6_b2, n_b6_b1, hb6⟩ := hb6
 refine Ops_loud rfl (LO.storeAll (cs := sqC (⟨a0.order, tb0⟩ : Sq)) rfl sz37 rfl rfl (sqC_one _) (sqC_length _) (upd_same _ _ _) (sqC_length _) Chg.here rfl ?_)
 refine Ops_nil ?_
 refine thenA_n ?_
 refine wpA_seq ?_
 refine wpA_seq ?_
 refine wpA_region ?_
 refine Ops_quiet _ rfl rfl (QO.assign rfl rfl) ?_
 refine Ops_nil ?_
 refine thenA_n ?_
 refine wpA_block ?_
 obtain ⟨R1, hR, hm⟩ := Option.bind_eq_some_iff.1 hm
 obtain ⟨k1, hk1⟩ := loopV_some hR
 clear hR
 refine wpA_mono (Q := fun e s' h' => match (generalizing := false) R1 with | .stop x id => e = .exit id ∧ ∃ (x1 : Int) (x2 : Sq), x = (x1, x2) ∧ Sub s' [(4, .pointer (some ⟨b1, 0, none⟩)), (5, .pointer (some ⟨b2, 0, none⟩)), (6, .pointer (some ⟨b3, 0, none⟩)), (7, .pointer (some ⟨b4, 0, none⟩)), (8, .pointer (some ⟨b5, 0, none⟩)), (9, .pointer (some ⟨b6, 0, none⟩)), (10, .int .i64 x1)] ∧ Le (upd (upd (upd (upd (upd (upd (h) b1 (.own 37 (sqC a0) 101)) b2 (.own 25 (tabI .u8 a1 10) 10)) b3 (.own 25 (tabI .u8 a2 10) 10)) b4 (.own 25 (tabI .u8 a3 10) 10)) b5 (.own 37 (sqC sq0) 101)) b6 (.own 37 (sqC x2) 101)) h' | .ret r => False | .next _ => False) ?_ ?_
 ·refine wpA_loop (fun k s' h' => ∃ (x1 : Int) (x2 : Sq), loopW (m_spec_l01Moved_l0 a0 a1 a2 a3) k (x1, x2) = some R1 ∧ Sub s' [(4, .pointer (some ⟨b1, 0, none⟩)), (5, .pointer (some ⟨b2, 0, none⟩)), (6, .pointer (some ⟨b3, 0, none⟩)), (7, .pointer (some ⟨b4, 0, none⟩)), (8, .pointer (some ⟨b5, 0, none⟩)), (9, .pointer (some ⟨b6, 0, none⟩)), (10, .int .i64 x1)] ∧ Le (upd (upd (upd (upd (upd (upd (h) b1 (.own 37 (sqC a0) 101)) b2 (.own 25 (tabI .u8 a1 10) 10)) b3 (.own 25 (tabI .u8 a2 10) 10)) b4 (.own 25 (tabI .u8 a3 10) 10)) b5 (.own 37 (sqC sq0) 101)) b6 (.own 37 (sqC x2) 101)) h') (m := k1) ⟨0, (⟨a0.order, tb0⟩ : Sq), hk1, (Sub.cons rfl (Sub.cons rfl (Sub.cons rfl (Sub.cons rfl (Sub.cons rfl (Sub.cons rfl (Sub.cons rfl Sub.nil))))))), (Le.upd_left (Le.upd_left (Le.upd_left (Le.upd_left (Le.upd_left (Le.upd_left (Le.under (Le.under (Le.under (Le.under (Le.under (Le.under (Le.refl _) hb1) hb2) hb3) hb4) hb5) hb6) ((upd_ne _ _ n_b6_b1.ne.symm).trans ((upd_ne _ _ n_b5_b1.ne.symm).trans ((upd_ne _ _ n_b4_b1.ne.symm).trans ((upd_ne _ _ n_b3_b1.ne.symm).trans ((upd_ne _ _ n_b2_b1.ne.symm).trans (upd_same _ _ _)))))) (by first | rfl | (simp; done))) ((upd_ne _ _ n_b6_b2.ne.symm).trans ((upd_ne _ _ n_b5_b2.ne.symm).trans ((upd_ne _ _ n_b4_b2.ne.symm).trans ((upd_ne _ _ n_b3_b2.ne.symm).trans (upd_same _ _ _))))) (by first | rfl | (simp; done))) ((upd_ne _ _ n_b6_b3.ne.symm).trans ((upd_ne _ _ n_b5_b3.ne.symm).trans ((upd_ne _ _ n_b4_b3.ne.symm).trans (upd_same _ _ _)))) (by first | rfl | (simp; done))) ((upd_ne _ _ n_b6_b4.ne.symm).trans ((upd_ne _ _ n_b5_b4.ne.symm).trans (upd_same _ _ _))) (by first | rfl | (simp; done))) ((upd_ne _ _ n_b6_b5.ne.symm).trans (upd_same _ _ _)) (by first | rfl | (simp; done))) (upd_same _ _ _) (by first | rfl | (simp; done)))⟩ ?_
  rintro k1 s' h' ⟨x1, x2, hk1, hsub, hle⟩
  refine wpA_weaken hsub.ok hle ?_
  clear hsub hle s' h'
  cases k1 with
  | zero => exact absurd hk1 (by simp [loopW])
  | succ k1 =>
   obtain ⟨o1, ho1, hk1⟩ := loopW_succ hk1
   unfold m_spec_l01Moved_l0 at ho1
   try dsimp only at ho1
   refine wpA_seq ?_
   refine wpA_seq ?_
   refine wpA_region ?_
   refine Ops_quiet _ rfl rfl (QO.move rfl rfl) ?_
   refine Ops_quiet _ rfl rfl (QO.fieldAt (fo := 0) rfl sz37 rfl rfl sz2 rfl rfl) ?_
   refine Ops_quiet _ rfl rfl (QO.load rfl sz2 rfl rfl (by (refine (rd_own ((upd_ne _ _ n_b6_b1.ne.symm).trans ((upd_ne _ _ n_b5_b1.ne.symm).trans ((upd_ne _ _ n_b4_b1.ne.symm).trans ((upd_ne _ _ n_b3_b1.ne.symm).trans ((upd_ne _ _ n_b2_b1.ne.symm).trans (upd_same _ _ _)))))) _).trans ?_); exact rfl)) ?_
   refine Ops_quiet _ rfl rfl (QO.bin rfl rfl rfl rfl) ?_
   refine Ops_nil ?_
   refine thenA_n ?_
   refine wpA_cond rfl (fun g1 => ?_) (fun g1 => ?_)
   ·replace ho1 := cond_t ho1 g1
    refine wpA_skip ?_
    refine thenA_n ?_
    refine wpA_seq ?_
    refine wpA_block ?_
    refine wpA_seq ?_
    refine wpA_region ?_
    refine Ops_quiet _ rfl rfl (QO.assign rfl rfl) ?_
    refine Ops_nil ?_
    refine thenA_n ?_
    refine wpA_block ?_
    obtain ⟨R2, hR, ho1⟩ := Option.bind_eq_some_iff.1 ho1
    obtain ⟨k2, hk2⟩ := loopV_some hR
    clear hR
    refine wpA_mono (Q := fun e s' h' => match (generalizing := false) R2 with | .stop x id => e = .exit id ∧ ∃ (x3 : Int) (x4 : Sq), x = (x3, x4) ∧ Sub s' [(4, .pointer (some ⟨b1, 0, none⟩)), (5, .pointer (some ⟨b2, 0, none⟩)), (6, .pointer (some ⟨b3, 0, none⟩)), (7, .pointer (some ⟨b4, 0, none⟩)), (8, .pointer (some ⟨b5, 0, none⟩)), (9, .pointer (some ⟨b6, 0, none⟩)), (10, .int .i64 x1), (11, .int .i64 x3)] ∧ Le (upd (upd (upd (upd (upd (upd (h) b1 (.own 37 (sqC a0) 101)) b2 (.own 25 (tabI .u8 a1 10) 10)) b3 (.own 25 (tabI .u8 a2 10) 10)) b4 (.own 25 (tabI .u8 a3 10) 10)) b5 (.own 37 (sqC sq0) 101)) b6 (.own 37 (sqC x4) 101)) h' | .ret r => False | .next _ => False) ?_ ?_
    ·refine wpA_loop (fun k s' h' => ∃ (x3 : Int) (x4 : Sq), loopW (m_spec_l01Moved_l1 a0 a1 a2 a3 x1) k (x3, x4) = some R2 ∧ Sub s' [(4, .pointer (some ⟨b1, 0, none⟩)), (5, .pointer (some ⟨b2, 0, none⟩)), (6, .pointer (some ⟨b3, 0, none⟩)), (7, .pointer (some ⟨b4, 0, none⟩)), (8, .pointer (some ⟨b5, 0, none⟩)), (9, .pointer (some ⟨b6, 0, none⟩)), (10, .int .i64 x1), (11, .int .i64 x3)] ∧ Le (upd (upd (upd (upd (upd (upd (h) b1 (.own 37 (sqC a0) 101)) b2 (.own 25 (tabI .u8 a1 10) 10)) b3 (.own 25 (tabI .u8 a2 10) 10)) b4 (.own 25 (tabI .u8 a3 10) 10)) b5 (.own 37 (sqC sq0) 101)) b6 (.own 37 (sqC x4) 101)) h') (m := k2) ⟨0, x2, hk2, (Sub.cons rfl (Sub.cons rfl (Sub.cons rfl (Sub.cons rfl (Sub.cons rfl (Sub.cons rfl (Sub.cons rfl (Sub.cons rfl Sub.nil)))))))), (Le.upd_left (Le.upd_left (Le.upd_left (Le.upd_left (Le.upd_left (Le.upd_left (Le.under (Le.under (Le.under (Le.under (Le.under (Le.under (Le.refl _) hb1) hb2) hb3) hb4) hb5) hb6) ((upd_ne _ _ n_b6_b1.ne.symm).trans ((upd_ne _ _ n_b5_b1.ne.symm).trans ((upd_ne _ _ n_b4_b1.ne.symm).trans ((upd_ne _ _ n_b3_b1.ne.symm).trans ((upd_ne _ _ n_b2_b1.ne.symm).trans (upd_same _ _ _)))))) (by first | rfl | (simp; done))) ((upd_ne _ _ n_b6_b2.ne.symm).trans ((upd_ne _ _ n_b5_b2.ne.symm).trans ((upd_ne _ _ n_b4_b2.ne.symm).trans ((upd_ne _ _ n_b3_b2.ne.symm).trans (upd_same _ _ _))))) (by first | rfl | (simp; done))) ((upd_ne _ _ n_b6_b3.ne.symm).trans ((upd_ne _ _ n_b5_b3.ne.symm).trans ((upd_ne _ _ n_b4_b3.ne.symm).trans (upd_same _ _ _)))) (by first | rfl | (simp; done))) ((upd_ne _ _ n_b6_b4.ne.symm).trans ((upd_ne _ _ n_b5_b4.ne.symm).trans (upd_same _ _ _))) (by first | rfl | (simp; done))) ((upd_ne _ _ n_b6_b5.ne.symm).trans (upd_same _ _ _)) (by first | rfl | (simp; done))) (upd_same _ _ _) (by first | rfl | (simp; done)))⟩ ?_
     rintro k2 s' h' ⟨x3, x4, hk2, hsub, hle⟩
     refine wpA_weaken hsub.ok hle ?_
     clear hsub hle s' h'
     cases k2 with
     | zero => exact absurd hk2 (by simp [loopW])
     | succ k2 =>
      obtain ⟨o2, ho2, hk2⟩ := loopW_succ hk2
      unfold m_spec_l01Moved_l1 at ho2
      try dsimp only at ho2
      refine wpA_seq ?_
      refine wpA_seq ?_
      refine wpA_region ?_
      refine Ops_quiet _ rfl rfl (QO.move rfl rfl) ?_
      refine Ops_quiet _ rfl rfl (QO.fieldAt (fo := 0) rfl sz37 rfl rfl sz2 rfl rfl) ?_
      refine Ops_quiet _ rfl rfl (QO.load rfl sz2 rfl rfl (by (refine (rd_own ((upd_ne _ _ n_b6_b1.ne.symm).trans ((upd_ne _ _ n_b5_b1.ne.symm).trans ((upd_ne _ _ n_b4_b1.ne.symm).trans ((upd_ne _ _ n_b3_b1.ne.symm).trans ((upd_ne _ _ n_b2_b1.ne.symm).trans (upd_same _ _ _)))))) _).trans ?_); exact rfl)) ?_
      refine Ops_quiet _ rfl rfl (QO.bin rfl rfl rfl rfl) ?_
      refine Ops_nil ?_
      refine thenA_n ?_
      refine wpA_cond rfl (fun g2 => ?_) (fun g2 => ?_)
      ·replace ho2 := cond_t ho2 g2
       refine wpA_skip ?_
       refine thenA_n ?_
       refine wpA_seq ?_
       refine wpA_block ?_
       refine wpA_any (upd (upd (upd (upd (upd (upd (h) b1 (.own 37 (sqC a0) 101)) b2 (.own 25 (tabI .u8 a1 10) 10)) b3 (.own 25 (tabI .u8 a2 10) 10)) b4 (.own 25 (tabI .u8 a3 10) 10)) b5 (.own 37 (sqC sq0) 101)) b6 (.own 37 (sqC x4) 101)) [17] [17] (by kernel_rfl) (by kernel_rfl) (DW.start ?_)
       refine DW.pure' 0 _ rfl (by kernel_rfl) rfl (fun _ => QO.move rfl rfl) ?_
       have hq := chk ho2; clear ho2; obtain ⟨ck1, ho2⟩ := hq
       refine DW.pure' 1 _ rfl (by kernel_rfl) rfl (fun _ => QO.idxArr rfl sz25 sz5 rfl rfl (by omega) (by omega)) ?_
       refine DW.read' 2 _ rfl (by kernel_rfl) rfl (QO.load rfl sz5 rfl rfl (by (refine (rd_own ((upd_ne _ _ n_b6_b2.ne.symm).trans ((upd_ne _ _ n_b5_b2.ne.symm).trans ((upd_ne _ _ n_b4_b2.ne.symm).trans ((upd_ne _ _ n_b3_b2.ne.symm).trans (upd_same _ _ _))))) _).trans ?_); exact tabI_get01 (by omega))) ?_
       refine DW.pure' 3 _ rfl (by kernel_rfl) rfl (fun _ => QO.move rfl rfl) ?_
       have hq := chk ho2; clear ho2; obtain ⟨ck2, ho2⟩ := hq
       refine DW.pure' 4 _ rfl (by kernel_rfl) rfl (fun _ => QO.idxArr rfl sz25 sz5 rfl rfl (by omega) (by omega)) ?_
       refine DW.read' 5 _ rfl (by kernel_rfl) rfl (QO.load rfl sz5 rfl rfl (by (refine (rd_own ((upd_ne _ _ n_b6_b3.ne.symm).trans ((upd_ne _ _ n_b5_b3.ne.symm).trans ((upd_ne _ _ n_b4_b3.ne.symm).trans (upd_same _ _ _)))) _).trans ?_); exact tabI_get01 (by omega))) ?_
       refine DW.pure' 6 _ rfl (by kernel_rfl) rfl (fun _ => QO.move rfl rfl) ?_
       refine DW.pure' 7 _ rfl (by kernel_rfl) rfl (fun _ => QO.move rfl rfl) ?_
       refine DW.pure' 8 _ rfl (by kernel_rfl) rfl (fun _ => QO.fieldAt (fo := 1) rfl sz37 rfl rfl sz35 rfl rfl) ?_
       have hq := chk ho2; clear ho2; obtain ⟨ck3, ho2⟩ := hq
       refine DW.pure' 9 _ rfl (by kernel_rfl) rfl (fun _ => QO.idxArr rfl sz35 sz24 rfl rfl (by omega) (by omega)) ?_
       have hq := chk ho2; clear ho2; obtain ⟨ck4, ho2⟩ := hq
       refine DW.pure' 10 _ rfl (by kernel_rfl) rfl (fun _ => QO.idxArr rfl sz24 sz5 rfl rfl (by omega) (by omega)) ?_
       refine DW.read' 11 _ rfl (by kernel_rfl) rfl (QO.load rfl sz5 rfl rfl (by (refine (rd_own ((upd_ne _ _ n_b6_b1.ne.symm).trans ((upd_ne _ _ n_b5_b1.ne.symm).trans ((upd_ne _ _ n_b4_b1.ne.symm).trans ((upd_ne _ _ n_b3_b1.ne.symm).trans ((upd_ne _ _ n_b2_b1.ne.symm).trans (upd_same _ _ _)))))) _).trans ?_); exact sqC_get (by omega) (by omega))) ?_
       have hq := chk ho2; clear ho2; obtain ⟨ck5, ho2⟩ := hq
       refine DW.pure' 12 _ rfl (by kernel_rfl) rfl (fun _ => QO.idxArr rfl sz25 sz5 rfl rfl (by omega) (by omega)) ?_
       refine DW.read' 13 _ rfl (by kernel_rfl) rfl (QO.load rfl sz5 rfl rfl (by (refine (rd_own ((upd_ne _ _ n_b6_b4.ne.symm).trans ((upd_ne _ _ n_b5_b4.ne.symm).trans (upd_same _ _ _))) _).trans ?_); exact tabI_get01 (by omega))) ?_
       refine DW.pure' 14 _ rfl (by kernel_rfl) rfl (fun _ => QO.fieldAt (fo := 1) rfl sz37 rfl rfl sz35 rfl rfl) ?_
       have hq := chk ho2; clear ho2; obtain ⟨ck6, ho2⟩ := hq
       refine DW.pure' 15 _ rfl (by kernel_rfl) rfl (fun _ => QO.idxArr rfl sz35 sz24 rfl rfl (by omega) (by omega)) ?_
       have hq := chk ho2; clear ho2; obtain ⟨ck7, ho2⟩ := hq
       refine DW.pure' 16 _ rfl (by kernel_rfl) rfl (fun _ => QO.idxArr rfl sz24 sz5 rfl rfl (by omega) (by omega)) ?_
       refine DW.loud 17 rfl (by kernel_rfl) rfl rfl (LO.store' (xs' := sqC (⟨x4.order, (tset x4.t ((a1 (x1).toNat)).toNat ((a2 (x3).toNat)).toNat (a3 ((a0.t (x1).toNat (x3).toNat)).toNat))⟩ : Sq)) rfl sz5 rfl rfl rfl (upd_same _ _ _) (by first | ((try simp only [sqC_length, tbC_length, tabI_length, tabB_length, ints_length, plsC_length, trC_length, sqsC_length, strsC_length, boolsC_length, tbB_length, List.length_append, List.length_cons, List.length_nil, List.length_set, List.length_replicate, rep_length]); first | omega | decide) | exact Nat.le_of_ble_eq_true rfl) (sqC_set (by omega) (by omega)) Chg.here rfl ?_)
       refine ⟨(fun e => absurd e (by decide)), ?_⟩
       refine DW.done (by kernel_rfl) ?_ _
       refine blockA_n ?_
       refine thenA_n ?_
       refine wpA_region ?_
       refine Ops_quiet _ rfl rfl (QO.move rfl rfl) ?_
       refine Ops_quiet _ rfl rfl (QO.bin rfl rfl rfl rfl) ?_
       refine Ops_quiet _ rfl rfl (QO.assign rfl rfl) ?_
       refine Ops_nil ?_
       obtain rfl := Option.some.inj ho2
       dsimp only at hk2
       exact thenA_n ⟨k2, Nat.lt_succ_self _, _, _, hk2, (Sub.cons rfl (Sub.cons rfl (Sub.cons rfl (Sub.cons rfl (Sub.cons rfl (Sub.cons rfl (Sub.cons rfl (Sub.cons rfl Sub.nil)))))))), (Le.upd_left (Le.upd_left (Le.upd_left (Le.upd_left (Le.upd_left (Le.upd_left (Le.under (Le.under (Le.under (Le.under (Le.under (Le.under (Le.refl _) hb1) hb2) hb3) hb4) hb5) hb6) ((upd_ne _ _ n_b6_b1.ne.symm).trans ((upd_ne _ _ n_b5_b1.ne.symm).trans ((upd_ne _ _ n_b4_b1.ne.symm).trans ((upd_ne _ _ n_b3_b1.ne.symm).trans ((upd_ne _ _ n_b2_b1.ne.symm).trans (upd_same _ _ _)))))) (by first | rfl | (simp; done))) ((upd_ne _ _ n_b6_b2.ne.symm).trans ((upd_ne _ _ n_b5_b2.ne.symm).trans ((upd_ne _ _ n_b4_b2.ne.symm).trans ((upd_ne _ _ n_b3_b2.ne.symm).trans (upd_same _ _ _))))) (by first | rfl | (simp; done))) ((upd_ne _ _ n_b6_b3.ne.symm).trans ((upd_ne _ _ n_b5_b3.ne.symm).trans ((upd_ne _ _ n_b4_b3.ne.symm).trans (upd_same _ _ _)))) (by first | rfl | (simp; done))) ((upd_ne _ _ n_b6_b4.ne.symm).trans ((upd_ne _ _ n_b5_b4.ne.symm).trans (upd_same _ _ _))) (by first | rfl | (simp; done))) ((upd_ne _ _ n_b6_b5.ne.symm).trans (upd_same _ _ _)) (by first | rfl | (simp; done))) (upd_same _ _ _) (by first | rfl | (simp; done)))⟩
      ·replace ho2 := cond_f ho2 g2
       refine wpA_exit ?_
       refine thenA_e ?_
       refine thenA_e ?_
       obtain rfl := Option.some.inj ho2
       obtain rfl := Option.some.inj hk2
       exact ⟨rfl, _, _, rfl, (Sub.cons rfl (Sub.cons rfl (Sub.cons rfl (Sub.cons rfl (Sub.cons rfl (Sub.cons rfl (Sub.cons rfl (Sub.cons rfl Sub.nil)))))))), (Le.upd_left (Le.upd_left (Le.upd_left (Le.upd_left (Le.upd_left (Le.upd_left (Le.under (Le.under (Le.under (Le.under (Le.under (Le.under (Le.refl _) hb1) hb2) hb3) hb4) hb5) hb6) ((upd_ne _ _ n_b6_b1.ne.symm).trans ((upd_ne _ _ n_b5_b1.ne.symm).trans ((upd_ne _ _ n_b4_b1.ne.symm).trans ((upd_ne _ _ n_b3_b1.ne.symm).trans ((upd_ne _ _ n_b2_b1.ne.symm).trans (upd_same _ _ _)))))) (by first | rfl | (simp; done))) ((upd_ne _ _ n_b6_b2.ne.symm).trans ((upd_ne _ _ n_b5_b2.ne.symm).trans ((upd_ne _ _ n_b4_b2.ne.symm).trans ((upd_ne _ _ n_b3_b2.ne.symm).trans (upd_same _ _ _))))) (by first | rfl | (simp; done))) ((upd_ne _ _ n_b6_b3.ne.symm).trans ((upd_ne _ _ n_b5_b3.ne.symm).trans ((upd_ne _ _ n_b4_b3.ne.symm).trans (upd_same _ _ _)))) (by first | rfl | (simp; done))) ((upd_ne _ _ n_b6_b4.ne.symm).trans ((upd_ne _ _ n_b5_b4.ne.symm).trans (upd_same _ _ _))) (by first | rfl | (simp; done))) ((upd_ne _ _ n_b6_b5.ne.symm).trans (upd_same _ _ _)) (by first | rfl | (simp; done))) (upd_same _ _ _) (by first | rfl | (simp; done)))⟩
    ·intro e s' h' hq
     cases R2 with
     | next x => exact hq.elim
     | ret r => exact hq.elim
     | stop x id =>
      obtain ⟨rfl, x5, x6, rfl, hsub1, hle1⟩ := hq
      try dsimp only at ho1
      by_cases hid1 : id = 2
      ·subst hid1
       rw [if_pos rfl] at ho1
       refine blockA_s ?_
       refine blockA_n ?_
       refine thenA_n ?_
       refine wpA_weaken hsub1.ok hle1 ?_
       refine wpA_region ?_
       refine Ops_quiet _ rfl rfl (QO.move rfl rfl) ?_
       refine Ops_quiet _ rfl rfl (QO.bin rfl rfl rfl rfl) ?_
       refine Ops_quiet _ rfl rfl (QO.assign rfl rfl) ?_
       refine Ops_nil ?_
       obtain rfl := Option.some.inj ho1
       dsimp only at hk1
       exact thenA_n ⟨k1, Nat.lt_succ_self _, _, _, hk1, (Sub.cons rfl (Sub.cons rfl (Sub.cons rfl (Sub.cons rfl (Sub.cons rfl (Sub.cons rfl (Sub.cons rfl Sub.nil))))))), (Le.upd_left (Le.upd_left (Le.upd_left (Le.upd_left (Le.upd_left (Le.upd_left (Le.under (Le.under (Le.under (Le.under (Le.under (Le.under (Le.refl _) hb1) hb2) hb3) hb4) hb5) hb6) ((upd_ne _ _ n_b6_b1.ne.symm).trans ((upd_ne _ _ n_b5_b1.ne.symm).trans ((upd_ne _ _ n_b4_b1.ne.symm).trans ((upd_ne _ _ n_b3_b1.ne.symm).trans ((upd_ne _ _ n_b2_b1.ne.symm).trans (upd_same _ _ _)))))) (by first | rfl | (simp; done))) ((upd_ne _ _ n_b6_b2.ne.symm).trans ((upd_ne _ _ n_b5_b2.ne.symm).trans ((upd_ne _ _ n_b4_b2.ne.symm).trans ((upd_ne _ _ n_b3_b2.ne.symm).trans (upd_same _ _ _))))) (by first | rfl | (simp; done))) ((upd_ne _ _ n_b6_b3.ne.symm).trans ((upd_ne _ _ n_b5_b3.ne.symm).trans ((upd_ne _ _ n_b4_b3.ne.symm).trans (upd_same _ _ _)))) (by first | rfl | (simp; done))) ((upd_ne _ _ n_b6_b4.ne.symm).trans ((upd_ne _ _ n_b5_b4.ne.symm).trans (upd_same _ _ _))) (by first | rfl | (simp; done))) ((upd_ne _ _ n_b6_b5.ne.symm).trans (upd_same _ _ _)) (by first | rfl | (simp; done))) (upd_same _ _ _) (by first | rfl | (simp; done)))⟩
      rw [if_neg hid1] at ho1
      exact absurd ho1 (by simp)
   ·replace ho1 := cond_f ho1 g1
    refine wpA_exit ?_
    refine thenA_e ?_
    refine thenA_e ?_
    obtain rfl := Option.some.inj ho1
    obtain rfl := Option.some.inj hk1
    exact ⟨rfl, _, _, rfl, (Sub.cons rfl (Sub.cons rfl (Sub.cons rfl (Sub.cons rfl (Sub.cons rfl (Sub.cons rfl (Sub.cons rfl Sub.nil))))))), (Le.upd_left (Le.upd_left (Le.upd_left (Le.upd_left (Le.upd_left (Le.upd_left (Le.under (Le.under (Le.under (Le.under (Le.under (Le.under (Le.refl _) hb1) hb2) hb3) hb4) hb5) hb6) ((upd_ne _ _ n_b6_b1.ne.symm).trans ((upd_ne _ _ n_b5_b1.ne.symm).trans ((upd_ne _ _ n_b4_b1.ne.symm).trans ((upd_ne _ _ n_b3_b1.ne.symm).trans ((upd_ne _ _ n_b2_b1.ne.symm).trans (upd_same _ _ _)))))) (by first | rfl | (simp; done))) ((upd_ne _ _ n_b6_b2.ne.symm).trans ((upd_ne _ _ n_b5_b2.ne.symm).trans ((upd_ne _ _ n_b4_b2.ne.symm).trans ((upd_ne _ _ n_b3_b2.ne.symm).trans (upd_same _ _ _))))) (by first | rfl | (simp; done))) ((upd_ne _ _ n_b6_b3.ne.symm).trans ((upd_ne _ _ n_b5_b3.ne.symm).trans ((upd_ne _ _ n_b4_b3.ne.symm).trans (upd_same _ _ _)))) (by first | rfl | (simp; done))) ((upd_ne _ _ n_b6_b4.ne.symm).trans ((upd_ne _ _ n_b5_b4.ne.symm).trans (upd_same _ _ _))) (by first | rfl | (simp; done))) ((upd_ne _ _ n_b6_b5.ne.symm).trans (upd_same _ _ _)) (by first | rfl | (simp; done))) (upd_same _ _ _) (by first | rfl | (simp; done)))⟩
 ·intro e s' h' hq
  cases R1 with
  | next x => exact hq.elim
  | ret r => exact hq.elim
  | stop x id =>
   obtain ⟨rfl, x7, x8, rfl, hsub2, hle2⟩ := hq
   try dsimp only at hm
   by_cases hid2 : id = 0
   ·subst hid2
    rw [if_pos rfl] at hm
    refine blockA_s ?_
    refine thenA_n ?_
    refine wpA_weaken hsub2.ok hle2 ?_
    refine wpA_seq ?_
    refine wpA_region ?_
    refine Ops_quiet _ rfl rfl (QO.loadRow (cs := sqC x8) (hr := (rdAll (upd_same _ _ _))) rfl sz37 rfl rfl (sqC_length _)) ?_
    refine Ops_loud rfl (LO.storeAll (cs := sqC x8) rfl sz37 rfl rfl (sqC_one _) (sqC_length _) ((upd_ne _ _ n_b6_b5.ne.symm).trans (upd_same _ _ _)) (sqC_length _) (Chg.there n_b6_b5.ne Chg.here) rfl ?_)
    refine Ops_nil ?_
    refine thenA_n ?_
    refine wpA_ret ?_
    obtain rfl := Option.some.inj hm
    exact retA_r (h2 := h) (Res.one rfl (res1.row (cs := sqC x8) (hr := (rdAll ((upd_ne _ _ n_b6_b5.ne.symm).trans (upd_same _ _ _)))) sz37 rfl rfl (sqC_length _))) (Le.under (Le.under (Le.under (Le.under (Le.under (Le.under (Le.refl _) hb1) hb2) hb3) hb4) hb5) hb6) ⟨rfl, rfl⟩
   rw [if_neg hid2] at hm
   exact absurd hm (by simp)

/-! loop.example/g01195/spec.l01Column -/
theorem c_spec_l01Column {a0 : Sq} {a1 : Int} {h : Hp} {r : (Nat → Int)} (hm : m_spec_l01Column a0 a1 = some r)  :
    QC Try.prog 68 #[.agg (sqC a0).toArray, .int .u8 a1] h (.agg (tabI .u8 r 10).toArray) := by
 unfold m_spec_l01Column at hm
 refine CC.enter Try.func68 rfl Try.ntmps68 rfl ?_
 refine wpA_seq ?_
 refine wpA_region ?_
 refine Ops_loud rfl (LO.boxAgg rfl rfl rfl (fun b1 hb1 => ?_))
 refine Ops_loud rfl (LO.alloc rfl zr25 rfl (fun b2 hb2 => ?_))
 simp only [upd_noneA] at hb2
 obtain ⟨n_b2_b1, hb2⟩ := hb2
 refine Ops_nil ?_
 refine thenA_n ?_
 refine wpA_seq ?_
 refine wpA_region ?_
 refine Ops_quiet _ rfl rfl (QO.build0 rfl bd25) ?_
 refine Ops_loud rfl (LO.alloc rfl zr25 rfl (fun b3 hb3 => ?_))
 simp only [upd_noneA] at hb3
 obtain ⟨n_b3_b2, n_b3_b1, hb3⟩ := hb3
 refine Ops_loud rfl (LO.storeAll (cs := tabI .u8 pl0 10) rfl sz25 rfl rfl (tabI_one _ _ _) (tabI_length _ _ _) (upd_same _ _ _) (tabI_length _ _ _) Chg.here rfl ?_)
 refine Ops_nil ?_
 refine thenA_n ?_
 refine wpA_seq ?_
 refine wpA_seq ?_
 refine wpA_region ?_
 refine Ops_quiet _ rfl rfl (QO.assign rfl rfl) ?_
 refine Ops_nil ?_
 refine thenA_n ?_
 refine wpA_block ?_
 obtain ⟨R1, hR, hm⟩ := Option.bind_eq_some_iff.1 hm
 obtain ⟨k1, hk1⟩ := loopV_some hR
 clear hR
 refine wpA_mono (Q := fun e s' h' => match (generalizing := false) R1 with | .stop x id => e = .exit id ∧ ∃ (x1 : Int) (x2 : (Nat → Int)), x = (x1, x2) ∧ Sub s' [(1, .int .u8 a1), (2, .pointer (some ⟨b1, 0, none⟩)), (4, .pointer (some ⟨b2, 0, none⟩)), (5, .pointer (some ⟨b3, 0, none⟩)), (6, .int .i64 x1)] ∧ Le (upd (upd (upd (h) b1 (.own 37 (sqC a0) 101)) b2 (.own 25 (tabI .u8 pl0 10) 10)) b3 (.own 25 (tabI .u8 x2 10) 10)) h' | .ret r => False | .next _ => False) ?_ ?_
 ·refine wpA_loop (fun k s' h' => ∃ (x1 : Int) (x2 : (Nat → Int)), loopW (m_spec_l01Column_l0 a0 a1) k (x1, x2) = some R1 ∧ Sub s' [(1, .int .u8 a1), (2, .pointer (some ⟨b1, 0, none⟩)), (4, .pointer (some ⟨b2, 0, none⟩)), (5, .pointer (some ⟨b3, 0, none⟩)), (6, .int .i64 x1)] ∧ Le (upd (upd (upd (h) b1 (.own 37 (sqC a0) 101)) b2 (.own 25 (tabI .u8 pl0 10) 10)) b3 (.own 25 (tabI .u8 x2 10) 10)) h') (m := k1) ⟨0, pl0, hk1, (Sub.cons rfl (Sub.cons rfl (Sub.cons rfl (Sub.cons rfl (Sub.cons rfl Sub.nil))))), (Le.upd_left (Le.upd_left (Le.upd_left (Le.under (Le.under (Le.under (Le.refl _) hb1) hb2) hb3) ((upd_ne _ _ n_b3_b1.ne.symm).trans ((upd_ne _ _ n_b2_b1.ne.symm).trans (upd_same _ _ _))) (by first | rfl | (simp; done))) ((upd_ne _ _ n_b3_b2.ne.symm).trans (upd_same _ _ _)) (by first | rfl | (simp; done))) (upd_same _ _ _) (by first | rfl | (simp; done)))⟩ ?_
  rintro k1 s' h' ⟨x1, x2, hk1, hsub, hle⟩
  refine wpA_weaken hsub.ok hle ?_
  clear hsub hle s' h'
  cases k1 with
  | zero => exact absurd hk1 (by simp [loopW])
  | succ k1 =>
   obtain ⟨o1, ho1, hk1⟩ := loopW_succ hk1
   unfold m_spec_l01Column_l0 at ho1
   try dsimp only at ho1
   refine wpA_seq ?_
   refine wpA_seq ?_
   refine wpA_region ?_
   refine Ops_quiet _ rfl rfl (QO.move rfl rfl) ?_
   refine Ops_quiet _ rfl rfl (QO.fieldAt (fo := 0) rfl sz37 rfl rfl sz2 rfl rfl) ?_
   refine Ops_quiet _ rfl rfl (QO.load rfl sz2 rfl rfl (by (refine (rd_own ((upd_ne _ _ n_b3_b1.ne.symm).trans ((upd_ne _ _ n_b2_b1.ne.symm).trans (upd_same _ _ _))) _).trans ?_); exact rfl)) ?_
   refine Ops_quiet _ rfl rfl (QO.bin rfl rfl rfl rfl) ?_
   refine Ops_nil ?_
   refine thenA_n ?_
   refine wpA_cond rfl (fun g1 => ?_) (fun g1 => ?_)
   ·replace ho1 := cond_t ho1 g1
    refine wpA_skip ?_
    refine thenA_n ?_
    refine wpA_seq ?_
    refine wpA_block ?_
    refine wpA_region ?_
    refine Ops_quiet _ rfl rfl (QO.move rfl rfl) ?_
    refine Ops_quiet _ rfl rfl (QO.move rfl rfl) ?_
    refine Ops_quiet _ rfl rfl (QO.move rfl rfl) ?_
    refine Ops_quiet _ rfl rfl (QO.fieldAt (fo := 1) rfl sz37 rfl rfl sz35 rfl rfl) ?_
    have hq := chk ho1; clear ho1; obtain ⟨ck1, ho1⟩ := hq
    refine Ops_quiet _ rfl rfl (QO.idxArr rfl sz35 sz24 rfl rfl (by omega) (by omega)) ?_
    have hq := chk ho1; clear ho1; obtain ⟨ck2, ho1⟩ := hq
    refine Ops_quiet _ rfl rfl (QO.idxArr rfl sz24 sz5 rfl rfl (by omega) (by omega)) ?_
    refine Ops_quiet _ rfl rfl (QO.load rfl sz5 rfl rfl (by (refine (rd_own ((upd_ne _ _ n_b3_b1.ne.symm).trans ((upd_ne _ _ n_b2_b1.ne.symm).trans (upd_same _ _ _))) _).trans ?_); exact sqC_get (by omega) (by omega))) ?_
    have hq := chk ho1; clear ho1; obtain ⟨ck3, ho1⟩ := hq
    refine Ops_quiet _ rfl rfl (QO.idxArr rfl sz25 sz5 rfl rfl (by omega) (by omega)) ?_
    refine Ops_loud rfl (LO.store' (xs' := tabI .u8 (fset x2 (x1).toNat (a0.t (x1).toNat (a1).toNat)) 10) rfl sz5 rfl rfl rfl (upd_same _ _ _) (by first | ((try simp only [sqC_length, tbC_length, tabI_length, tabB_length, ints_length, plsC_length, trC_length, sqsC_length, strsC_length, boolsC_length, tbB_length, List.length_append, List.length_cons, List.length_nil, List.length_set, List.length_replicate, rep_length]); first | omega | decide) | exact Nat.le_of_ble_eq_true rfl) tabI_set01 Chg.here rfl ?_)
    refine Ops_nil ?_
    refine blockA_n ?_
    refine thenA_n ?_
    refine wpA_region ?_
    refine Ops_quiet _ rfl rfl (QO.move rfl rfl) ?_
    refine Ops_quiet _ rfl rfl (QO.bin rfl rfl rfl rfl) ?_
    refine Ops_quiet _ rfl rfl (QO.assign rfl rfl) ?_
    refine Ops_nil ?_
    obtain rfl := Option.some.inj ho1
    dsimp only at hk1
    exact thenA_n ⟨k1, Nat.lt_succ_self _, _, _, hk1, (Sub.cons rfl (Sub.cons rfl (Sub.cons rfl (Sub.cons rfl (Sub.cons rfl Sub.nil))))), (Le.upd_left (Le.upd_left (Le.upd_left (Le.under (Le.under (Le.under (Le.refl _) hb1) hb2) hb3) ((upd_ne _ _ n_b3_b1.ne.symm).trans ((upd_ne _ _ n_b2_b1.ne.symm).trans (upd_same _ _ _))) (by first | rfl | (simp; done))) ((upd_ne _ _ n_b3_b2.ne.symm).trans (upd_same _ _ _)) (by first | rfl | (simp; done))) (upd_same _ _ _) (by first | rfl | (simp; done)))⟩
   ·replace ho1 := cond_f ho1 g1
    refine wpA_exit ?_
    refine thenA_e ?_
    refine thenA_e ?_
    obtain rfl := Option.some.inj ho1
    obtain rfl := Option.some.inj hk1
    exact ⟨rfl, _, _, rfl, (Sub.cons rfl (Sub.cons rfl (Sub.cons rfl (Sub.cons rfl (Sub.cons rfl Sub.nil))))), (Le.upd_left (Le.upd_left (Le.upd_left (Le.under (Le.under (Le.under (Le.refl _) hb1) hb2) hb3) ((upd_ne _ _ n_b3_b1.ne.symm).trans ((upd_ne _ _ n_b2_b1.ne.symm).trans (upd_same _ _ _))) (by first | rfl | (simp; done))) ((upd_ne _ _ n_b3_b2.ne.symm).trans (upd_same _ _ _)) (by first | rfl | (simp; done))) (upd_same _ _ _) (by first | rfl | (simp; done)))⟩
 ·intro e s' h' hq
  cases R1 with
  | next x => exact hq.elim
  | ret r => exact hq.elim
  | stop x id =>
   obtain ⟨rfl, x3, x4, rfl, hsub1, hle1⟩ := hq
   try dsimp only at hm
   by_cases hid1 : id = 0
   ·subst hid1
    rw [if_pos rfl] at hm
    refine blockA_s ?_
    refine thenA_n ?_
    refine wpA_weaken hsub1.ok hle1 ?_
    refine wpA_seq ?_
    refine wpA_region ?_
    refine Ops_quiet _ rfl rfl (QO.loadRow (cs := tabI .u8 x4 10) (hr := (rdAll (upd_same _ _ _))) rfl sz25 rfl rfl (tabI_length _ _ _)) ?_
    refine Ops_loud rfl (LO.storeAll (cs := tabI .u8 x4 10) rfl sz25 rfl rfl (tabI_one _ _ _) (tabI_length _ _ _) ((upd_ne _ _ n_b3_b2.ne.symm).trans (upd_same _ _ _)) (tabI_length _ _ _) (Chg.there n_b3_b2.ne Chg.here) rfl ?_)
    refine Ops_nil ?_
    refine thenA_n ?_
    refine wpA_ret ?_
    obtain rfl := Option.some.inj hm
    exact retA_r (h2 := h) (Res.one rfl (res1.row (cs := tabI .u8 x4 10) (hr := (rdAll ((upd_ne _ _ n_b3_b2.ne.symm).trans (upd_same _ _ _)))) sz25 rfl rfl (tabI_length _ _ _))) (Le.under (Le.under (Le.under (Le.refl _) hb1) hb2) hb3) ⟨rfl, rfl⟩
   rw [if_neg hid1] at hm
   exact absurd hm (by simp)

/-! loop.example/g01195/spec.l01Ordered -/
theorem c_spec_l01Ordered {a0 : Sq} {h : Hp} {r : Sq} (hm : m_spec_l01Ordered a0 = some r)  :
    QC Try.prog 65 #[.agg (sqC a0).toArray] h (.agg (sqC r).toArray) := by
 unfold m_spec_l01Ordered at hm
 refine CC.enter Try.func65 rfl Try.ntmps65 rfl ?_
 refine wpA_seq ?_
 refine wpA_region ?_
 refine Ops_loud rfl (LO.boxAgg rfl rfl rfl (fun b1 hb1 => ?_))
 refine Ops_loud rfl (LO.alloc rfl zr37 rfl (fun b2 hb2 => ?_))
 simp only [upd_noneA] at hb2
 obtain ⟨n_b2_b1, hb2⟩ := hb2
 refine Ops_nil ?_
 refine thenA_n ?_
 refine wpA_seq ?_
 refine wpA_region ?_
 refine Ops_quiet _ rfl rfl (QO.fieldAt (fo := 0) rfl sz37 rfl rfl sz2 rfl rfl) ?_
 refine Ops_quiet _ rfl rfl (QO.load rfl sz2 rfl rfl (by (refine (rd_own ((upd_ne _ _ n_b2_b1.ne.symm).trans (upd_same _ _ _)) _).trans ?_); exact rfl)) ?_
 refine Ops_quiet _ rfl rfl (QO.assign rfl rfl) ?_
 refine Ops_nil ?_
 refine thenA_n ?_
 refine wpA_seq ?_
 refine wpA_any (upd (upd (h) b1 (.own 37 (sqC a0) 101)) b2 (.own 37 (sqC sq0) 101)) [8] [8] (by kernel_rfl) (by kernel_rfl) (DW.start ?_)
 refine DW.read' 0 _ rfl (by kernel_rfl) rfl (QO.loadRow (cs := sqC a0) (hr := (rdAll ((upd_ne _ _ n_b2_b1.ne.symm).trans (upd_same _ _ _)))) rfl sz37 rfl rfl (sqC_length _)) ?_
 refine DW.pure' 1 _ rfl (by kernel_rfl) rfl (fun _ => QO.move rfl rfl) ?_
 have hq := Option.bind_eq_some_iff.1 hm; clear hm; obtain ⟨r1, hr1, hm⟩ := hq
 refine DW.qcall' 2 _ _ _ rfl (by kernel_rfl) rfl (EO.fn rfl Try.func52 rfl rfl (Evs.cons rfl Evs.nil)) (c_spec_l01Same hr1 ) ?_
 refine DW.read' 3 _ rfl (by kernel_rfl) rfl (QO.loadRow (cs := sqC a0) (hr := (rdAll ((upd_ne _ _ n_b2_b1.ne.symm).trans (upd_same _ _ _)))) rfl sz37 rfl rfl (sqC_length _)) ?_
 have hq := Option.bind_eq_some_iff.1 hm; clear hm; obtain ⟨r2, hr2, hm⟩ := hq
 refine DW.qcall' 4 _ _ _ rfl (by kernel_rfl) rfl (EO.fn rfl Try.func67 rfl rfl (Evs.cons rfl (Evs.cons rfl Evs.nil))) (c_spec_l01Row hr2 ) ?_
 refine DW.pure' 5 _ rfl (by kernel_rfl) rfl (fun _ => QO.move rfl rfl) ?_
 have hq := Option.bind_eq_some_iff.1 hm; clear hm; obtain ⟨r3, hr3, hm⟩ := hq
 refine DW.qcall' 6 _ _ _ rfl (by kernel_rfl) rfl (EO.fn rfl Try.func52 rfl rfl (Evs.cons rfl Evs.nil)) (c_spec_l01Same hr3 ) ?_
 have hq := Option.bind_eq_some_iff.1 hm; clear hm; obtain ⟨r4, hr4, hm⟩ := hq
 refine DW.qcall' 7 _ _ _ rfl (by kernel_rfl) rfl (EO.fn rfl Try.func64 rfl rfl (Evs.cons rfl (Evs.cons rfl (Evs.cons rfl (Evs.cons rfl Evs.nil))))) (c_spec_l01Moved hr4 ) ?_
 refine DW.loud 8 rfl (by kernel_rfl) rfl rfl (LO.storeAll (cs := sqC r4) rfl sz37 rfl rfl (sqC_one _) (sqC_length _) ((upd_ne _ _ n_b2_b1.ne.symm).trans (upd_same _ _ _)) (sqC_length _) (Chg.there n_b2_b1.ne Chg.here) rfl ?_)
 refine ⟨(fun e => absurd e (by decide)), ?_⟩
 refine DW.done (by kernel_rfl) ?_ _
 refine thenA_n ?_
 refine wpA_seq ?_
 refine wpA_any (upd (upd (h) b1 (.own 37 (sqC r4) 101)) b2 (.own 37 (sqC sq0) 101)) [8] [8] (by kernel_rfl) (by kernel_rfl) (DW.start ?_)
 refine DW.read' 0 _ rfl (by kernel_rfl) rfl (QO.loadRow (cs := sqC r4) (hr := (rdAll ((upd_ne _ _ n_b2_b1.ne.symm).trans (upd_same _ _ _)))) rfl sz37 rfl rfl (sqC_length _)) ?_
 refine DW.read' 1 _ rfl (by kernel_rfl) rfl (QO.loadRow (cs := sqC r4) (hr := (rdAll ((upd_ne _ _ n_b2_b1.ne.symm).trans (upd_same _ _ _)))) rfl sz37 rfl rfl (sqC_length _)) ?_
 have hq := Option.bind_eq_some_iff.1 hm; clear hm; obtain ⟨r5, hr5, hm⟩ := hq
 refine DW.qcall' 2 _ _ _ rfl (by kernel_rfl) rfl (EO.fn rfl Try.func68 rfl rfl (Evs.cons rfl (Evs.cons rfl Evs.nil))) (c_spec_l01Column hr5 ) ?_
 refine DW.pure' 3 _ rfl (by kernel_rfl) rfl (fun _ => QO.move rfl rfl) ?_
 have hq := Option.bind_eq_some_iff.1 hm; clear hm; obtain ⟨r6, hr6, hm⟩ := hq
 refine DW.qcall' 4 _ _ _ rfl (by kernel_rfl) rfl (EO.fn rfl Try.func52 rfl rfl (Evs.cons rfl Evs.nil)) (c_spec_l01Same hr6 ) ?_
 refine DW.pure' 5 _ rfl (by kernel_rfl) rfl (fun _ => QO.move rfl rfl) ?_
 have hq := Option.bind_eq_some_iff.1 hm; clear hm; obtain ⟨r7, hr7, hm⟩ := hq
 refine DW.qcall' 6 _ _ _ rfl (by kernel_rfl) rfl (EO.fn rfl Try.func52 rfl rfl (Evs.cons rfl Evs.nil)) (c_spec_l01Same hr7 ) ?_
 have hq := Option.bind_eq_some_iff.1 hm; clear hm; obtain ⟨r8, hr8, hm⟩ := hq
 refine DW.qcall' 7 _ _ _ rfl (by kernel_rfl) rfl (EO.fn rfl Try.func64 rfl rfl (Evs.cons rfl (Evs.cons rfl (Evs.cons rfl (Evs.cons rfl Evs.nil))))) (c_spec_l01Moved hr8 ) ?_
 refine DW.loud 8 rfl (by kernel_rfl) rfl rfl (LO.storeAll (cs := sqC r8) rfl sz37 rfl rfl (sqC_one _) (sqC_length _) (upd_same _ _ _) (sqC_length _) Chg.here rfl ?_)
 refine ⟨(fun e => absurd e (by decide)), ?_⟩
 refine DW.done (by kernel_rfl) ?_ _
 refine thenA_n ?_
 refine wpA_ret ?_
 obtain rfl := Option.some.inj hm
 exact retA_r (h2 := h) (Res.one rfl (res1.row (cs := sqC r8) (hr := (rdAll (upd_same _ _ _))) sz37 rfl rfl (sqC_length _))) (Le.under (Le.under (Le.refl _) hb1) hb2) ⟨rfl, rfl⟩

/-! loop.example/g01195/spec.l01Elementary -/
theorem c_spec_l01Elementary {a0 : Int} {h : Hp} {r : Sq} (hm : m_spec_l01Elementary a0 = some r)  :
    QC Try.prog 51 #[.int .i64 a0] h (.agg (sqC r).toArray) := by
 unfold m_spec_l01Elementary at hm
 refine CC.enter Try.func51 rfl Try.ntmps51 rfl ?_
 refine wpA_seq ?_
 refine wpA_region ?_
 refine Ops_loud rfl (LO.alloc rfl zr37 rfl (fun b1 hb1 => ?_))
 refine Ops_nil ?_
 refine thenA_n ?_
 refine wpA_seq ?_
 refine wpA_region ?_
 refine Ops_quiet _ rfl rfl (QO.move rfl rfl) ?_
 refine Ops_quiet _ rfl rfl (QO.conv rfl sz2 sz63 rfl) ?_
 have hq := chk hm; clear hm; obtain ⟨ck1, hm⟩ := hq
 refine Ops_quiet _ rfl rfl (QO.shl rfl rfl rfl (by first | assumption | omega)) ?_
 refine Ops_quiet _ rfl rfl (QO.assign rfl rfl) ?_
 refine Ops_nil ?_
 refine thenA_n ?_
 refine wpA_seq ?_
 refine wpA_region ?_
 refine Ops_quiet _ rfl rfl (QO.move rfl rfl) ?_
 refine Ops_quiet _ rfl rfl (QO.build1 rfl rfl (bd37_0 (IntKind.i64.wrap (1 * 2 ^ (min (((IntKind.u64.wrap a0) : Int).toNat) IntKind.i64.bits))))) ?_
 refine Ops_loud rfl (LO.alloc rfl zr37 rfl (fun b2 hb2 => ?_))
 simp only [upd_noneA] at hb2
 obtain ⟨n_b2_b1, hb2⟩ := hb2
 refine Ops_loud rfl (LO.storeAll (cs := sqC (⟨(IntKind.i64.wrap (1 * 2 ^ (min (((IntKind.u64.wrap a0) : Int).toNat) IntKind.i64.bits))), tb0⟩ : Sq)) rfl sz37 rfl rfl (sqC_one _) (sqC_length _) (upd_same _ _ _) (sqC_length _) Chg.here rfl ?_)
 refine Ops_nil ?_
 refine thenA_n ?_
 refine wpA_seq ?_
 refine wpA_seq ?_
 refine wpA_region ?_
 refine Ops_quiet _ rfl rfl (QO.assign rfl rfl) ?_
 refine Ops_nil ?_
 refine thenA_n ?_
 refine wpA_block ?_
 obtain ⟨R1, hR, hm⟩ := Option.bind_eq_some_iff.1 hm
 obtain ⟨k1, hk1⟩ := loopV_some hR
 clear hR
 refine wpA_mono (Q := fun e s' h' => match (generalizing := false) R1 with | .stop x id => e = .exit id ∧ ∃ (x1 : Int) (x2 : Sq), x = (x1, x2) ∧ Sub s' [(2, .pointer (some ⟨b1, 0, none⟩)), (3, .int .i64 (IntKind.i64.wrap (1 * 2 ^ (min (((IntKind.u64.wrap a0) : Int).toNat) IntKind.i64.bits)))), (4, .pointer (some ⟨b2, 0, none⟩)), (5, .int .i64 x1)] ∧ Le (upd (upd (h) b1 (.own 37 (sqC sq0) 101)) b2 (.own 37 (sqC x2) 101)) h' | .ret r => False | .next _ => False) ?_ ?_
 ·refine wpA_loop (fun k s' h' => ∃ (x1 : Int) (x2 : Sq), loopW (m_spec_l01Elementary_l0 a0) k (x1, x2) = some R1 ∧ Sub s' [(2, .pointer (some ⟨b1, 0, none⟩)), (3, .int .i64 (IntKind.i64.wrap (1 * 2 ^ (min (((IntKind.u64.wrap a0) : Int).toNat) IntKind.i64.bits)))), (4, .pointer (some ⟨b2, 0, none⟩)), (5, .int .i64 x1)] ∧ Le (upd (upd (h) b1 (.own 37 (sqC sq0) 101)) b2 (.own 37 (sqC x2) 101)) h') (m := k1) ⟨0, (⟨(IntKind.i64.wrap (1 * 2 ^ (min (((IntKind.u64.wrap a0) : Int).toNat) IntKind.i64.bits))), tb0⟩ : Sq), hk1, (Sub.cons rfl (Sub.cons rfl (Sub.cons rfl (Sub.cons rfl Sub.nil)))), (Le.upd_left (Le.upd_left (Le.under (Le.under (Le.refl _) hb1) hb2) ((upd_ne _ _ n_b2_b1.ne.symm).trans (upd_same _ _ _)) (by first | rfl | (simp; done))) (upd_same _ _ _) (by first | rfl | (simp; done)))⟩ ?_
  rintro k1 s' h' ⟨x1, x2, hk1, hsub, hle⟩
  refine wpA_weaken hsub.ok hle ?_
  clear hsub hle s' h'
  cases k1 with
  | zero => exact absurd hk1 (by simp [loopW])
  | succ k1 =>
   obtain ⟨o1, ho1, hk1⟩ := loopW_succ hk1
   unfold m_spec_l01Elementary_l0 at ho1
   try dsimp only at ho1
   refine wpA_seq ?_
   refine wpA_seq ?_
   refine wpA_region ?_
   refine Ops_quiet _ rfl rfl (QO.move rfl rfl) ?_
   refine Ops_quiet _ rfl rfl (QO.move rfl rfl) ?_
   refine Ops_quiet _ rfl rfl (QO.bin rfl rfl rfl rfl) ?_
   refine Ops_nil ?_
   refine thenA_n ?_
   refine wpA_cond rfl (fun g1 => ?_) (fun g1 => ?_)
   ·replace ho1 := cond_t ho1 g1
    refine wpA_skip ?_
    refine thenA_n ?_
    refine wpA_seq ?_
    refine wpA_block ?_
    refine wpA_seq ?_
    refine wpA_region ?_
    refine Ops_quiet _ rfl rfl (QO.assign rfl rfl) ?_
    refine Ops_nil ?_
    refine thenA_n ?_
    refine wpA_block ?_
    obtain ⟨R2, hR, ho1⟩ := Option.bind_eq_some_iff.1 ho1
    obtain ⟨k2, hk2⟩ := loopV_some hR
    clear hR
    refine wpA_mono (Q := fun e s' h' => match (generalizing := false) R2 with | .stop x id => e = .exit id ∧ ∃ (x3 : Int) (x4 : Sq), x = (x3, x4) ∧ Sub s' [(2, .pointer (some ⟨b1, 0, none⟩)), (3, .int .i64 (IntKind.i64.wrap (1 * 2 ^ (min (((IntKind.u64.wrap a0) : Int).toNat) IntKind.i64.bits)))), (4, .pointer (some ⟨b2, 0, none⟩)), (5, .int .i64 x1), (6, .int .i64 x3)] ∧ Le (upd (upd (h) b1 (.own 37 (sqC sq0) 101)) b2 (.own 37 (sqC x4) 101)) h' | .ret r => False | .next _ => False) ?_ ?_
    ·refine wpA_loop (fun k s' h' => ∃ (x3 : Int) (x4 : Sq), loopW (m_spec_l01Elementary_l1 a0 x1) k (x3, x4) = some R2 ∧ Sub s' [(2, .pointer (some ⟨b1, 0, none⟩)), (3, .int .i64 (IntKind.i64.wrap (1 * 2 ^ (min (((IntKind.u64.wrap a0) : Int).toNat) IntKind.i64.bits)))), (4, .pointer (some ⟨b2, 0, none⟩)), (5, .int .i64 x1), (6, .int .i64 x3)] ∧ Le (upd (upd (h) b1 (.own 37 (sqC sq0) 101)) b2 (.own 37 (sqC x4) 101)) h') (m := k2) ⟨0, x2, hk2, (Sub.cons rfl (Sub.cons rfl (Sub.cons rfl (Sub.cons rfl (Sub.cons rfl Sub.nil))))), (Le.upd_left (Le.upd_left (Le.under (Le.under (Le.refl _) hb1) hb2) ((upd_ne _ _ n_b2_b1.ne.symm).trans (upd_same _ _ _)) (by first | rfl | (simp; done))) (upd_same _ _ _) (by first | rfl | (simp; done)))⟩ ?_
     rintro k2 s' h' ⟨x3, x4, hk2, hsub, hle⟩
     refine wpA_weaken hsub.ok hle ?_
     clear hsub hle s' h'
     cases k2 with
     | zero => exact absurd hk2 (by simp [loopW])
     | succ k2 =>
      obtain ⟨o2, ho2, hk2⟩ := loopW_succ hk2
      unfold m_spec_l01Elementary_l1 at ho2
      try dsimp only at ho2
      refine wpA_seq ?_
      refine wpA_seq ?_
      refine wpA_region ?_
      refine Ops_quiet _ rfl rfl (QO.move rfl rfl) ?_
      refine Ops_quiet _ rfl rfl (QO.move rfl rfl) ?_
      refine Ops_quiet _ rfl rfl (QO.bin rfl rfl rfl rfl) ?_
      refine Ops_nil ?_
      refine thenA_n ?_
      refine wpA_cond rfl (fun g2 => ?_) (fun g2 => ?_)
      ·replace ho2 := cond_t ho2 g2
       refine wpA_skip ?_
       refine thenA_n ?_
       refine wpA_seq ?_
       refine wpA_block ?_
       refine wpA_region ?_
       refine Ops_quiet _ rfl rfl (QO.move rfl rfl) ?_
       refine Ops_quiet _ rfl rfl (QO.move rfl rfl) ?_
       refine Ops_quiet _ rfl rfl (QO.move rfl rfl) ?_
       refine Ops_quiet _ rfl rfl (QO.move rfl rfl) ?_
       refine Ops_quiet _ rfl rfl (QO.bin rfl rfl rfl rfl) ?_
       refine Ops_quiet _ rfl rfl (QO.conv rfl sz2 sz5 rfl) ?_
       refine Ops_quiet _ rfl rfl (QO.fieldAt (fo := 1) rfl sz37 rfl rfl sz35 rfl rfl) ?_
       have hq := chk ho2; clear ho2; obtain ⟨ck2, ho2⟩ := hq
       refine Ops_quiet _ rfl rfl (QO.idxArr rfl sz35 sz24 rfl rfl (by omega) (by omega)) ?_
       have hq := chk ho2; clear ho2; obtain ⟨ck3, ho2⟩ := hq
       refine Ops_quiet _ rfl rfl (QO.idxArr rfl sz24 sz5 rfl rfl (by omega) (by omega)) ?_
       refine Ops_loud rfl (LO.store' (xs' := sqC (⟨x4.order, (tset x4.t (x1).toNat (x3).toNat (IntKind.u8.wrap (bits .xor .i64 x1 x3)))⟩ : Sq)) rfl sz5 rfl rfl rfl (upd_same _ _ _) (by first | ((try simp only [sqC_length, tbC_length, tabI_length, tabB_length, ints_length, plsC_length, trC_length, sqsC_length, strsC_length, boolsC_length, tbB_length, List.length_append, List.length_cons, List.length_nil, List.length_set, List.length_replicate, rep_length]); first | omega | decide) | exact Nat.le_of_ble_eq_true rfl) (sqC_set (by omega) (by omega)) Chg.here rfl ?_)
       refine Ops_nil ?_
       refine blockA_n ?_
       refine thenA_n ?_
       refine wpA_region ?_
       refine Ops_quiet _ rfl rfl (QO.move rfl rfl) ?_
       refine Ops_quiet _ rfl rfl (QO.bin rfl rfl rfl rfl) ?_
       refine Ops_quiet _ rfl rfl (QO.assign rfl rfl) ?_
       refine Ops_nil ?_
       obtain rfl := Option.some.inj ho2
       dsimp only at hk2
       exact thenA_n ⟨k2, Nat.lt_succ_self _, _, _, hk2, (Sub.cons rfl (Sub.cons rfl (Sub.cons rfl (Sub.cons rfl (Sub.cons rfl Sub.nil))))), (Le.upd_left (Le.upd_left (Le.under (Le.under (Le.refl _) hb1) hb2) ((upd_ne _ _ n_b2_b1.ne.symm).trans (upd_same _ _ _)) (by first | rfl | (simp; done))) (upd_same _ _ _) (by first | rfl | (simp; done)))⟩
      ·replace ho2 := cond_f ho2 g2
       refine wpA_exit ?_
       refine thenA_e ?_
       refine thenA_e ?_
       obtain rfl := Option.some.inj ho2
       obtain rfl := Option.some.inj hk2
       exact ⟨rfl, _, _, rfl, (Sub.cons rfl (Sub.cons rfl (Sub.cons rfl (Sub.cons rfl (Sub.cons rfl Sub.nil))))), (Le.upd_left (Le.upd_left (Le.under (Le.under (Le.refl _) hb1) hb2) ((upd_ne _ _ n_b2_b1.ne.symm).trans (upd_same _ _ _)) (by first | rfl | (simp; done))) (upd_same _ _ _) (by first | rfl | (simp; done)))⟩
    ·intro e s' h' hq
     cases R2 with
     | next x => exact hq.elim
     | ret r => exact hq.elim
     | stop x id =>
      obtain ⟨rfl, x5, x6, rfl, hsub1, hle1⟩ := hq
      try dsimp only at ho1
      by_cases hid1 : id = 2
      ·subst hid1
       rw [if_pos rfl] at ho1
       refine blockA_s ?_
       refine blockA_n ?_
       refine thenA_n ?_
       refine wpA_weaken hsub1.ok hle1 ?_
       refine wpA_region ?_
       refine Ops_quiet _ rfl rfl (QO.move rfl rfl) ?_
       refine Ops_quiet _ rfl rfl (QO.bin rfl rfl rfl rfl) ?_
       refine Ops_quiet _ rfl rfl (QO.assign rfl rfl) ?_
       refine Ops_nil ?_
       obtain rfl := Option.some.inj ho1
       dsimp only at hk1
       exact thenA_n ⟨k1, Nat.lt_succ_self _, _, _, hk1, (Sub.cons rfl (Sub.cons rfl (Sub.cons rfl (Sub.cons rfl Sub.nil)))), (Le.upd_left (Le.upd_left (Le.under (Le.under (Le.refl _) hb1) hb2) ((upd_ne _ _ n_b2_b1.ne.symm).trans (upd_same _ _ _)) (by first | rfl | (simp; done))) (upd_same _ _ _) (by first | rfl | (simp; done)))⟩
      rw [if_neg hid1] at ho1
      exact absurd ho1 (by simp)
   ·replace ho1 := cond_f ho1 g1
    refine wpA_exit ?_
    refine thenA_e ?_
    refine thenA_e ?_
    obtain rfl := Option.some.inj ho1
    obtain rfl := Option.some.inj hk1
    exact ⟨rfl, _, _, rfl, (Sub.cons rfl (Sub.cons rfl (Sub.cons rfl (Sub.cons rfl Sub.nil)))), (Le.upd_left (Le.upd_left (Le.under (Le.under (Le.refl _) hb1) hb2) ((upd_ne _ _ n_b2_b1.ne.symm).trans (upd_same _ _ _)) (by first | rfl | (simp; done))) (upd_same _ _ _) (by first | rfl | (simp; done)))⟩
 ·intro e s' h' hq
  cases R1 with
  | next x => exact hq.elim
  | ret r => exact hq.elim
  | stop x id =>
   obtain ⟨rfl, x7, x8, rfl, hsub2, hle2⟩ := hq
   try dsimp only at hm
   by_cases hid2 : id = 0
   ·subst hid2
    rw [if_pos rfl] at hm
    refine blockA_s ?_
    refine thenA_n ?_
    refine wpA_weaken hsub2.ok hle2 ?_
    refine wpA_seq ?_
    refine wpA_region ?_
    refine Ops_quiet _ rfl rfl (QO.loadRow (cs := sqC x8) (hr := (rdAll (upd_same _ _ _))) rfl sz37 rfl rfl (sqC_length _)) ?_
    refine Ops_loud rfl (LO.storeAll (cs := sqC x8) rfl sz37 rfl rfl (sqC_one _) (sqC_length _) ((upd_ne _ _ n_b2_b1.ne.symm).trans (upd_same _ _ _)) (sqC_length _) (Chg.there n_b2_b1.ne Chg.here) rfl ?_)
    refine Ops_nil ?_
    refine thenA_n ?_
    refine wpA_ret ?_
    obtain rfl := Option.some.inj hm
    exact retA_r (h2 := h) (Res.one rfl (res1.row (cs := sqC x8) (hr := (rdAll ((upd_ne _ _ n_b2_b1.ne.symm).trans (upd_same _ _ _)))) sz37 rfl rfl (sqC_length _))) (Le.under (Le.under (Le.refl _) hb1) hb2) ⟨rfl, rfl⟩
   rw [if_neg hid2] at hm
   exact absurd hm (by simp)

/-! loop.example/g01195/spec.l01Cyclic -/
theorem c_spec_l01Cyclic {a0 : Int} {h : Hp} {r : Sq} (hm : m_spec_l01Cyclic a0 = some r)  :
    QC Try.prog 39 #[.int .i64 a0] h (.agg (sqC r).toArray) := by
 unfold m_spec_l01Cyclic at hm
 refine CC.enter Try.func39 rfl Try.ntmps39 rfl ?_
 refine wpA_seq ?_
 refine wpA_region ?_
 refine Ops_loud rfl (LO.alloc rfl zr37 rfl (fun b1 hb1 => ?_))
 refine Ops_nil ?_
 refine thenA_n ?_
 refine wpA_seq ?_
 refine wpA_region ?_
 refine Ops_quiet _ rfl rfl (QO.move rfl rfl) ?_
 refine Ops_quiet _ rfl rfl (QO.build1 rfl rfl (bd37_0 a0)) ?_
 refine Ops_loud rfl (LO.alloc rfl zr37 rfl (fun b2 hb2 => ?_))
 simp only [upd_noneA] at hb2
 obtain ⟨n_b2_b1, hb2⟩ := hb2
 refine Ops_loud rfl (LO.storeAll (cs := sqC (⟨a0, tb0⟩ : Sq)) rfl sz37 rfl rfl (sqC_one _) (sqC_length _) (upd_same _ _ _) (sqC_length _) Chg.here rfl ?_)
 refine Ops_nil ?_
 refine thenA_n ?_
 refine wpA_seq ?_
 refine wpA_seq ?_
 refine wpA_region ?_
 refine Ops_quiet _ rfl rfl (QO.assign rfl rfl) ?_
 refine Ops_nil ?_
 refine thenA_n ?_
 refine wpA_block ?_
 obtain ⟨R1, hR, hm⟩ := Option.bind_eq_some_iff.1 hm
 obtain ⟨k1, hk1⟩ := loopV_some hR
 clear hR
 refine wpA_mono (Q := fun e s' h' => match (generalizing := false) R1 with | .stop x id => e = .exit id ∧ ∃ (x1 : Int) (x2 : Sq), x = (x1, x2) ∧ Sub s' [(0, .int .i64 a0), (2, .pointer (some ⟨b1, 0, none⟩)), (3, .pointer (some ⟨b2, 0, none⟩)), (4, .int .i64 x1)] ∧ Le (upd (upd (h) b1 (.own 37 (sqC sq0) 101)) b2 (.own 37 (sqC x2) 101)) h' | .ret r => False | .next _ => False) ?_ ?_
 ·refine wpA_loop (fun k s' h' => ∃ (x1 : Int) (x2 : Sq), loopW (m_spec_l01Cyclic_l0 a0) k (x1, x2) = some R1 ∧ Sub s' [(0, .int .i64 a0), (2, .pointer (some ⟨b1, 0, none⟩)), (3, .pointer (some ⟨b2, 0, none⟩)), (4, .int .i64 x1)] ∧ Le (upd (upd (h) b1 (.own 37 (sqC sq0) 101)) b2 (.own 37 (sqC x2) 101)) h') (m := k1) ⟨0, (⟨a0, tb0⟩ : Sq), hk1, (Sub.cons rfl (Sub.cons rfl (Sub.cons rfl (Sub.cons rfl Sub.nil)))), (Le.upd_left (Le.upd_left (Le.under (Le.under (Le.refl _) hb1) hb2) ((upd_ne _ _ n_b2_b1.ne.symm).trans (upd_same _ _ _)) (by first | rfl | (simp; done))) (upd_same _ _ _) (by first | rfl | (simp; done)))⟩ ?_
  rintro k1 s' h' ⟨x1, x2, hk1, hsub, hle⟩
  refine wpA_weaken hsub.ok hle ?_
  clear hsub hle s' h'
  cases k1 with
  | zero => exact absurd hk1 (by simp [loopW])
  | succ k1 =>
   obtain ⟨o1, ho1, hk1⟩ := loopW_succ hk1
   unfold m_spec_l01Cyclic_l0 at ho1
   try dsimp only at ho1
   refine wpA_seq ?_
   refine wpA_seq ?_
   refine wpA_region ?_
   refine Ops_quiet _ rfl rfl (QO.move rfl rfl) ?_
   refine Ops_quiet _ rfl rfl (QO.move rfl rfl) ?_
   refine Ops_quiet _ rfl rfl (QO.bin rfl rfl rfl rfl) ?_
   refine Ops_nil ?_
   refine thenA_n ?_
   refine wpA_cond rfl (fun g1 => ?_) (fun g1 => ?_)
   ·replace ho1 := cond_t ho1 g1
    refine wpA_skip ?_
    refine thenA_n ?_
    refine wpA_seq ?_
    refine wpA_block ?_
    refine wpA_seq ?_
    refine wpA_region ?_
    refine Ops_quiet _ rfl rfl (QO.assign rfl rfl) ?_
    refine Ops_nil ?_
    refine thenA_n ?_
    refine wpA_block ?_
    obtain ⟨R2, hR, ho1⟩ := Option.bind_eq_some_iff.1 ho1
    obtain ⟨k2, hk2⟩ := loopV_some hR
    clear hR
    refine wpA_mono (Q := fun e s' h' => match (generalizing := false) R2 with | .stop x id => e = .exit id ∧ ∃ (x3 : Int) (x4 : Sq), x = (x3, x4) ∧ Sub s' [(0, .int .i64 a0), (2, .pointer (some ⟨b1, 0, none⟩)), (3, .pointer (some ⟨b2, 0, none⟩)), (4, .int .i64 x1), (5, .int .i64 x3)] ∧ Le (upd (upd (h) b1 (.own 37 (sqC sq0) 101)) b2 (.own 37 (sqC x4) 101)) h' | .ret r => False | .next _ => False) ?_ ?_
    ·refine wpA_loop (fun k s' h' => ∃ (x3 : Int) (x4 : Sq), loopW (m_spec_l01Cyclic_l1 a0 x1) k (x3, x4) = some R2 ∧ Sub s' [(0, .int .i64 a0), (2, .pointer (some ⟨b1, 0, none⟩)), (3, .pointer (some ⟨b2, 0, none⟩)), (4, .int .i64 x1), (5, .int .i64 x3)] ∧ Le (upd (upd (h) b1 (.own 37 (sqC sq0) 101)) b2 (.own 37 (sqC x4) 101)) h') (m := k2) ⟨0, x2, hk2, (Sub.cons rfl (Sub.cons rfl (Sub.cons rfl (Sub.cons rfl (Sub.cons rfl Sub.nil))))), (Le.upd_left (Le.upd_left (Le.under (Le.under (Le.refl _) hb1) hb2) ((upd_ne _ _ n_b2_b1.ne.symm).trans (upd_same _ _ _)) (by first | rfl | (simp; done))) (upd_same _ _ _) (by first | rfl | (simp; done)))⟩ ?_
     rintro k2 s' h' ⟨x3, x4, hk2, hsub, hle⟩
     refine wpA_weaken hsub.ok hle ?_
     clear hsub hle s' h'
     cases k2 with
     | zero => exact absurd hk2 (by simp [loopW])
     | succ k2 =>
      obtain ⟨o2, ho2, hk2⟩ := loopW_succ hk2
      unfold m_spec_l01Cyclic_l1 at ho2
      try dsimp only at ho2
      refine wpA_seq ?_
      refine wpA_seq ?_
      refine wpA_region ?_
      refine Ops_quiet _ rfl rfl (QO.move rfl rfl) ?_
      refine Ops_quiet _ rfl rfl (QO.move rfl rfl) ?_
      refine Ops_quiet _ rfl rfl (QO.bin rfl rfl rfl rfl) ?_
      refine Ops_nil ?_
      refine thenA_n ?_
      refine wpA_cond rfl (fun g2 => ?_) (fun g2 => ?_)
      ·replace ho2 := cond_t ho2 g2
       refine wpA_skip ?_
       refine thenA_n ?_
       refine wpA_seq ?_
       refine wpA_block ?_
       refine wpA_any (upd (upd (h) b1 (.own 37 (sqC sq0) 101)) b2 (.own 37 (sqC x4) 101)) [11] [11] (by kernel_rfl) (by kernel_rfl) (DW.start ?_)
       refine DW.pure' 0 _ rfl (by kernel_rfl) rfl (fun _ => QO.move rfl rfl) ?_
       refine DW.pure' 1 _ rfl (by kernel_rfl) rfl (fun _ => QO.move rfl rfl) ?_
       refine DW.pure' 2 _ rfl (by kernel_rfl) rfl (fun _ => QO.move rfl rfl) ?_
       refine DW.pure' 3 _ rfl (by kernel_rfl) rfl (fun _ => QO.move rfl rfl) ?_
       refine DW.pure' 4 _ rfl (by kernel_rfl) rfl (fun _ => QO.bin rfl rfl rfl rfl) ?_
       refine DW.pure' 5 _ rfl (by kernel_rfl) rfl (fun _ => QO.move rfl rfl) ?_
       have hq := chk ho2; clear ho2; obtain ⟨ck1, ho2⟩ := hq
       refine DW.pure' 6 _ rfl (by kernel_rfl) rfl (fun _ => QO.rem rfl rfl rfl (by first | assumption | omega)) ?_
       refine DW.pure' 7 _ rfl (by kernel_rfl) rfl (fun _ => QO.conv rfl sz2 sz5 rfl) ?_
       refine DW.pure' 8 _ rfl (by kernel_rfl) rfl (fun _ => QO.fieldAt (fo := 1) rfl sz37 rfl rfl sz35 rfl rfl) ?_
       have hq := chk ho2; clear ho2; obtain ⟨ck2, ho2⟩ := hq
       refine DW.pure' 9 _ rfl (by kernel_rfl) rfl (fun _ => QO.idxArr rfl sz35 sz24 rfl rfl (by omega) (by omega)) ?_
       have hq := chk ho2; clear ho2; obtain ⟨ck3, ho2⟩ := hq
       refine DW.pure' 10 _ rfl (by kernel_rfl) rfl (fun _ => QO.idxArr rfl sz24 sz5 rfl rfl (by omega) (by omega)) ?_
       refine DW.loud 11 rfl (by kernel_rfl) rfl rfl (LO.store' (xs' := sqC (⟨x4.order, (tset x4.t (x1).toNat (x3).toNat (IntKind.u8.wrap ((IntKind.i64.wrap (x1 + x3)).tmod a0)))⟩ : Sq)) rfl sz5 rfl rfl rfl (upd_same _ _ _) (by first | ((try simp only [sqC_length, tbC_length, tabI_length, tabB_length, ints_length, plsC_length, trC_length, sqsC_length, strsC_length, boolsC_length, tbB_length, List.length_append, List.length_cons, List.length_nil, List.length_set, List.length_replicate, rep_length]); first | omega | decide) | exact Nat.le_of_ble_eq_true rfl) (sqC_set (by omega) (by omega)) Chg.here rfl ?_)
       refine ⟨(fun e => absurd e (by decide)), ?_⟩
       refine DW.done (by kernel_rfl) ?_ _
       refine blockA_n ?_
       refine thenA_n ?_
       refine wpA_region ?_
       refine Ops_quiet _ rfl rfl (QO.move rfl rfl) ?_
       refine Ops_quiet _ rfl rfl (QO.bin rfl rfl rfl rfl) ?_
       refine Ops_quiet _ rfl rfl (QO.assign rfl rfl) ?_
       refine Ops_nil ?_
       obtain rfl := Option.some.inj ho2
       dsimp only at hk2
       exact thenA_n ⟨k2, Nat.lt_succ_self _, _, _, hk2, (Sub.cons rfl (Sub.cons rfl (Sub.cons rfl (Sub.cons rfl (Sub.cons rfl Sub.nil))))), (Le.upd_left (Le.upd_left (Le.under (Le.under (Le.refl _) hb1) hb2) ((upd_ne _ _ n_b2_b1.ne.symm).trans (upd_same _ _ _)) (by first | rfl | (simp; done))) (upd_same _ _ _) (by first | rfl | (simp; done)))⟩
      ·replace ho2 := cond_f ho2 g2
       refine wpA_exit ?_
       refine thenA_e ?_
       refine thenA_e ?_
       obtain rfl := Option.some.inj ho2
       obtain rfl := Option.some.inj hk2
       exact ⟨rfl, _, _, rfl, (Sub.cons rfl (Sub.cons rfl (Sub.cons rfl (Sub.cons rfl (Sub.cons rfl Sub.nil))))), (Le.upd_left (Le.upd_left (Le.under (Le.under (Le.refl _) hb1) hb2) ((upd_ne _ _ n_b2_b1.ne.symm).trans (upd_same _ _ _)) (by first | rfl | (simp; done))) (upd_same _ _ _) (by first | rfl | (simp; done)))⟩
    ·intro e s' h' hq
     cases R2 with
     | next x => exact hq.elim
     | ret r => exact hq.elim
     | stop x id =>
      obtain ⟨rfl, x5, x6, rfl, hsub1, hle1⟩ := hq
      try dsimp only at ho1
      by_cases hid1 : id = 2
      ·subst hid1
       rw [if_pos rfl] at ho1
       refine blockA_s ?_
       refine blockA_n ?_
       refine thenA_n ?_
       refine wpA_weaken hsub1.ok hle1 ?_
       refine wpA_region ?_
       refine Ops_quiet _ rfl rfl (QO.move rfl rfl) ?_
       refine Ops_quiet _ rfl rfl (QO.bin rfl rfl rfl rfl) ?_
       refine Ops_quiet _ rfl rfl (QO.assign rfl rfl) ?_
       refine Ops_nil ?_
       obtain rfl := Option.some.inj ho1
       dsimp only at hk1
       exact thenA_n ⟨k1, Nat.lt_succ_self _, _, _, hk1, (Sub.cons rfl (Sub.cons rfl (Sub.cons rfl (Sub.cons rfl Sub.nil)))), (Le.upd_left (Le.upd_left (Le.under (Le.under (Le.refl _) hb1) hb2) ((upd_ne _ _ n_b2_b1.ne.symm).trans (upd_same _ _ _)) (by first | rfl | (simp; done))) (upd_same _ _ _) (by first | rfl | (simp; done)))⟩
      rw [if_neg hid1] at ho1
      exact absurd ho1 (by simp)
   ·replace ho1 := cond_f ho1 g1
    refine wpA_exit ?_
    refine thenA_e ?_
    refine thenA_e ?_
    obtain rfl := Option.some.inj ho1
    obtain rfl := Option.some.inj hk1
    exact ⟨rfl, _, _, rfl, (Sub.cons rfl (Sub.cons rfl (Sub.cons rfl (Sub.cons rfl Sub.nil)))), (Le.upd_left (Le.upd_left (Le.under (Le.under (Le.refl _) hb1) hb2) ((upd_ne _ _ n_b2_b1.ne.symm).trans (upd_same _ _ _)) (by first | rfl | (simp; done))) (upd_same _ _ _) (by first | rfl | (simp; done)))⟩
 ·intro e s' h' hq
  cases R1 with
  | next x => exact hq.elim
  | ret r => exact hq.elim
  | stop x id =>
   obtain ⟨rfl, x7, x8, rfl, hsub2, hle2⟩ := hq
   try dsimp only at hm
   by_cases hid2 : id = 0
   ·subst hid2
    rw [if_pos rfl] at hm
    refine blockA_s ?_
    refine thenA_n ?_
    refine wpA_weaken hsub2.ok hle2 ?_
    refine wpA_seq ?_
    refine wpA_region ?_
    refine Ops_quiet _ rfl rfl (QO.loadRow (cs := sqC x8) (hr := (rdAll (upd_same _ _ _))) rfl sz37 rfl rfl (sqC_length _)) ?_
    refine Ops_loud rfl (LO.storeAll (cs := sqC x8) rfl sz37 rfl rfl (sqC_one _) (sqC_length _) ((upd_ne _ _ n_b2_b1.ne.symm).trans (upd_same _ _ _)) (sqC_length _) (Chg.there n_b2_b1.ne Chg.here) rfl ?_)
    refine Ops_nil ?_
    refine thenA_n ?_
    refine wpA_ret ?_
    obtain rfl := Option.some.inj hm
    exact retA_r (h2 := h) (Res.one rfl (res1.row (cs := sqC x8) (hr := (rdAll ((upd_ne _ _ n_b2_b1.ne.symm).trans (upd_same _ _ _)))) sz37 rfl rfl (sqC_length _))) (Le.under (Le.under (Le.refl _) hb1) hb2) ⟨rfl, rfl⟩
   rw [if_neg hid2] at hm
   exact absurd hm (by simp)

/-! loop.example/g01195/spec.l01Direct -/
theorem c_spec_l01Direct {a0 : Sq} {a1 : Sq} {h : Hp} {r : Sq} (hm : m_spec_l01Direct a0 a1 = some r)  :
    QC Try.prog 43 #[.agg (sqC a0).toArray, .agg (sqC a1).toArray] h (.agg (sqC r).toArray) := by
 unfold m_spec_l01Direct at hm
 refine CC.enter Try.func43 rfl Try.ntmps43 rfl ?_
 refine wpA_seq ?_
 refine wpA_region ?_
 refine Ops_loud rfl (LO.boxAgg rfl rfl rfl (fun b1 hb1 => ?_))
 refine Ops_loud rfl (LO.boxAgg rfl rfl rfl (fun b2 hb2 => ?_))
 simp only [upd_noneA] at hb2
 obtain ⟨n_b2_b1, hb2⟩ := hb2
 refine Ops_loud rfl (LO.alloc rfl zr37 rfl (fun b3 hb3 => ?_))
 simp only [upd_noneA] at hb3
 obtain ⟨n_b3_b2, n_b3_b1, hb3⟩ := hb3
 refine Ops_nil ?_
 refine thenA_n ?_
 refine wpA_seq ?_
 refine wpA_region ?_
 refine Ops_quiet _ rfl rfl (QO.fieldAt (fo := 0) rfl sz37 rfl rfl sz2 rfl rfl) ?_
 refine Ops_quiet _ rfl rfl (QO.load rfl sz2 rfl rfl (by (refine (rd_own ((upd_ne _ _ n_b3_b2.ne.symm).trans (upd_same _ _ _)) _).trans ?_); exact rfl)) ?_
 refine Ops_quiet _ rfl rfl (QO.assign rfl rfl) ?_
 refine Ops_nil ?_
 refine thenA_n ?_
 refine wpA_seq ?_
 refine wpA_region ?_
 refine Ops_quiet _ rfl rfl (QO.fieldAt (fo := 0) rfl sz37 rfl rfl sz2 rfl rfl) ?_
 refine Ops_quiet _ rfl rfl (QO.load rfl sz2 rfl rfl (by (refine (rd_own ((upd_ne _ _ n_b3_b1.ne.symm).trans ((upd_ne _ _ n_b2_b1.ne.symm).trans (upd_same _ _ _))) _).trans ?_); exact rfl)) ?_
 refine Ops_quiet _ rfl rfl (QO.move rfl rfl) ?_
 refine Ops_quiet _ rfl rfl (QO.bin rfl rfl rfl rfl) ?_
 refine Ops_quiet _ rfl rfl (QO.build1 rfl rfl (bd37_0 (IntKind.i64.wrap (a0.order * a1.order)))) ?_
 refine Ops_loud rfl (LO.alloc rfl zr37 rfl (fun b4 hb4 => ?_))
 simp only [upd_noneA] at hb4
 obtain ⟨n_b4_b3, n_b4_b2, n_b4_b1, hb4⟩ := hb4
 refine Ops_loud rfl (LO.storeAll (cs := sqC (⟨(IntKind.i64.wrap (a0.order * a1.order)), tb0⟩ : Sq)) rfl sz37 rfl rfl (sqC_one _) (sqC_length _) (upd_same _ _ _) (sqC_length _) Chg.here rfl ?_)
 refine Ops_nil ?_
 refine thenA_n ?_
 refine wpA_seq ?_
 refine wpA_seq ?_
 refine wpA_region ?_
 refine Ops_quiet _ rfl rfl (QO.assign rfl rfl) ?_
 refine Ops_nil ?_
 refine thenA_n ?_
 refine wpA_block ?_
 obtain ⟨R1, hR, hm⟩ := Option.bind_eq_some_iff.1 hm
 obtain ⟨k1, hk1⟩ := loopV_some hR
 clear hR
 refine wpA_mono (Q := fun e s' h' => match (generalizing := false) R1 with | .stop x id => e = .exit id ∧ ∃ (x1 : Int) (x2 : Sq), x = (x1, x2) ∧ Sub s' [(2, .pointer (some ⟨b1, 0, none⟩)), (3, .pointer (some ⟨b2, 0, none⟩)), (4, .pointer (some ⟨b3, 0, none⟩)), (5, .int .i64 a1.order), (6, .pointer (some ⟨b4, 0, none⟩)), (7, .int .i64 x1)] ∧ Le (upd (upd (upd (upd (h) b1 (.own 37 (sqC a0) 101)) b2 (.own 37 (sqC a1) 101)) b3 (.own 37 (sqC sq0) 101)) b4 (.own 37 (sqC x2) 101)) h' | .ret r => False | .next _ => False) ?_ ?_
 ·refine wpA_loop (fun k s' h' => ∃ (x1 : Int) (x2 : Sq), loopW (m_spec_l01Direct_l0 a0 a1) k (x1, x2) = some R1 ∧ Sub s' [(2, .pointer (some ⟨b1, 0, none⟩)), (3, .pointer (some ⟨b2, 0, none⟩)), (4, .pointer (some ⟨b3, 0, none⟩)), (5, .int .i64 a1.order), (6, .pointer (some ⟨b4, 0, none⟩)), (7, .int .i64 x1)] ∧ Le (upd (upd (upd (upd (h) b1 (.own 37 (sqC a0) 101)) b2 (.own 37 (sqC a1) 101)) b3 (.own 37 (sqC sq0) 101)) b4 (.own 37 (sqC x2) 101)) h') (m := k1) ⟨0, (⟨(IntKind.i64.wrap (a0.order * a1.order)), tb0⟩ : Sq), hk1, (Sub.cons rfl (Sub.cons rfl (Sub.cons rfl (Sub.cons rfl (Sub.cons rfl (Sub.cons rfl Sub.nil)))))), (Le.upd_left (Le.upd_left (Le.upd_left (Le.upd_left (Le.under (Le.under (Le.under (Le.under (Le.refl _) hb1) hb2) hb3) hb4) ((upd_ne _ _ n_b4_b1.ne.symm).trans ((upd_ne _ _ n_b3_b1.ne.symm).trans ((upd_ne _ _ n_b2_b1.ne.symm).trans (upd_same _ _ _)))) (by first | rfl | (simp; done))) ((upd_ne _ _ n_b4_b2.ne.symm).trans ((upd_ne _ _ n_b3_b2.ne.symm).trans (upd_same _ _ _))) (by first | rfl | (simp; done))) ((upd_ne _ _ n_b4_b3.ne.symm).trans (upd_same _ _ _)) (by first | rfl | (simp; done))) (upd_same _ _ _) (by first | rfl | (simp; done)))⟩ ?_
  rintro k1 s' h' ⟨x1, x2, hk1, hsub, hle⟩
  refine wpA_weaken hsub.ok hle ?_
  clear hsub hle s' h'
  cases k1 with
  | zero => exact absurd hk1 (by simp [loopW])
  | succ k1 =>
   obtain ⟨o1, ho1, hk1⟩ := loopW_succ hk1
   unfold m_spec_l01Direct_l0 at ho1
   try dsimp only at ho1
   refine wpA_seq ?_
   refine wpA_seq ?_
   refine wpA_region ?_
   refine Ops_quiet _ rfl rfl (QO.move rfl rfl) ?_
   refine Ops_quiet _ rfl rfl (QO.fieldAt (fo := 0) rfl sz37 rfl rfl sz2 rfl rfl) ?_
   refine Ops_quiet _ rfl rfl (QO.load rfl sz2 rfl rfl (by (refine (rd_own (upd_same _ _ _) _).trans ?_); exact rfl)) ?_
   refine Ops_quiet _ rfl rfl (QO.bin rfl rfl rfl rfl) ?_
   refine Ops_nil ?_
   refine thenA_n ?_
   refine wpA_cond rfl (fun g1 => ?_) (fun g1 => ?_)
   ·replace ho1 := cond_t ho1 g1
    refine wpA_skip ?_
    refine thenA_n ?_
    refine wpA_seq ?_
    refine wpA_block ?_
    refine wpA_seq ?_
    refine wpA_region ?_
    refine Ops_quiet _ rfl rfl (QO.assign rfl rfl) ?_
    refine Ops_nil ?_
    refine thenA_n ?_
    refine wpA_block ?_
    obtain ⟨R2, hR, ho1⟩ := Option.bind_eq_some_iff.1 ho1
    obtain ⟨k2, hk2⟩ := loopV_some hR
    clear hR
    refine wpA_mono (Q := fun e s' h' => match (generalizing := false) R2 with | .stop x id => e = .exit id ∧ ∃ (x3 : Int) (x4 : Sq), x = (x3, x4) ∧ Sub s' [(2, .pointer (some ⟨b1, 0, none⟩)), (3, .pointer (some ⟨b2, 0, none⟩)), (4, .pointer (some ⟨b3, 0, none⟩)), (5, .int .i64 a1.order), (6, .pointer (some ⟨b4, 0, none⟩)), (7, .int .i64 x1), (8, .int .i64 x3)] ∧ Le (upd (upd (upd (upd (h) b1 (.own 37 (sqC a0) 101)) b2 (.own 37 (sqC a1) 101)) b3 (.own 37 (sqC sq0) 101)) b4 (.own 37 (sqC x4) 101)) h' | .ret r => False | .next _ => False) ?_ ?_
    ·refine wpA_loop (fun k s' h' => ∃ (x3 : Int) (x4 : Sq), loopW (m_spec_l01Direct_l1 a0 a1 x1) k (x3, x4) = some R2 ∧ Sub s' [(2, .pointer (some ⟨b1, 0, none⟩)), (3, .pointer (some ⟨b2, 0, none⟩)), (4, .pointer (some ⟨b3, 0, none⟩)), (5, .int .i64 a1.order), (6, .pointer (some ⟨b4, 0, none⟩)), (7, .int .i64 x1), (8, .int .i64 x3)] ∧ Le (upd (upd (upd (upd (h) b1 (.own 37 (sqC a0) 101)) b2 (.own 37 (sqC a1) 101)) b3 (.own 37 (sqC sq0) 101)) b4 (.own 37 (sqC x4) 101)) h') (m := k2) ⟨0, x2, hk2, (Sub.cons rfl (Sub.cons rfl (Sub.cons rfl (Sub.cons rfl (Sub.cons rfl (Sub.cons rfl (Sub.cons rfl Sub.nil))))))), (Le.upd_left (Le.upd_left (Le.upd_left (Le.upd_left (Le.under (Le.under (Le.under (Le.under (Le.refl _) hb1) hb2) hb3) hb4) ((upd_ne _ _ n_b4_b1.ne.symm).trans ((upd_ne _ _ n_b3_b1.ne.symm).trans ((upd_ne _ _ n_b2_b1.ne.symm).trans (upd_same _ _ _)))) (by first | rfl | (simp; done))) ((upd_ne _ _ n_b4_b2.ne.symm).trans ((upd_ne _ _ n_b3_b2.ne.symm).trans (upd_same _ _ _))) (by first | rfl | (simp; done))) ((upd_ne _ _ n_b4_b3.ne.symm).trans (upd_same _ _ _)) (by first | rfl | (simp; done))) (upd_same _ _ _) (by first | rfl | (simp; done)))⟩ ?_
     rintro k2 s' h' ⟨x3, x4, hk2, hsub, hle⟩
     refine wpA_weaken hsub.ok hle ?_
     clear hsub hle s' h'
     cases k2 with
     | zero => exact absurd hk2 (by simp [loopW])
     | succ k2 =>
      obtain ⟨o2, ho2, hk2⟩ := loopW_succ hk2
      unfold m_spec_l01Direct_l1 at ho2
      try dsimp only at ho2
      refine wpA_seq ?_
      refine wpA_seq ?_
      refine wpA_region ?_
      refine Ops_quiet _ rfl rfl (QO.move rfl rfl) ?_
      refine Ops_quiet _ rfl rfl (QO.fieldAt (fo := 0) rfl sz37 rfl rfl sz2 rfl rfl) ?_
      refine Ops_quiet _ rfl rfl (QO.load rfl sz2 rfl rfl (by (refine (rd_own (upd_same _ _ _) _).trans ?_); exact rfl)) ?_
      refine Ops_quiet _ rfl rfl (QO.bin rfl rfl rfl rfl) ?_
      refine Ops_nil ?_
      refine thenA_n ?_
      refine wpA_cond rfl (fun g2 => ?_) (fun g2 => ?_)
      ·replace ho2 := cond_t ho2 g2
       refine wpA_skip ?_
       refine thenA_n ?_
       refine wpA_seq ?_
       refine wpA_block ?_
       refine wpA_seq ?_
       refine wpA_drawn (by kernel_rfl) (by kernel_rfl) ?_
       refine QOps.quiet _ rfl rfl (QO.move rfl rfl) ?_
       refine QOps.quiet _ rfl rfl (QO.move rfl rfl) ?_
       have hq := chk ho2; clear ho2; obtain ⟨ck1, ho2⟩ := hq
       refine QOps.quiet _ rfl rfl (QO.quo rfl rfl rfl (by first | assumption | omega)) ?_
       refine QOps.quiet _ rfl rfl (QO.move rfl rfl) ?_
       refine QOps.quiet _ rfl rfl (QO.move rfl rfl) ?_
       have hq := chk ho2; clear ho2; obtain ⟨ck2, ho2⟩ := hq
       refine QOps.quiet _ rfl rfl (QO.quo rfl rfl rfl (by first | assumption | omega)) ?_
       refine QOps.quiet _ rfl rfl (QO.fieldAt (fo := 1) rfl sz37 rfl rfl sz35 rfl rfl) ?_
       have hq := chk ho2; clear ho2; obtain ⟨ck3, ho2⟩ := hq
       refine QOps.quiet _ rfl rfl (QO.idxArr rfl sz35 sz24 rfl rfl (by omega) (by omega)) ?_
       have hq := chk ho2; clear ho2; obtain ⟨ck4, ho2⟩ := hq
       refine QOps.quiet _ rfl rfl (QO.idxArr rfl sz24 sz5 rfl rfl (by omega) (by omega)) ?_
       refine QOps.quiet _ rfl rfl (QO.load rfl sz5 rfl rfl (by (refine (rd_own ((upd_ne _ _ n_b4_b1.ne.symm).trans ((upd_ne _ _ n_b3_b1.ne.symm).trans ((upd_ne _ _ n_b2_b1.ne.symm).trans (upd_same _ _ _)))) _).trans ?_); exact sqC_get (by omega) (by omega))) ?_
       refine QOps.quiet _ rfl rfl (QO.move rfl rfl) ?_
       refine QOps.quiet _ rfl rfl (QO.move rfl rfl) ?_
       have hq := chk ho2; clear ho2; obtain ⟨ck5, ho2⟩ := hq
       refine QOps.quiet _ rfl rfl (QO.rem rfl rfl rfl (by first | assumption | omega)) ?_
       refine QOps.quiet _ rfl rfl (QO.move rfl rfl) ?_
       refine QOps.quiet _ rfl rfl (QO.move rfl rfl) ?_
       have hq := chk ho2; clear ho2; obtain ⟨ck6, ho2⟩ := hq
       refine QOps.quiet _ rfl rfl (QO.rem rfl rfl rfl (by first | assumption | omega)) ?_
       refine QOps.quiet _ rfl rfl (QO.fieldAt (fo := 1) rfl sz37 rfl rfl sz35 rfl rfl) ?_
       have hq := chk ho2; clear ho2; obtain ⟨ck7, ho2⟩ := hq
       refine QOps.quiet _ rfl rfl (QO.idxArr rfl sz35 sz24 rfl rfl (by omega) (by omega)) ?_
       have hq := chk ho2; clear ho2; obtain ⟨ck8, ho2⟩ := hq
       refine QOps.quiet _ rfl rfl (QO.idxArr rfl sz24 sz5 rfl rfl (by omega) (by omega)) ?_
       refine QOps.quiet _ rfl rfl (QO.load rfl sz5 rfl rfl (by (refine (rd_own ((upd_ne _ _ n_b4_b2.ne.symm).trans ((upd_ne _ _ n_b3_b2.ne.symm).trans (upd_same _ _ _))) _).trans ?_); exact sqC_get (by omega) (by omega))) ?_
       refine QOps.quiet _ rfl rfl (QO.assign rfl rfl) ?_
       refine QOps.quiet _ rfl rfl (QO.assign rfl rfl) ?_
       refine QOps.nil ?_
       refine thenA_n ?_
       refine wpA_region ?_
       refine Ops_quiet _ rfl rfl (QO.move rfl rfl) ?_
       refine Ops_quiet _ rfl rfl (QO.move rfl rfl) ?_
       refine Ops_quiet _ rfl rfl (QO.move rfl rfl) ?_
       refine Ops_quiet _ rfl rfl (QO.conv rfl sz2 sz5 rfl) ?_
       refine Ops_quiet _ rfl rfl (QO.move rfl rfl) ?_
       refine Ops_quiet _ rfl rfl (QO.bin rfl rfl rfl rfl) ?_
       refine Ops_quiet _ rfl rfl (QO.move rfl rfl) ?_
       refine Ops_quiet _ rfl rfl (QO.bin rfl rfl rfl rfl) ?_
       refine Ops_quiet _ rfl rfl (QO.fieldAt (fo := 1) rfl sz37 rfl rfl sz35 rfl rfl) ?_
       have hq := chk ho2; clear ho2; obtain ⟨ck9, ho2⟩ := hq
       refine Ops_quiet _ rfl rfl (QO.idxArr rfl sz35 sz24 rfl rfl (by omega) (by omega)) ?_
       have hq := chk ho2; clear ho2; obtain ⟨ck10, ho2⟩ := hq
       refine Ops_quiet _ rfl rfl (QO.idxArr rfl sz24 sz5 rfl rfl (by omega) (by omega)) ?_
       refine Ops_loud rfl (LO.store' (xs' := sqC (⟨x4.order, (tset x4.t (x1).toNat (x3).toNat (IntKind.u8.wrap ((IntKind.u8.wrap ((IntKind.u8.wrap a1.order) * ((a0.t ((IntKind.i64.wrap (x1.tdiv a1.order))).toNat) ((IntKind.i64.wrap (x3.tdiv a1.order))).toNat))) + ((a1.t ((x1.tmod a1.order)).toNat) ((x3.tmod a1.order)).toNat))))⟩ : Sq)) rfl sz5 rfl rfl rfl (upd_same _ _ _) (by first | ((try simp only [sqC_length, tbC_length, tabI_length, tabB_length, ints_length, plsC_length, trC_length, sqsC_length, strsC_length, boolsC_length, tbB_length, List.length_append, List.length_cons, List.length_nil, List.length_set, List.length_replicate, rep_length]); first | omega | decide) | exact Nat.le_of_ble_eq_true rfl) (sqC_set (by omega) (by omega)) Chg.here rfl ?_)
       refine Ops_nil ?_
       refine blockA_n ?_
       refine thenA_n ?_
       refine wpA_region ?_
       refine Ops_quiet _ rfl rfl (QO.move rfl rfl) ?_
       refine Ops_quiet _ rfl rfl (QO.bin rfl rfl rfl rfl) ?_
       refine Ops_quiet _ rfl rfl (QO.assign rfl rfl) ?_
       refine Ops_nil ?_
       obtain rfl := Option.some.inj ho2
       dsimp only at hk2
       exact thenA_n ⟨k2, Nat.lt_succ_self _, _, _, hk2, (Sub.cons rfl (Sub.cons rfl (Sub.cons rfl (Sub.cons rfl (Sub.cons rfl (Sub.cons rfl (Sub.cons rfl Sub.nil))))))), (Le.upd_left (Le.upd_left (Le.upd_left (Le.upd_left (Le.under (Le.under (Le.under (Le.under (Le.refl _) hb1) hb2) hb3) hb4) ((upd_ne _ _ n_b4_b1.ne.symm).trans ((upd_ne _ _ n_b3_b1.ne.symm).trans ((upd_ne _ _ n_b2_b1.ne.symm).trans (upd_same _ _ _)))) (by first | rfl | (simp; done))) ((upd_ne _ _ n_b4_b2.ne.symm).trans ((upd_ne _ _ n_b3_b2.ne.symm).trans (upd_same _ _ _))) (by first | rfl | (simp; done))) ((upd_ne _ _ n_b4_b3.ne.symm).trans (upd_same _ _ _)) (by first | rfl | (simp; done))) (upd_same _ _ _) (by first | rfl | (simp; done)))⟩
      ·replace ho2 := cond_f ho2 g2
       refine wpA_exit ?_
       refine thenA_e ?_
       refine thenA_e ?_
       obtain rfl := Option.some.inj ho2
       obtain rfl := Option.some.inj hk2
       exact ⟨rfl, _, _, rfl, (Sub.cons rfl (Sub.cons rfl (Sub.cons rfl (Sub.cons rfl (Sub.cons rfl (Sub.cons rfl (Sub.cons rfl Sub.nil))))))), (Le.upd_left (Le.upd_left (Le.upd_left (Le.upd_left (Le.under (Le.under (Le.under (Le.under (Le.refl _) hb1) hb2) hb3) hb4) ((upd_ne _ _ n_b4_b1.ne.symm).trans ((upd_ne _ _ n_b3_b1.ne.symm).trans ((upd_ne _ _ n_b2_b1.ne.symm).trans (upd_same _ _ _)))) (by first | rfl | (simp; done))) ((upd_ne _ _ n_b4_b2.ne.symm).trans ((upd_ne _ _ n_b3_b2.ne.symm).trans (upd_same _ _ _))) (by first | rfl | (simp; done))) ((upd_ne _ _ n_b4_b3.ne.symm).trans (upd_same _ _ _)) (by first | rfl | (simp; done))) (upd_same _ _ _) (by first | rfl | (simp; done)))⟩
    ·intro e s' h' hq
     cases R2 with
     | next x => exact hq.elim
     | ret r => exact hq.elim
     | stop x id =>
      obtain ⟨rfl, x5, x6, rfl, hsub1, hle1⟩ := hq
      try dsimp only at ho1
      by_cases hid1 : id = 2
      ·subst hid1
       rw [if_pos rfl] at ho1
       refine blockA_s ?_
       refine blockA_n ?_
       refine thenA_n ?_
       refine wpA_weaken hsub1.ok hle1 ?_
       refine wpA_region ?_
       refine Ops_quiet _ rfl rfl (QO.move rfl rfl) ?_
       refine Ops_quiet _ rfl rfl (QO.bin rfl rfl rfl rfl) ?_
       refine Ops_quiet _ rfl rfl (QO.assign rfl rfl) ?_
       refine Ops_nil ?_
       obtain rfl := Option.some.inj ho1
       dsimp only at hk1
       exact thenA_n ⟨k1, Nat.lt_succ_self _, _, _, hk1, (Sub.cons rfl (Sub.cons rfl (Sub.cons rfl (Sub.cons rfl (Sub.cons rfl (Sub.cons rfl Sub.nil)))))), (Le.upd_left (Le.upd_left (Le.upd_left (Le.upd_left (Le.under (Le.under (Le.under (Le.under (Le.refl _) hb1) hb2) hb3) hb4) ((upd_ne _ _ n_b4_b1.ne.symm).trans ((upd_ne _ _ n_b3_b1.ne.symm).trans ((upd_ne _ _ n_b2_b1.ne.symm).trans (upd_same _ _ _)))) (by first | rfl | (simp; done))) ((upd_ne _ _ n_b4_b2.ne.symm).trans ((upd_ne _ _ n_b3_b2.ne.symm).trans (upd_same _ _ _))) (by first | rfl | (simp; done))) ((upd_ne _ _ n_b4_b3.ne.symm).trans (upd_same _ _ _)) (by first | rfl | (simp; done))) (upd_same _ _ _) (by first | rfl | (simp; done)))⟩
      rw [if_neg hid1] at ho1
      exact absurd ho1 (by simp)
   ·replace ho1 := cond_f ho1 g1
    refine wpA_exit ?_
    refine thenA_e ?_
    refine thenA_e ?_
    obtain rfl := Option.some.inj ho1
    obtain rfl := Option.some.inj hk1
    exact ⟨rfl, _, _, rfl, (Sub.cons rfl (Sub.cons rfl (Sub.cons rfl (Sub.cons rfl (Sub.cons rfl (Sub.cons rfl Sub.nil)))))), (Le.upd_left (Le.upd_left (Le.upd_left (Le.upd_left (Le.under (Le.under (Le.under (Le.under (Le.refl _) hb1) hb2) hb3) hb4) ((upd_ne _ _ n_b4_b1.ne.symm).trans ((upd_ne _ _ n_b3_b1.ne.symm).trans ((upd_ne _ _ n_b2_b1.ne.symm).trans (upd_same _ _ _)))) (by first | rfl | (simp; done))) ((upd_ne _ _ n_b4_b2.ne.symm).trans ((upd_ne _ _ n_b3_b2.ne.symm).trans (upd_same _ _ _))) (by first | rfl | (simp; done))) ((upd_ne _ _ n_b4_b3.ne.symm).trans (upd_same _ _ _)) (by first | rfl | (simp; done))) (upd_same _ _ _) (by first | rfl | (simp; done)))⟩
 ·intro e s' h' hq
  cases R1 with
  | next x => exact hq.elim
  | ret r => exact hq.elim
  | stop x id =>
   obtain ⟨rfl, x7, x8, rfl, hsub2, hle2⟩ := hq
   try dsimp only at hm
   by_cases hid2 : id = 0
   ·subst hid2
    rw [if_pos rfl] at hm
    refine blockA_s ?_
    refine thenA_n ?_
    refine wpA_weaken hsub2.ok hle2 ?_
    refine wpA_seq ?_
    refine wpA_region ?_
    refine Ops_quiet _ rfl rfl (QO.loadRow (cs := sqC x8) (hr := (rdAll (upd_same _ _ _))) rfl sz37 rfl rfl (sqC_length _)) ?_
    refine Ops_loud rfl (LO.storeAll (cs := sqC x8) rfl sz37 rfl rfl (sqC_one _) (sqC_length _) ((upd_ne _ _ n_b4_b3.ne.symm).trans (upd_same _ _ _)) (sqC_length _) (Chg.there n_b4_b3.ne Chg.here) rfl ?_)
    refine Ops_nil ?_
    refine thenA_n ?_
    refine wpA_ret ?_
    obtain rfl := Option.some.inj hm
    exact retA_r (h2 := h) (Res.one rfl (res1.row (cs := sqC x8) (hr := (rdAll ((upd_ne _ _ n_b4_b3.ne.symm).trans (upd_same _ _ _)))) sz37 rfl rfl (sqC_length _))) (Le.under (Le.under (Le.under (Le.under (Le.refl _) hb1) hb2) hb3) hb4) ⟨rfl, rfl⟩
   rw [if_neg hid2] at hm
   exact absurd hm (by simp)

/-! loop.example/g01195/spec.l01Known -/
theorem c_spec_l01Known {a0 : Src} {p0 : Nat} {l_s : List Int} {A_s : Option Addr} {c_s : Nat} {h : Hp} {r : Sq × Src} (hm : m_spec_l01Known a0 l_s = some r) (hs_s : RdS h A_s (ints .u8 l_s)) (h_p0 : h p0 = none) :
    CC Try.prog 61 #[.pointer (some ⟨p0, 0, none⟩)] (upd (h) p0 (.own 65 (srcC A_s l_s.length c_s a0) 3)) (fun v h' => v = .agg (sqC r.1).toArray ∧ h' = upd (h) p0 (.own 65 (srcC A_s l_s.length c_s r.2) 3)) := by
 unfold m_spec_l01Known at hm
 refine CC.enter Try.func61 rfl Try.ntmps61 rfl ?_
 refine wpA_seq ?_
 refine wpA_region ?_
 refine Ops_loud rfl (LO.alloc rfl zr37 rfl (fun b1 hb1 => ?_))
 simp only [upd_noneA] at hb1
 obtain ⟨n_b1_p0, hb1⟩ := hb1
 refine Ops_nil ?_
 refine thenA_n ?_
 refine wpA_seq ?_
 refine wpA_region ?_
 refine Ops_loud rfl (LO.slice' [(0, .string ((ByteArray.mk #[48, 49, 50, 51, 52, 47, 49, 48, 51, 52, 50, 47, 50, 52, 48, 49, 51, 47, 51, 50, 52, 48, 49, 47, 52, 51, 49, 50, 48]))), (1, .string ((ByteArray.mk #[48, 49, 50, 51, 52, 53, 47, 49, 50, 48, 52, 53, 51, 47, 50, 48, 49, 53, 51, 52, 47, 51, 53, 52, 48, 50, 49, 47, 52, 51, 53, 49, 48, 50, 47, 53, 52, 51, 50, 49, 48]))), (2, .string ((ByteArray.mk (List.toArray (List.append [48, 49, 50, 51, 52, 53, 54, 55, 47, 49, 50, 51, 48, 53, 54, 55, 52, 47, 50, 51, 48, 49, 54, 55, 52, 53, 47, 51, 48, 49, 50, 55, 52, 53, 54] [47, 52, 55, 54, 53, 48, 51, 50, 49, 47, 53, 52, 55, 54, 49, 48, 51, 50, 47, 54, 53, 52, 55, 50, 49, 48, 51, 47, 55, 54, 53, 52, 51, 50, 49, 48]))))), (3, .string ((ByteArray.mk #[48, 49, 50, 51, 52, 53, 47, 49, 48, 51, 50, 53, 52, 47, 50, 52, 53, 48, 49, 51, 47, 51, 53, 52, 49, 48, 50, 47, 52, 50, 48, 53, 51, 49, 47, 53, 51, 49, 52, 50, 48])))] (r := strsC [((ByteArray.mk #[48, 49, 50, 51, 52, 47, 49, 48, 51, 52, 50, 47, 50, 52, 48, 49, 51, 47, 51, 50, 52, 48, 49, 47, 52, 51, 49, 50, 48])), ((ByteArray.mk #[48, 49, 50, 51, 52, 53, 47, 49, 50, 48, 52, 53, 51, 47, 50, 48, 49, 53, 51, 52, 47, 51, 53, 52, 48, 50, 49, 47, 52, 51, 53, 49, 48, 50, 47, 53, 52, 51, 50, 49, 48])), ((ByteArray.mk (List.toArray (List.append [48, 49, 50, 51, 52, 53, 54, 55, 47, 49, 50, 51, 48, 53, 54, 55, 52, 47, 50, 51, 48, 49, 54, 55, 52, 53, 47, 51, 48, 49, 50, 55, 52, 53, 54] [47, 52, 55, 54, 53, 48, 51, 50, 49, 47, 53, 52, 55, 54, 49, 48, 51, 50, 47, 54, 53, 52, 55, 50, 49, 48, 51, 47, 55, 54, 53, 52, 51, 50, 49, 48])))), ((ByteArray.mk #[48, 49, 50, 51, 52, 53, 47, 49, 48, 51, 50, 53, 52, 47, 50, 52, 53, 48, 49, 51, 47, 51, 53, 52, 49, 48, 50, 47, 52, 50, 48, 53, 51, 49, 47, 53, 51, 49, 52, 50, 48]))]) rfl sz78 sz9 zr9 (by first | rfl | (simp [sqC_length, tbC_length, tabI_length, tabB_length, ints_length, plsC_length, trC_length, sqsC_length, strsC_length, boolsC_length, tbB_length, List.length_append, List.length_cons, List.length_nil, List.length_set, List.length_replicate, rep_length]; done)) (by decide) (by decide) (by decide) rfl rfl (by first | rfl | (simp [sqC_length, tbC_length, tabI_length, tabB_length, ints_length, plsC_length, trC_length, sqsC_length, strsC_length, boolsC_length, tbB_length, List.length_append, List.length_cons, List.length_nil, List.length_set, List.length_replicate, rep_length]; done)) rfl (fun b2 hb2 => ?_))
 simp only [upd_noneA] at hb2
 obtain ⟨n_b2_b1, n_b2_p0, hb2⟩ := hb2
 refine Ops_quiet _ rfl rfl (QO.assign rfl rfl) ?_
 refine Ops_nil ?_
 refine thenA_n ?_
 refine wpA_seq ?_
 refine wpA_seq ?_
 refine wpA_region ?_
 refine Ops_quiet _ rfl rfl (QO.move rfl rfl) ?_
 have hq := Option.bind_eq_some_iff.1 hm; clear hm; obtain ⟨r1, hr1, hm⟩ := hq
 have hd1 : Del (upd (upd (upd (h) p0 (.own 65 (srcC A_s l_s.length c_s a0) 3)) b1 (.own 37 (sqC sq0) 101)) b2 (.own 9 (strsC [((ByteArray.mk #[48, 49, 50, 51, 52, 47, 49, 48, 51, 52, 50, 47, 50, 52, 48, 49, 51, 47, 51, 50, 52, 48, 49, 47, 52, 51, 49, 50, 48])), ((ByteArray.mk #[48, 49, 50, 51, 52, 53, 47, 49, 50, 48, 52, 53, 51, 47, 50, 48, 49, 53, 51, 52, 47, 51, 53, 52, 48, 50, 49, 47, 52, 51, 53, 49, 48, 50, 47, 53, 52, 51, 50, 49, 48])), ((ByteArray.mk (List.toArray (List.append [48, 49, 50, 51, 52, 53, 54, 55, 47, 49, 50, 51, 48, 53, 54, 55, 52, 47, 50, 51, 48, 49, 54, 55, 52, 53, 47, 51, 48, 49, 50, 55, 52, 53, 54] [47, 52, 55, 54, 53, 48, 51, 50, 49, 47, 53, 52, 55, 54, 49, 48, 51, 50, 47, 54, 53, 52, 55, 50, 49, 48, 51, 47, 55, 54, 53, 52, 51, 50, 49, 48])))), ((ByteArray.mk #[48, 49, 50, 51, 52, 53, 47, 49, 48, 51, 50, 53, 52, 47, 50, 52, 53, 48, 49, 51, 47, 51, 53, 52, 49, 48, 50, 47, 52, 50, 48, 53, 51, 49, 47, 53, 51, 49, 52, 50, 48]))]) (4 * 1))) p0 (.own 65 (srcC A_s l_s.length c_s a0) 3) (upd (upd (h) b1 (.own 37 (sqC sq0) 101)) b2 (.own 9 (strsC [((ByteArray.mk #[48, 49, 50, 51, 52, 47, 49, 48, 51, 52, 50, 47, 50, 52, 48, 49, 51, 47, 51, 50, 52, 48, 49, 47, 52, 51, 49, 50, 48])), ((ByteArray.mk #[48, 49, 50, 51, 52, 53, 47, 49, 50, 48, 52, 53, 51, 47, 50, 48, 49, 53, 51, 52, 47, 51, 53, 52, 48, 50, 49, 47, 52, 51, 53, 49, 48, 50, 47, 53, 52, 51, 50, 49, 48])), ((ByteArray.mk (List.toArray (List.append [48, 49, 50, 51, 52, 53, 54, 55, 47, 49, 50, 51, 48, 53, 54, 55, 52, 47, 50, 51, 48, 49, 54, 55, 52, 53, 47, 51, 48, 49, 50, 55, 52, 53, 54] [47, 52, 55, 54, 53, 48, 51, 50, 49, 47, 53, 52, 55, 54, 49, 48, 51, 50, 47, 54, 53, 52, 55, 50, 49, 48, 51, 47, 55, 54, 53, 52, 51, 50, 49, 48])))), ((ByteArray.mk #[48, 49, 50, 51, 52, 53, 47, 49, 48, 51, 50, 53, 52, 47, 50, 52, 53, 48, 49, 51, 47, 51, 53, 52, 49, 48, 50, 47, 52, 50, 48, 53, 51, 49, 47, 53, 51, 49, 52, 50, 48]))]) (4 * 1))) := (Del.there n_b2_p0.ne.symm (Del.there n_b1_p0.ne.symm (Del.here h_p0)))
 refine Ops_call _ _ rfl rfl (EO.fn rfl Try.func27 rfl rfl (Evs.cons rfl (Evs.cons rfl Evs.nil))) (CC.mono (CC.atLe (c_spec_l01Next (h := upd (upd (h) b1 (.own 37 (sqC sq0) 101)) b2 (.own 9 (strsC [((ByteArray.mk #[48, 49, 50, 51, 52, 47, 49, 48, 51, 52, 50, 47, 50, 52, 48, 49, 51, 47, 51, 50, 52, 48, 49, 47, 52, 51, 49, 50, 48])), ((ByteArray.mk #[48, 49, 50, 51, 52, 53, 47, 49, 50, 48, 52, 53, 51, 47, 50, 48, 49, 53, 51, 52, 47, 51, 53, 52, 48, 50, 49, 47, 52, 51, 53, 49, 48, 50, 47, 53, 52, 51, 50, 49, 48])), ((ByteArray.mk (List.toArray (List.append [48, 49, 50, 51, 52, 53, 54, 55, 47, 49, 50, 51, 48, 53, 54, 55, 52, 47, 50, 51, 48, 49, 54, 55, 52, 53, 47, 51, 48, 49, 50, 55, 52, 53, 54] [47, 52, 55, 54, 53, 48, 51, 50, 49, 47, 53, 52, 55, 54, 49, 48, 51, 50, 47, 54, 53, 52, 55, 50, 49, 48, 51, 47, 55, 54, 53, 52, 51, 50, 49, 48])))), ((ByteArray.mk #[48, 49, 50, 51, 52, 53, 47, 49, 48, 51, 50, 53, 52, 47, 50, 52, 53, 48, 49, 51, 47, 51, 53, 52, 49, 48, 50, 47, 52, 50, 48, 53, 51, 49, 47, 53, 51, 49, 52, 50, 48]))]) (4 * 1))) hr1 (RdS.le hs_s (Le.under (Le.under (Le.refl _) hb1) hb2)) hd1.none) hd1.le) ?_)
 rintro _ _ ⟨rfl, rfl⟩
 refine Ops_nil ?_
 refine thenA_n ?_
 refine wpA_block ?_
 refine wpA_seq ?_
 refine wpA_region ?_
 refine Ops_quiet _ rfl rfl (QO.bin rfl rfl rfl rfl) ?_
 refine Ops_quiet _ rfl rfl (QO.assign rfl rfl) ?_
 refine Ops_nil ?_
 refine thenA_n ?_
 refine wpA_cond rfl (fun g1 => ?_) (fun g1 => ?_)
 ·replace hm := cond_t hm g1
  refine wpA_seq ?_
  refine wpA_region ?_
  refine Ops_quiet _ rfl rfl (QO.move rfl rfl) ?_
  refine Ops_quiet _ rfl rfl (QO.move rfl rfl) ?_
  refine Ops_quiet _ rfl rfl (QO.move rfl rfl) ?_
  refine Ops_quiet _ rfl rfl (QO.lenSl rfl sz78 rfl) ?_
  have hq := Option.bind_eq_some_iff.1 hm; clear hm; obtain ⟨r2, hr2, hm⟩ := hq
  have hd2 : Del (upd (upd (upd (h) b1 (.own 37 (sqC sq0) 101)) b2 (.own 9 (strsC [((ByteArray.mk #[48, 49, 50, 51, 52, 47, 49, 48, 51, 52, 50, 47, 50, 52, 48, 49, 51, 47, 51, 50, 52, 48, 49, 47, 52, 51, 49, 50, 48])), ((ByteArray.mk #[48, 49, 50, 51, 52, 53, 47, 49, 50, 48, 52, 53, 51, 47, 50, 48, 49, 53, 51, 52, 47, 51, 53, 52, 48, 50, 49, 47, 52, 51, 53, 49, 48, 50, 47, 53, 52, 51, 50, 49, 48])), ((ByteArray.mk (List.toArray (List.append [48, 49, 50, 51, 52, 53, 54, 55, 47, 49, 50, 51, 48, 53, 54, 55, 52, 47, 50, 51, 48, 49, 54, 55, 52, 53, 47, 51, 48, 49, 50, 55, 52, 53, 54] [47, 52, 55, 54, 53, 48, 51, 50, 49, 47, 53, 52, 55, 54, 49, 48, 51, 50, 47, 54, 53, 52, 55, 50, 49, 48, 51, 47, 55, 54, 53, 52, 51, 50, 49, 48])))), ((ByteArray.mk #[48, 49, 50, 51, 52, 53, 47, 49, 48, 51, 50, 53, 52, 47, 50, 52, 53, 48, 49, 51, 47, 51, 53, 52, 49, 48, 50, 47, 52, 50, 48, 53, 51, 49, 47, 53, 51, 49, 52, 50, 48]))]) (4 * 1))) p0 (.own 65 (srcC A_s l_s.length c_s r1.2) 3)) p0 (.own 65 (srcC A_s l_s.length c_s r1.2) 3) (upd (upd (h) b1 (.own 37 (sqC sq0) 101)) b2 (.own 9 (strsC [((ByteArray.mk #[48, 49, 50, 51, 52, 47, 49, 48, 51, 52, 50, 47, 50, 52, 48, 49, 51, 47, 51, 50, 52, 48, 49, 47, 52, 51, 49, 50, 48])), ((ByteArray.mk #[48, 49, 50, 51, 52, 53, 47, 49, 50, 48, 52, 53, 51, 47, 50, 48, 49, 53, 51, 52, 47, 51, 53, 52, 48, 50, 49, 47, 52, 51, 53, 49, 48, 50, 47, 53, 52, 51, 50, 49, 48])), ((ByteArray.mk (List.toArray (List.append [48, 49, 50, 51, 52, 53, 54, 55, 47, 49, 50, 51, 48, 53, 54, 55, 52, 47, 50, 51, 48, 49, 54, 55, 52, 53, 47, 51, 48, 49, 50, 55, 52, 53, 54] [47, 52, 55, 54, 53, 48, 51, 50, 49, 47, 53, 52, 55, 54, 49, 48, 51, 50, 47, 54, 53, 52, 55, 50, 49, 48, 51, 47, 55, 54, 53, 52, 51, 50, 49, 48])))), ((ByteArray.mk #[48, 49, 50, 51, 52, 53, 47, 49, 48, 51, 50, 53, 52, 47, 50, 52, 53, 48, 49, 51, 47, 51, 53, 52, 49, 48, 50, 47, 52, 50, 48, 53, 51, 49, 47, 53, 51, 49, 52, 50, 48]))]) (4 * 1))) := (Del.here (none_upd n_b2_p0.ne.symm (none_upd n_b1_p0.ne.symm h_p0)))
  refine Ops_call _ _ rfl rfl (EO.fn rfl Try.func27 rfl rfl (Evs.cons rfl (Evs.cons rfl Evs.nil))) (CC.mono (CC.atLe (c_spec_l01Next (h := upd (upd (h) b1 (.own 37 (sqC sq0) 101)) b2 (.own 9 (strsC [((ByteArray.mk #[48, 49, 50, 51, 52, 47, 49, 48, 51, 52, 50, 47, 50, 52, 48, 49, 51, 47, 51, 50, 52, 48, 49, 47, 52, 51, 49, 50, 48])), ((ByteArray.mk #[48, 49, 50, 51, 52, 53, 47, 49, 50, 48, 52, 53, 51, 47, 50, 48, 49, 53, 51, 52, 47, 51, 53, 52, 48, 50, 49, 47, 52, 51, 53, 49, 48, 50, 47, 53, 52, 51, 50, 49, 48])), ((ByteArray.mk (List.toArray (List.append [48, 49, 50, 51, 52, 53, 54, 55, 47, 49, 50, 51, 48, 53, 54, 55, 52, 47, 50, 51, 48, 49, 54, 55, 52, 53, 47, 51, 48, 49, 50, 55, 52, 53, 54] [47, 52, 55, 54, 53, 48, 51, 50, 49, 47, 53, 52, 55, 54, 49, 48, 51, 50, 47, 54, 53, 52, 55, 50, 49, 48, 51, 47, 55, 54, 53, 52, 51, 50, 49, 48])))), ((ByteArray.mk #[48, 49, 50, 51, 52, 53, 47, 49, 48, 51, 50, 53, 52, 47, 50, 52, 53, 48, 49, 51, 47, 51, 53, 52, 49, 48, 50, 47, 52, 50, 48, 53, 51, 49, 47, 53, 51, 49, 52, 50, 48]))]) (4 * 1))) hr2 (RdS.le hs_s (Le.under (Le.under (Le.refl _) hb1) hb2)) hd2.none) hd2.le) ?_)
  rintro _ _ ⟨rfl, rfl⟩
  have hq := chk hm; clear hm; obtain ⟨ck1, hm⟩ := hq
  refine Ops_quiet _ rfl rfl (QO.idxSl rfl sz78 sz9 rfl rfl (by omega) (by omega)) ?_
  refine Ops_quiet _ rfl rfl (QO.load rfl sz9 rfl rfl (by (refine (rd_own ((upd_ne _ _ n_b2_p0.ne).trans (upd_same _ _ _)) _).trans ?_); exact strsC_get01 (by first | omega | (simp only [List.length_cons, List.length_nil]; omega)))) ?_
  have hq := Option.bind_eq_some_iff.1 hm; clear hm; obtain ⟨r3, hr3, hm⟩ := hq
  refine Ops_call _ _ rfl rfl (EO.fn rfl Try.func66 rfl rfl (Evs.cons rfl Evs.nil)) (QC.cc (c_spec_l01Read hr3 ) ?_)
  refine Ops_quiet _ rfl rfl (QO.move rfl rfl) ?_
  refine Ops_quiet _ rfl rfl (QO.extract rfl rfl rfl) ?_
  refine Ops_quiet _ rfl rfl (QO.extract rfl rfl rfl) ?_
  refine Ops_loud rfl (LO.alloc rfl zr37 rfl (fun b3 hb3 => ?_))
  simp only [upd_noneA] at hb3
  obtain ⟨n_b3_p0, n_b3_b2, n_b3_b1, hb3⟩ := hb3
  refine Ops_loud rfl (LO.storeAll (cs := sqC r3.1) rfl sz37 rfl rfl (sqC_one _) (sqC_length _) (upd_same _ _ _) (sqC_length _) Chg.here rfl ?_)
  refine Ops_quiet _ rfl rfl (QO.assign rfl rfl) ?_
  refine Ops_nil ?_
  refine thenA_n ?_
  refine wpA_seq ?_
  refine wpA_region ?_
  refine Ops_quiet _ rfl rfl (QO.move rfl rfl) ?_
  refine Ops_nil ?_
  refine thenA_n ?_
  refine wpA_cond rfl (fun g2 => ?_) (fun g2 => ?_)
  ·replace hm := cond_t hm g2
   refine wpA_seq ?_
   refine wpA_region ?_
   refine Ops_quiet _ rfl rfl (QO.loadRow (cs := sqC r3.1) (hr := (rdAll (upd_same _ _ _))) rfl sz37 rfl rfl (sqC_length _)) ?_
   have hq := Option.bind_eq_some_iff.1 hm; clear hm; obtain ⟨r4, hr4, hm⟩ := hq
   refine Ops_call _ _ rfl rfl (EO.fn rfl Try.func65 rfl rfl (Evs.cons rfl Evs.nil)) (QC.cc (c_spec_l01Ordered hr4 ) ?_)
   refine Ops_loud rfl (LO.storeAll (cs := sqC r4) rfl sz37 rfl rfl (sqC_one _) (sqC_length _) ((upd_ne _ _ n_b3_b1.ne.symm).trans ((upd_ne _ _ n_b1_p0.ne).trans ((upd_ne _ _ n_b2_b1.ne.symm).trans (upd_same _ _ _)))) (sqC_length _) (Chg.there n_b3_b1.ne (Chg.there n_b1_p0.ne.symm (Chg.there n_b2_b1.ne Chg.here))) rfl ?_)
   refine Ops_nil ?_
   refine thenA_n ?_
   refine wpA_ret ?_
   refine blockA_r ?_
   refine thenA_r ?_
   obtain rfl := Option.some.inj hm
   exact retA_r (h2 := upd (h) p0 (.own 65 (srcC A_s l_s.length c_s r2.2) 3)) (Res.one rfl (res1.row (cs := sqC r4) (hr := (rdAll ((upd_ne _ _ n_b3_b1.ne.symm).trans ((upd_ne _ _ n_b1_p0.ne).trans ((upd_ne _ _ n_b2_b1.ne.symm).trans (upd_same _ _ _)))))) sz37 rfl rfl (sqC_length _))) (Le.upd_left (Le.under (Le.under (Le.under (Le.under (Le.refl _) hb1) hb2) h_p0) hb3) ((upd_ne _ _ n_b3_p0.ne.symm).trans (upd_same _ _ _)) (by first | rfl | (simp; done))) ⟨rfl, rfl⟩
  ·replace hm := cond_f hm g2
   refine wpA_skip ?_
   refine blockA_n ?_
   refine thenA_n ?_
   refine wpA_seq ?_
   refine wpA_region ?_
   refine Ops_quiet _ rfl rfl (QO.move rfl rfl) ?_
   refine Ops_quiet _ rfl rfl (QO.move rfl rfl) ?_
   have hq := Option.bind_eq_some_iff.1 hm; clear hm; obtain ⟨r5, hr5, hm⟩ := hq
   have hd3 : Del (upd (upd (upd (upd (h) b1 (.own 37 (sqC sq0) 101)) b2 (.own 9 (strsC [((ByteArray.mk #[48, 49, 50, 51, 52, 47, 49, 48, 51, 52, 50, 47, 50, 52, 48, 49, 51, 47, 51, 50, 52, 48, 49, 47, 52, 51, 49, 50, 48])), ((ByteArray.mk #[48, 49, 50, 51, 52, 53, 47, 49, 50, 48, 52, 53, 51, 47, 50, 48, 49, 53, 51, 52, 47, 51, 53, 52, 48, 50, 49, 47, 52, 51, 53, 49, 48, 50, 47, 53, 52, 51, 50, 49, 48])), ((ByteArray.mk (List.toArray (List.append [48, 49, 50, 51, 52, 53, 54, 55, 47, 49, 50, 51, 48, 53, 54, 55, 52, 47, 50, 51, 48, 49, 54, 55, 52, 53, 47, 51, 48, 49, 50, 55, 52, 53, 54] [47, 52, 55, 54, 53, 48, 51, 50, 49, 47, 53, 52, 55, 54, 49, 48, 51, 50, 47, 54, 53, 52, 55, 50, 49, 48, 51, 47, 55, 54, 53, 52, 51, 50, 49, 48])))), ((ByteArray.mk #[48, 49, 50, 51, 52, 53, 47, 49, 48, 51, 50, 53, 52, 47, 50, 52, 53, 48, 49, 51, 47, 51, 53, 52, 49, 48, 50, 47, 52, 50, 48, 53, 51, 49, 47, 53, 51, 49, 52, 50, 48]))]) (4 * 1))) p0 (.own 65 (srcC A_s l_s.length c_s r2.2) 3)) b3 (.own 37 (sqC r3.1) 101)) p0 (.own 65 (srcC A_s l_s.length c_s r2.2) 3) (upd (upd (upd (h) b1 (.own 37 (sqC sq0) 101)) b2 (.own 9 (strsC [((ByteArray.mk #[48, 49, 50, 51, 52, 47, 49, 48, 51, 52, 50, 47, 50, 52, 48, 49, 51, 47, 51, 50, 52, 48, 49, 47, 52, 51, 49, 50, 48])), ((ByteArray.mk #[48, 49, 50, 51, 52, 53, 47, 49, 50, 48, 52, 53, 51, 47, 50, 48, 49, 53, 51, 52, 47, 51, 53, 52, 48, 50, 49, 47, 52, 51, 53, 49, 48, 50, 47, 53, 52, 51, 50, 49, 48])), ((ByteArray.mk (List.toArray (List.append [48, 49, 50, 51, 52, 53, 54, 55, 47, 49, 50, 51, 48, 53, 54, 55, 52, 47, 50, 51, 48, 49, 54, 55, 52, 53, 47, 51, 48, 49, 50, 55, 52, 53, 54] [47, 52, 55, 54, 53, 48, 51, 50, 49, 47, 53, 52, 55, 54, 49, 48, 51, 50, 47, 54, 53, 52, 55, 50, 49, 48, 51, 47, 55, 54, 53, 52, 51, 50, 49, 48])))), ((ByteArray.mk #[48, 49, 50, 51, 52, 53, 47, 49, 48, 51, 50, 53, 52, 47, 50, 52, 53, 48, 49, 51, 47, 51, 53, 52, 49, 48, 50, 47, 52, 50, 48, 53, 51, 49, 47, 53, 51, 49, 52, 50, 48]))]) (4 * 1))) b3 (.own 37 (sqC r3.1) 101)) := (Del.there n_b3_p0.ne.symm (Del.here (none_upd n_b2_p0.ne.symm (none_upd n_b1_p0.ne.symm h_p0))))
   refine Ops_call _ _ rfl rfl (EO.fn rfl Try.func27 rfl rfl (Evs.cons rfl (Evs.cons rfl Evs.nil))) (CC.mono (CC.atLe (c_spec_l01Next (h := upd (upd (upd (h) b1 (.own 37 (sqC sq0) 101)) b2 (.own 9 (strsC [((ByteArray.mk #[48, 49, 50, 51, 52, 47, 49, 48, 51, 52, 50, 47, 50, 52, 48, 49, 51, 47, 51, 50, 52, 48, 49, 47, 52, 51, 49, 50, 48])), ((ByteArray.mk #[48, 49, 50, 51, 52, 53, 47, 49, 50, 48, 52, 53, 51, 47, 50, 48, 49, 53, 51, 52, 47, 51, 53, 52, 48, 50, 49, 47, 52, 51, 53, 49, 48, 50, 47, 53, 52, 51, 50, 49, 48])), ((ByteArray.mk (List.toArray (List.append [48, 49, 50, 51, 52, 53, 54, 55, 47, 49, 50, 51, 48, 53, 54, 55, 52, 47, 50, 51, 48, 49, 54, 55, 52, 53, 47, 51, 48, 49, 50, 55, 52, 53, 54] [47, 52, 55, 54, 53, 48, 51, 50, 49, 47, 53, 52, 55, 54, 49, 48, 51, 50, 47, 54, 53, 52, 55, 50, 49, 48, 51, 47, 55, 54, 53, 52, 51, 50, 49, 48])))), ((ByteArray.mk #[48, 49, 50, 51, 52, 53, 47, 49, 48, 51, 50, 53, 52, 47, 50, 52, 53, 48, 49, 51, 47, 51, 53, 52, 49, 48, 50, 47, 52, 50, 48, 53, 51, 49, 47, 53, 51, 49, 52, 50, 48]))]) (4 * 1))) b3 (.own 37 (sqC r3.1) 101)) hr5 (RdS.le hs_s (Le.under (Le.under (Le.under (Le.refl _) hb1) hb2) hb3)) hd3.none) hd3.le) ?_)
   rintro _ _ ⟨rfl, rfl⟩
   refine Ops_quiet _ rfl rfl (QO.move rfl rfl) ?_
   have hq := Option.bind_eq_some_iff.1 hm; clear hm; obtain ⟨r6, hr6, hm⟩ := hq
   have hd4 : Del (upd (upd (upd (upd (h) b1 (.own 37 (sqC sq0) 101)) b2 (.own 9 (strsC [((ByteArray.mk #[48, 49, 50, 51, 52, 47, 49, 48, 51, 52, 50, 47, 50, 52, 48, 49, 51, 47, 51, 50, 52, 48, 49, 47, 52, 51, 49, 50, 48])), ((ByteArray.mk #[48, 49, 50, 51, 52, 53, 47, 49, 50, 48, 52, 53, 51, 47, 50, 48, 49, 53, 51, 52, 47, 51, 53, 52, 48, 50, 49, 47, 52, 51, 53, 49, 48, 50, 47, 53, 52, 51, 50, 49, 48])), ((ByteArray.mk (List.toArray (List.append [48, 49, 50, 51, 52, 53, 54, 55, 47, 49, 50, 51, 48, 53, 54, 55, 52, 47, 50, 51, 48, 49, 54, 55, 52, 53, 47, 51, 48, 49, 50, 55, 52, 53, 54] [47, 52, 55, 54, 53, 48, 51, 50, 49, 47, 53, 52, 55, 54, 49, 48, 51, 50, 47, 54, 53, 52, 55, 50, 49, 48, 51, 47, 55, 54, 53, 52, 51, 50, 49, 48])))), ((ByteArray.mk #[48, 49, 50, 51, 52, 53, 47, 49, 48, 51, 50, 53, 52, 47, 50, 52, 53, 48, 49, 51, 47, 51, 53, 52, 49, 48, 50, 47, 52, 50, 48, 53, 51, 49, 47, 53, 51, 49, 52, 50, 48]))]) (4 * 1))) b3 (.own 37 (sqC r3.1) 101)) p0 (.own 65 (srcC A_s l_s.length c_s r5.2) 3)) p0 (.own 65 (srcC A_s l_s.length c_s r5.2) 3) (upd (upd (upd (h) b1 (.own 37 (sqC sq0) 101)) b2 (.own 9 (strsC [((ByteArray.mk #[48, 49, 50, 51, 52, 47, 49, 48, 51, 52, 50, 47, 50, 52, 48, 49, 51, 47, 51, 50, 52, 48, 49, 47, 52, 51, 49, 50, 48])), ((ByteArray.mk #[48, 49, 50, 51, 52, 53, 47, 49, 50, 48, 52, 53, 51, 47, 50, 48, 49, 53, 51, 52, 47, 51, 53, 52, 48, 50, 49, 47, 52, 51, 53, 49, 48, 50, 47, 53, 52, 51, 50, 49, 48])), ((ByteArray.mk (List.toArray (List.append [48, 49, 50, 51, 52, 53, 54, 55, 47, 49, 50, 51, 48, 53, 54, 55, 52, 47, 50, 51, 48, 49, 54, 55, 52, 53, 47, 51, 48, 49, 50, 55, 52, 53, 54] [47, 52, 55, 54, 53, 48, 51, 50, 49, 47, 53, 52, 55, 54, 49, 48, 51, 50, 47, 54, 53, 52, 55, 50, 49, 48, 51, 47, 55, 54, 53, 52, 51, 50, 49, 48])))), ((ByteArray.mk #[48, 49, 50, 51, 52, 53, 47, 49, 48, 51, 50, 53, 52, 47, 50, 52, 53, 48, 49, 51, 47, 51, 53, 52, 49, 48, 50, 47, 52, 50, 48, 53, 51, 49, 47, 53, 51, 49, 52, 50, 48]))]) (4 * 1))) b3 (.own 37 (sqC r3.1) 101)) := (Del.here (none_upd n_b3_p0.ne.symm (none_upd n_b2_p0.ne.symm (none_upd n_b1_p0.ne.symm h_p0))))
   refine Ops_call _ _ rfl rfl (EO.fn rfl Try.func27 rfl rfl (Evs.cons rfl (Evs.cons rfl Evs.nil))) (CC.mono (CC.atLe (c_spec_l01Next (h := upd (upd (upd (h) b1 (.own 37 (sqC sq0) 101)) b2 (.own 9 (strsC [((ByteArray.mk #[48, 49, 50, 51, 52, 47, 49, 48, 51, 52, 50, 47, 50, 52, 48, 49, 51, 47, 51, 50, 52, 48, 49, 47, 52, 51, 49, 50, 48])), ((ByteArray.mk #[48, 49, 50, 51, 52, 53, 47, 49, 50, 48, 52, 53, 51, 47, 50, 48, 49, 53, 51, 52, 47, 51, 53, 52, 48, 50, 49, 47, 52, 51, 53, 49, 48, 50, 47, 53, 52, 51, 50, 49, 48])), ((ByteArray.mk (List.toArray (List.append [48, 49, 50, 51, 52, 53, 54, 55, 47, 49, 50, 51, 48, 53, 54, 55, 52, 47, 50, 51, 48, 49, 54, 55, 52, 53, 47, 51, 48, 49, 50, 55, 52, 53, 54] [47, 52, 55, 54, 53, 48, 51, 50, 49, 47, 53, 52, 55, 54, 49, 48, 51, 50, 47, 54, 53, 52, 55, 50, 49, 48, 51, 47, 55, 54, 53, 52, 51, 50, 49, 48])))), ((ByteArray.mk #[48, 49, 50, 51, 52, 53, 47, 49, 48, 51, 50, 53, 52, 47, 50, 52, 53, 48, 49, 51, 47, 51, 53, 52, 49, 48, 50, 47, 52, 50, 48, 53, 51, 49, 47, 53, 51, 49, 52, 50, 48]))]) (4 * 1))) b3 (.own 37 (sqC r3.1) 101)) hr6 (RdS.le hs_s (Le.under (Le.under (Le.under (Le.refl _) hb1) hb2) hb3)) hd4.none) hd4.le) ?_)
   rintro _ _ ⟨rfl, rfl⟩
   refine Ops_quiet _ rfl rfl (QO.move rfl rfl) ?_
   have hq := Option.bind_eq_some_iff.1 hm; clear hm; obtain ⟨r7, hr7, hm⟩ := hq
   have hd5 : Del (upd (upd (upd (upd (h) b1 (.own 37 (sqC sq0) 101)) b2 (.own 9 (strsC [((ByteArray.mk #[48, 49, 50, 51, 52, 47, 49, 48, 51, 52, 50, 47, 50, 52, 48, 49, 51, 47, 51, 50, 52, 48, 49, 47, 52, 51, 49, 50, 48])), ((ByteArray.mk #[48, 49, 50, 51, 52, 53, 47, 49, 50, 48, 52, 53, 51, 47, 50, 48, 49, 53, 51, 52, 47, 51, 53, 52, 48, 50, 49, 47, 52, 51, 53, 49, 48, 50, 47, 53, 52, 51, 50, 49, 48])), ((ByteArray.mk (List.toArray (List.append [48, 49, 50, 51, 52, 53, 54, 55, 47, 49, 50, 51, 48, 53, 54, 55, 52, 47, 50, 51, 48, 49, 54, 55, 52, 53, 47, 51, 48, 49, 50, 55, 52, 53, 54] [47, 52, 55, 54, 53, 48, 51, 50, 49, 47, 53, 52, 55, 54, 49, 48, 51, 50, 47, 54, 53, 52, 55, 50, 49, 48, 51, 47, 55, 54, 53, 52, 51, 50, 49, 48])))), ((ByteArray.mk #[48, 49, 50, 51, 52, 53, 47, 49, 48, 51, 50, 53, 52, 47, 50, 52, 53, 48, 49, 51, 47, 51, 53, 52, 49, 48, 50, 47, 52, 50, 48, 53, 51, 49, 47, 53, 51, 49, 52, 50, 48]))]) (4 * 1))) b3 (.own 37 (sqC r3.1) 101)) p0 (.own 65 (srcC A_s l_s.length c_s r6.2) 3)) p0 (.own 65 (srcC A_s l_s.length c_s r6.2) 3) (upd (upd (upd (h) b1 (.own 37 (sqC sq0) 101)) b2 (.own 9 (strsC [((ByteArray.mk #[48, 49, 50, 51, 52, 47, 49, 48, 51, 52, 50, 47, 50, 52, 48, 49, 51, 47, 51, 50, 52, 48, 49, 47, 52, 51, 49, 50, 48])), ((ByteArray.mk #[48, 49, 50, 51, 52, 53, 47, 49, 50, 48, 52, 53, 51, 47, 50, 48, 49, 53, 51, 52, 47, 51, 53, 52, 48, 50, 49, 47, 52, 51, 53, 49, 48, 50, 47, 53, 52, 51, 50, 49, 48])), ((ByteArray.mk (List.toArray (List.append [48, 49, 50, 51, 52, 53, 54, 55, 47, 49, 50, 51, 48, 53, 54, 55, 52, 47, 50, 51, 48, 49, 54, 55, 52, 53, 47, 51, 48, 49, 50, 55, 52, 53, 54] [47, 52, 55, 54, 53, 48, 51, 50, 49, 47, 53, 52, 55, 54, 49, 48, 51, 50, 47, 54, 53, 52, 55, 50, 49, 48, 51, 47, 55, 54, 53, 52, 51, 50, 49, 48])))), ((ByteArray.mk #[48, 49, 50, 51, 52, 53, 47, 49, 48, 51, 50, 53, 52, 47, 50, 52, 53, 48, 49, 51, 47, 51, 53, 52, 49, 48, 50, 47, 52, 50, 48, 53, 51, 49, 47, 53, 51, 49, 52, 50, 48]))]) (4 * 1))) b3 (.own 37 (sqC r3.1) 101)) := (Del.here (none_upd n_b3_p0.ne.symm (none_upd n_b2_p0.ne.symm (none_upd n_b1_p0.ne.symm h_p0))))
   refine Ops_call _ _ rfl rfl (EO.fn rfl Try.func27 rfl rfl (Evs.cons rfl (Evs.cons rfl Evs.nil))) (CC.mono (CC.atLe (c_spec_l01Next (h := upd (upd (upd (h) b1 (.own 37 (sqC sq0) 101)) b2 (.own 9 (strsC [((ByteArray.mk #[48, 49, 50, 51, 52, 47, 49, 48, 51, 52, 50, 47, 50, 52, 48, 49, 51, 47, 51, 50, 52, 48, 49, 47, 52, 51, 49, 50, 48])), ((ByteArray.mk #[48, 49, 50, 51, 52, 53, 47, 49, 50, 48, 52, 53, 51, 47, 50, 48, 49, 53, 51, 52, 47, 51, 53, 52, 48, 50, 49, 47, 52, 51, 53, 49, 48, 50, 47, 53, 52, 51, 50, 49, 48])), ((ByteArray.mk (List.toArray (List.append [48, 49, 50, 51, 52, 53, 54, 55, 47, 49, 50, 51, 48, 53, 54, 55, 52, 47, 50, 51, 48, 49, 54, 55, 52, 53, 47, 51, 48, 49, 50, 55, 52, 53, 54] [47, 52, 55, 54, 53, 48, 51, 50, 49, 47, 53, 52, 55, 54, 49, 48, 51, 50, 47, 54, 53, 52, 55, 50, 49, 48, 51, 47, 55, 54, 53, 52, 51, 50, 49, 48])))), ((ByteArray.mk #[48, 49, 50, 51, 52, 53, 47, 49, 48, 51, 50, 53, 52, 47, 50, 52, 53, 48, 49, 51, 47, 51, 53, 52, 49, 48, 50, 47, 52, 50, 48, 53, 51, 49, 47, 53, 51, 49, 52, 50, 48]))]) (4 * 1))) b3 (.own 37 (sqC r3.1) 101)) hr7 (RdS.le hs_s (Le.under (Le.under (Le.under (Le.refl _) hb1) hb2) hb3)) hd5.none) hd5.le) ?_)
   rintro _ _ ⟨rfl, rfl⟩
   refine Ops_loud rfl (LO.slice' [(0, .int .i64 r5.1), (1, .int .i64 r6.1), (2, .int .i64 r7.1)] (r := ints .i64 [r5.1, r6.1, r7.1]) rfl sz70 sz2 zr2 (by first | rfl | (simp [sqC_length, tbC_length, tabI_length, tabB_length, ints_length, plsC_length, trC_length, sqsC_length, strsC_length, boolsC_length, tbB_length, List.length_append, List.length_cons, List.length_nil, List.length_set, List.length_replicate, rep_length]; done)) (by decide) (by decide) (by decide) rfl rfl (by first | rfl | (simp [sqC_length, tbC_length, tabI_length, tabB_length, ints_length, plsC_length, trC_length, sqsC_length, strsC_length, boolsC_length, tbB_length, List.length_append, List.length_cons, List.length_nil, List.length_set, List.length_replicate, rep_length]; done)) rfl (fun b4 hb4 => ?_))
   simp only [upd_noneA] at hb4
   obtain ⟨n_b4_p0, n_b4_b3, n_b4_b2, n_b4_b1, hb4⟩ := hb4
   have hq := Option.bind_eq_some_iff.1 hm; clear hm; obtain ⟨r8, hr8, hm⟩ := hq
   have hd6 : Del (upd (upd (upd (upd (upd (h) b1 (.own 37 (sqC sq0) 101)) b2 (.own 9 (strsC [((ByteArray.mk #[48, 49, 50, 51, 52, 47, 49, 48, 51, 52, 50, 47, 50, 52, 48, 49, 51, 47, 51, 50, 52, 48, 49, 47, 52, 51, 49, 50, 48])), ((ByteArray.mk #[48, 49, 50, 51, 52, 53, 47, 49, 50, 48, 52, 53, 51, 47, 50, 48, 49, 53, 51, 52, 47, 51, 53, 52, 48, 50, 49, 47, 52, 51, 53, 49, 48, 50, 47, 53, 52, 51, 50, 49, 48])), ((ByteArray.mk (List.toArray (List.append [48, 49, 50, 51, 52, 53, 54, 55, 47, 49, 50, 51, 48, 53, 54, 55, 52, 47, 50, 51, 48, 49, 54, 55, 52, 53, 47, 51, 48, 49, 50, 55, 52, 53, 54] [47, 52, 55, 54, 53, 48, 51, 50, 49, 47, 53, 52, 55, 54, 49, 48, 51, 50, 47, 54, 53, 52, 55, 50, 49, 48, 51, 47, 55, 54, 53, 52, 51, 50, 49, 48])))), ((ByteArray.mk #[48, 49, 50, 51, 52, 53, 47, 49, 48, 51, 50, 53, 52, 47, 50, 52, 53, 48, 49, 51, 47, 51, 53, 52, 49, 48, 50, 47, 52, 50, 48, 53, 51, 49, 47, 53, 51, 49, 52, 50, 48]))]) (4 * 1))) b3 (.own 37 (sqC r3.1) 101)) p0 (.own 65 (srcC A_s l_s.length c_s r7.2) 3)) b4 (.own 2 (ints .i64 [r5.1, r6.1, r7.1]) (3 * 1))) p0 (.own 65 (srcC A_s l_s.length c_s r7.2) 3) (upd (upd (upd (upd (h) b1 (.own 37 (sqC sq0) 101)) b2 (.own 9 (strsC [((ByteArray.mk #[48, 49, 50, 51, 52, 47, 49, 48, 51, 52, 50, 47, 50, 52, 48, 49, 51, 47, 51, 50, 52, 48, 49, 47, 52, 51, 49, 50, 48])), ((ByteArray.mk #[48, 49, 50, 51, 52, 53, 47, 49, 50, 48, 52, 53, 51, 47, 50, 48, 49, 53, 51, 52, 47, 51, 53, 52, 48, 50, 49, 47, 52, 51, 53, 49, 48, 50, 47, 53, 52, 51, 50, 49, 48])), ((ByteArray.mk (List.toArray (List.append [48, 49, 50, 51, 52, 53, 54, 55, 47, 49, 50, 51, 48, 53, 54, 55, 52, 47, 50, 51, 48, 49, 54, 55, 52, 53, 47, 51, 48, 49, 50, 55, 52, 53, 54] [47, 52, 55, 54, 53, 48, 51, 50, 49, 47, 53, 52, 55, 54, 49, 48, 51, 50, 47, 54, 53, 52, 55, 50, 49, 48, 51, 47, 55, 54, 53, 52, 51, 50, 49, 48])))), ((ByteArray.mk #[48, 49, 50, 51, 52, 53, 47, 49, 48, 51, 50, 53, 52, 47, 50, 52, 53, 48, 49, 51, 47, 51, 53, 52, 49, 48, 50, 47, 52, 50, 48, 53, 51, 49, 47, 53, 51, 49, 52, 50, 48]))]) (4 * 1))) b3 (.own 37 (sqC r3.1) 101)) b4 (.own 2 (ints .i64 [r5.1, r6.1, r7.1]) (3 * 1))) := (Del.there n_b4_p0.ne.symm (Del.here (none_upd n_b3_p0.ne.symm (none_upd n_b2_p0.ne.symm (none_upd n_b1_p0.ne.symm h_p0)))))
   refine Ops_call _ _ rfl rfl (EO.fn rfl Try.func40 rfl rfl (Evs.cons rfl (Evs.cons rfl Evs.nil))) (CC.mono (CC.atLe (c_spec_l01Pick (l1 := [r5.1, r6.1, r7.1]) (A1 := some ⟨b4, 0, none⟩) (c1 := 3) (h := upd (upd (upd (upd (h) b1 (.own 37 (sqC sq0) 101)) b2 (.own 9 (strsC [((ByteArray.mk #[48, 49, 50, 51, 52, 47, 49, 48, 51, 52, 50, 47, 50, 52, 48, 49, 51, 47, 51, 50, 52, 48, 49, 47, 52, 51, 49, 50, 48])), ((ByteArray.mk #[48, 49, 50, 51, 52, 53, 47, 49, 50, 48, 52, 53, 51, 47, 50, 48, 49, 53, 51, 52, 47, 51, 53, 52, 48, 50, 49, 47, 52, 51, 53, 49, 48, 50, 47, 53, 52, 51, 50, 49, 48])), ((ByteArray.mk (List.toArray (List.append [48, 49, 50, 51, 52, 53, 54, 55, 47, 49, 50, 51, 48, 53, 54, 55, 52, 47, 50, 51, 48, 49, 54, 55, 52, 53, 47, 51, 48, 49, 50, 55, 52, 53, 54] [47, 52, 55, 54, 53, 48, 51, 50, 49, 47, 53, 52, 55, 54, 49, 48, 51, 50, 47, 54, 53, 52, 55, 50, 49, 48, 51, 47, 55, 54, 53, 52, 51, 50, 49, 48])))), ((ByteArray.mk #[48, 49, 50, 51, 52, 53, 47, 49, 48, 51, 50, 53, 52, 47, 50, 52, 53, 48, 49, 51, 47, 51, 53, 52, 49, 48, 50, 47, 52, 50, 48, 53, 51, 49, 47, 53, 51, 49, 52, 50, 48]))]) (4 * 1))) b3 (.own 37 (sqC r3.1) 101)) b4 (.own 2 (ints .i64 [r5.1, r6.1, r7.1]) (3 * 1))) hr8 (RdS.le hs_s (Le.under (Le.under (Le.under (Le.under (Le.refl _) hb1) hb2) hb3) hb4)) (RdS.own (upd_same _ _ _)) hd6.none) hd6.le) ?_)
   rintro _ _ ⟨rfl, rfl⟩
   refine Ops_quiet _ rfl rfl (QO.bin rfl rfl rfl rfl) ?_
   have hq := Option.bind_eq_some_iff.1 hm; clear hm; obtain ⟨r9, hr9, hm⟩ := hq
   refine Ops_call _ _ rfl rfl (EO.fn rfl Try.func39 rfl rfl (Evs.cons rfl Evs.nil)) (QC.cc (c_spec_l01Cyclic hr9 ) ?_)
   refine Ops_loud rfl (LO.storeAll (cs := sqC r9) rfl sz37 rfl rfl (sqC_one _) (sqC_length _) ((upd_ne _ _ n_b1_p0.ne).trans ((upd_ne _ _ n_b4_b1.ne.symm).trans ((upd_ne _ _ n_b3_b1.ne.symm).trans ((upd_ne _ _ n_b2_b1.ne.symm).trans (upd_same _ _ _))))) (sqC_length _) (Chg.there n_b1_p0.ne.symm (Chg.there n_b4_b1.ne (Chg.there n_b3_b1.ne (Chg.there n_b2_b1.ne Chg.here)))) rfl ?_)
   refine Ops_nil ?_
   refine thenA_n ?_
   refine wpA_ret ?_
   obtain rfl := Option.some.inj hm
   exact retA_r (h2 := upd (h) p0 (.own 65 (srcC A_s l_s.length c_s r8.2) 3)) (Res.one rfl (res1.row (cs := sqC r9) (hr := (rdAll ((upd_ne _ _ n_b1_p0.ne).trans ((upd_ne _ _ n_b4_b1.ne.symm).trans ((upd_ne _ _ n_b3_b1.ne.symm).trans ((upd_ne _ _ n_b2_b1.ne.symm).trans (upd_same _ _ _))))))) sz37 rfl rfl (sqC_length _))) (Le.upd_left (Le.under (Le.under (Le.under (Le.under (Le.under (Le.refl _) hb1) hb2) hb3) hb4) h_p0) (upd_same _ _ _) (by first | rfl | (simp; done))) ⟨rfl, rfl⟩
 ·replace hm := cond_f hm g1
  refine wpA_seq ?_
  refine wpA_region ?_
  refine Ops_quiet _ rfl rfl (QO.bin rfl rfl rfl rfl) ?_
  refine Ops_quiet _ rfl rfl (QO.assign rfl rfl) ?_
  refine Ops_nil ?_
  refine thenA_n ?_
  refine wpA_cond rfl (fun g3 => ?_) (fun g3 => ?_)
  ·replace hm := cond_t hm g3
   refine wpA_seq ?_
   refine wpA_region ?_
   refine Ops_quiet _ rfl rfl (QO.move rfl rfl) ?_
   have hq := Option.bind_eq_some_iff.1 hm; clear hm; obtain ⟨r10, hr10, hm⟩ := hq
   have hd7 : Del (upd (upd (upd (h) b1 (.own 37 (sqC sq0) 101)) b2 (.own 9 (strsC [((ByteArray.mk #[48, 49, 50, 51, 52, 47, 49, 48, 51, 52, 50, 47, 50, 52, 48, 49, 51, 47, 51, 50, 52, 48, 49, 47, 52, 51, 49, 50, 48])), ((ByteArray.mk #[48, 49, 50, 51, 52, 53, 47, 49, 50, 48, 52, 53, 51, 47, 50, 48, 49, 53, 51, 52, 47, 51, 53, 52, 48, 50, 49, 47, 52, 51, 53, 49, 48, 50, 47, 53, 52, 51, 50, 49, 48])), ((ByteArray.mk (List.toArray (List.append [48, 49, 50, 51, 52, 53, 54, 55, 47, 49, 50, 51, 48, 53, 54, 55, 52, 47, 50, 51, 48, 49, 54, 55, 52, 53, 47, 51, 48, 49, 50, 55, 52, 53, 54] [47, 52, 55, 54, 53, 48, 51, 50, 49, 47, 53, 52, 55, 54, 49, 48, 51, 50, 47, 54, 53, 52, 55, 50, 49, 48, 51, 47, 55, 54, 53, 52, 51, 50, 49, 48])))), ((ByteArray.mk #[48, 49, 50, 51, 52, 53, 47, 49, 48, 51, 50, 53, 52, 47, 50, 52, 53, 48, 49, 51, 47, 51, 53, 52, 49, 48, 50, 47, 52, 50, 48, 53, 51, 49, 47, 53, 51, 49, 52, 50, 48]))]) (4 * 1))) p0 (.own 65 (srcC A_s l_s.length c_s r1.2) 3)) p0 (.own 65 (srcC A_s l_s.length c_s r1.2) 3) (upd (upd (h) b1 (.own 37 (sqC sq0) 101)) b2 (.own 9 (strsC [((ByteArray.mk #[48, 49, 50, 51, 52, 47, 49, 48, 51, 52, 50, 47, 50, 52, 48, 49, 51, 47, 51, 50, 52, 48, 49, 47, 52, 51, 49, 50, 48])), ((ByteArray.mk #[48, 49, 50, 51, 52, 53, 47, 49, 50, 48, 52, 53, 51, 47, 50, 48, 49, 53, 51, 52, 47, 51, 53, 52, 48, 50, 49, 47, 52, 51, 53, 49, 48, 50, 47, 53, 52, 51, 50, 49, 48])), ((ByteArray.mk (List.toArray (List.append [48, 49, 50, 51, 52, 53, 54, 55, 47, 49, 50, 51, 48, 53, 54, 55, 52, 47, 50, 51, 48, 49, 54, 55, 52, 53, 47, 51, 48, 49, 50, 55, 52, 53, 54] [47, 52, 55, 54, 53, 48, 51, 50, 49, 47, 53, 52, 55, 54, 49, 48, 51, 50, 47, 54, 53, 52, 55, 50, 49, 48, 51, 47, 55, 54, 53, 52, 51, 50, 49, 48])))), ((ByteArray.mk #[48, 49, 50, 51, 52, 53, 47, 49, 48, 51, 50, 53, 52, 47, 50, 52, 53, 48, 49, 51, 47, 51, 53, 52, 49, 48, 50, 47, 52, 50, 48, 53, 51, 49, 47, 53, 51, 49, 52, 50, 48]))]) (4 * 1))) := (Del.here (none_upd n_b2_p0.ne.symm (none_upd n_b1_p0.ne.symm h_p0)))
   refine Ops_call _ _ rfl rfl (EO.fn rfl Try.func27 rfl rfl (Evs.cons rfl (Evs.cons rfl Evs.nil))) (CC.mono (CC.atLe (c_spec_l01Next (h := upd (upd (h) b1 (.own 37 (sqC sq0) 101)) b2 (.own 9 (strsC [((ByteArray.mk #[48, 49, 50, 51, 52, 47, 49, 48, 51, 52, 50, 47, 50, 52, 48, 49, 51, 47, 51, 50, 52, 48, 49, 47, 52, 51, 49, 50, 48])), ((ByteArray.mk #[48, 49, 50, 51, 52, 53, 47, 49, 50, 48, 52, 53, 51, 47, 50, 48, 49, 53, 51, 52, 47, 51, 53, 52, 48, 50, 49, 47, 52, 51, 53, 49, 48, 50, 47, 53, 52, 51, 50, 49, 48])), ((ByteArray.mk (List.toArray (List.append [48, 49, 50, 51, 52, 53, 54, 55, 47, 49, 50, 51, 48, 53, 54, 55, 52, 47, 50, 51, 48, 49, 54, 55, 52, 53, 47, 51, 48, 49, 50, 55, 52, 53, 54] [47, 52, 55, 54, 53, 48, 51, 50, 49, 47, 53, 52, 55, 54, 49, 48, 51, 50, 47, 54, 53, 52, 55, 50, 49, 48, 51, 47, 55, 54, 53, 52, 51, 50, 49, 48])))), ((ByteArray.mk #[48, 49, 50, 51, 52, 53, 47, 49, 48, 51, 50, 53, 52, 47, 50, 52, 53, 48, 49, 51, 47, 51, 53, 52, 49, 48, 50, 47, 52, 50, 48, 53, 51, 49, 47, 53, 51, 49, 52, 50, 48]))]) (4 * 1))) hr10 (RdS.le hs_s (Le.under (Le.under (Le.refl _) hb1) hb2)) hd7.none) hd7.le) ?_)
   rintro _ _ ⟨rfl, rfl⟩
   have hq := Option.bind_eq_some_iff.1 hm; clear hm; obtain ⟨r11, hr11, hm⟩ := hq
   refine Ops_call _ _ rfl rfl (EO.fn rfl Try.func51 rfl rfl (Evs.cons rfl Evs.nil)) (QC.cc (c_spec_l01Elementary hr11 ) ?_)
   refine Ops_loud rfl (LO.storeAll (cs := sqC r11) rfl sz37 rfl rfl (sqC_one _) (sqC_length _) ((upd_ne _ _ n_b1_p0.ne).trans ((upd_ne _ _ n_b2_b1.ne.symm).trans (upd_same _ _ _))) (sqC_length _) (Chg.there n_b1_p0.ne.symm (Chg.there n_b2_b1.ne Chg.here)) rfl ?_)
   refine Ops_nil ?_
   refine thenA_n ?_
   refine wpA_ret ?_
   refine blockA_r ?_
   refine thenA_r ?_
   obtain rfl := Option.some.inj hm
   exact retA_r (h2 := upd (h) p0 (.own 65 (srcC A_s l_s.length c_s r10.2) 3)) (Res.one rfl (res1.row (cs := sqC r11) (hr := (rdAll ((upd_ne _ _ n_b1_p0.ne).trans ((upd_ne _ _ n_b2_b1.ne.symm).trans (upd_same _ _ _))))) sz37 rfl rfl (sqC_length _))) (Le.upd_left (Le.under (Le.under (Le.under (Le.refl _) hb1) hb2) h_p0) (upd_same _ _ _) (by first | rfl | (simp; done))) ⟨rfl, rfl⟩
  ·replace hm := cond_f hm g3
   refine wpA_seq ?_
   refine wpA_region ?_
   refine Ops_quiet _ rfl rfl (QO.bin rfl rfl rfl rfl) ?_
   refine Ops_quiet _ rfl rfl (QO.assign rfl rfl) ?_
   refine Ops_nil ?_
   refine thenA_n ?_
   refine wpA_cond rfl (fun g4 => ?_) (fun g4 => ?_)
   ·replace hm := cond_t hm g4
    refine wpA_seq ?_
    refine wpA_region ?_
    refine Ops_quiet _ rfl rfl (QO.move rfl rfl) ?_
    have hq := Option.bind_eq_some_iff.1 hm; clear hm; obtain ⟨r12, hr12, hm⟩ := hq
    have hd8 : Del (upd (upd (upd (h) b1 (.own 37 (sqC sq0) 101)) b2 (.own 9 (strsC [((ByteArray.mk #[48, 49, 50, 51, 52, 47, 49, 48, 51, 52, 50, 47, 50, 52, 48, 49, 51, 47, 51, 50, 52, 48, 49, 47, 52, 51, 49, 50, 48])), ((ByteArray.mk #[48, 49, 50, 51, 52, 53, 47, 49, 50, 48, 52, 53, 51, 47, 50, 48, 49, 53, 51, 52, 47, 51, 53, 52, 48, 50, 49, 47, 52, 51, 53, 49, 48, 50, 47, 53, 52, 51, 50, 49, 48])), ((ByteArray.mk (List.toArray (List.append [48, 49, 50, 51, 52, 53, 54, 55, 47, 49, 50, 51, 48, 53, 54, 55, 52, 47, 50, 51, 48, 49, 54, 55, 52, 53, 47, 51, 48, 49, 50, 55, 52, 53, 54] [47, 52, 55, 54, 53, 48, 51, 50, 49, 47, 53, 52, 55, 54, 49, 48, 51, 50, 47, 54, 53, 52, 55, 50, 49, 48, 51, 47, 55, 54, 53, 52, 51, 50, 49, 48])))), ((ByteArray.mk #[48, 49, 50, 51, 52, 53, 47, 49, 48, 51, 50, 53, 52, 47, 50, 52, 53, 48, 49, 51, 47, 51, 53, 52, 49, 48, 50, 47, 52, 50, 48, 53, 51, 49, 47, 53, 51, 49, 52, 50, 48]))]) (4 * 1))) p0 (.own 65 (srcC A_s l_s.length c_s r1.2) 3)) p0 (.own 65 (srcC A_s l_s.length c_s r1.2) 3) (upd (upd (h) b1 (.own 37 (sqC sq0) 101)) b2 (.own 9 (strsC [((ByteArray.mk #[48, 49, 50, 51, 52, 47, 49, 48, 51, 52, 50, 47, 50, 52, 48, 49, 51, 47, 51, 50, 52, 48, 49, 47, 52, 51, 49, 50, 48])), ((ByteArray.mk #[48, 49, 50, 51, 52, 53, 47, 49, 50, 48, 52, 53, 51, 47, 50, 48, 49, 53, 51, 52, 47, 51, 53, 52, 48, 50, 49, 47, 52, 51, 53, 49, 48, 50, 47, 53, 52, 51, 50, 49, 48])), ((ByteArray.mk (List.toArray (List.append [48, 49, 50, 51, 52, 53, 54, 55, 47, 49, 50, 51, 48, 53, 54, 55, 52, 47, 50, 51, 48, 49, 54, 55, 52, 53, 47, 51, 48, 49, 50, 55, 52, 53, 54] [47, 52, 55, 54, 53, 48, 51, 50, 49, 47, 53, 52, 55, 54, 49, 48, 51, 50, 47, 54, 53, 52, 55, 50, 49, 48, 51, 47, 55, 54, 53, 52, 51, 50, 49, 48])))), ((ByteArray.mk #[48, 49, 50, 51, 52, 53, 47, 49, 48, 51, 50, 53, 52, 47, 50, 52, 53, 48, 49, 51, 47, 51, 53, 52, 49, 48, 50, 47, 52, 50, 48, 53, 51, 49, 47, 53, 51, 49, 52, 50, 48]))]) (4 * 1))) := (Del.here (none_upd n_b2_p0.ne.symm (none_upd n_b1_p0.ne.symm h_p0)))
    refine Ops_call _ _ rfl rfl (EO.fn rfl Try.func27 rfl rfl (Evs.cons rfl (Evs.cons rfl Evs.nil))) (CC.mono (CC.atLe (c_spec_l01Next (h := upd (upd (h) b1 (.own 37 (sqC sq0) 101)) b2 (.own 9 (strsC [((ByteArray.mk #[48, 49, 50, 51, 52, 47, 49, 48, 51, 52, 50, 47, 50, 52, 48, 49, 51, 47, 51, 50, 52, 48, 49, 47, 52, 51, 49, 50, 48])), ((ByteArray.mk #[48, 49, 50, 51, 52, 53, 47, 49, 50, 48, 52, 53, 51, 47, 50, 48, 49, 53, 51, 52, 47, 51, 53, 52, 48, 50, 49, 47, 52, 51, 53, 49, 48, 50, 47, 53, 52, 51, 50, 49, 48])), ((ByteArray.mk (List.toArray (List.append [48, 49, 50, 51, 52, 53, 54, 55, 47, 49, 50, 51, 48, 53, 54, 55, 52, 47, 50, 51, 48, 49, 54, 55, 52, 53, 47, 51, 48, 49, 50, 55, 52, 53, 54] [47, 52, 55, 54, 53, 48, 51, 50, 49, 47, 53, 52, 55, 54, 49, 48, 51, 50, 47, 54, 53, 52, 55, 50, 49, 48, 51, 47, 55, 54, 53, 52, 51, 50, 49, 48])))), ((ByteArray.mk #[48, 49, 50, 51, 52, 53, 47, 49, 48, 51, 50, 53, 52, 47, 50, 52, 53, 48, 49, 51, 47, 51, 53, 52, 49, 48, 50, 47, 52, 50, 48, 53, 51, 49, 47, 53, 51, 49, 52, 50, 48]))]) (4 * 1))) hr12 (RdS.le hs_s (Le.under (Le.under (Le.refl _) hb1) hb2)) hd8.none) hd8.le) ?_)
    rintro _ _ ⟨rfl, rfl⟩
    refine Ops_quiet _ rfl rfl (QO.bin rfl rfl rfl rfl) ?_
    have hq := Option.bind_eq_some_iff.1 hm; clear hm; obtain ⟨r13, hr13, hm⟩ := hq
    refine Ops_call _ _ rfl rfl (EO.fn rfl Try.func39 rfl rfl (Evs.cons rfl Evs.nil)) (QC.cc (c_spec_l01Cyclic hr13 ) ?_)
    refine Ops_quiet _ rfl rfl (QO.move rfl rfl) ?_
    have hq := Option.bind_eq_some_iff.1 hm; clear hm; obtain ⟨r14, hr14, hm⟩ := hq
    have hd9 : Del (upd (upd (upd (h) b1 (.own 37 (sqC sq0) 101)) b2 (.own 9 (strsC [((ByteArray.mk #[48, 49, 50, 51, 52, 47, 49, 48, 51, 52, 50, 47, 50, 52, 48, 49, 51, 47, 51, 50, 52, 48, 49, 47, 52, 51, 49, 50, 48])), ((ByteArray.mk #[48, 49, 50, 51, 52, 53, 47, 49, 50, 48, 52, 53, 51, 47, 50, 48, 49, 53, 51, 52, 47, 51, 53, 52, 48, 50, 49, 47, 52, 51, 53, 49, 48, 50, 47, 53, 52, 51, 50, 49, 48])), ((ByteArray.mk (List.toArray (List.append [48, 49, 50, 51, 52, 53, 54, 55, 47, 49, 50, 51, 48, 53, 54, 55, 52, 47, 50, 51, 48, 49, 54, 55, 52, 53, 47, 51, 48, 49, 50, 55, 52, 53, 54] [47, 52, 55, 54, 53, 48, 51, 50, 49, 47, 53, 52, 55, 54, 49, 48, 51, 50, 47, 54, 53, 52, 55, 50, 49, 48, 51, 47, 55, 54, 53, 52, 51, 50, 49, 48])))), ((ByteArray.mk #[48, 49, 50, 51, 52, 53, 47, 49, 48, 51, 50, 53, 52, 47, 50, 52, 53, 48, 49, 51, 47, 51, 53, 52, 49, 48, 50, 47, 52, 50, 48, 53, 51, 49, 47, 53, 51, 49, 52, 50, 48]))]) (4 * 1))) p0 (.own 65 (srcC A_s l_s.length c_s r12.2) 3)) p0 (.own 65 (srcC A_s l_s.length c_s r12.2) 3) (upd (upd (h) b1 (.own 37 (sqC sq0) 101)) b2 (.own 9 (strsC [((ByteArray.mk #[48, 49, 50, 51, 52, 47, 49, 48, 51, 52, 50, 47, 50, 52, 48, 49, 51, 47, 51, 50, 52, 48, 49, 47, 52, 51, 49, 50, 48])), ((ByteArray.mk #[48, 49, 50, 51, 52, 53, 47, 49, 50, 48, 52, 53, 51, 47, 50, 48, 49, 53, 51, 52, 47, 51, 53, 52, 48, 50, 49, 47, 52, 51, 53, 49, 48, 50, 47, 53, 52, 51, 50, 49, 48])), ((ByteArray.mk (List.toArray (List.append [48, 49, 50, 51, 52, 53, 54, 55, 47, 49, 50, 51, 48, 53, 54, 55, 52, 47, 50, 51, 48, 49, 54, 55, 52, 53, 47, 51, 48, 49, 50, 55, 52, 53, 54] [47, 52, 55, 54, 53, 48, 51, 50, 49, 47, 53, 52, 55, 54, 49, 48, 51, 50, 47, 54, 53, 52, 55, 50, 49, 48, 51, 47, 55, 54, 53, 52, 51, 50, 49, 48])))), ((ByteArray.mk #[48, 49, 50, 51, 52, 53, 47, 49, 48, 51, 50, 53, 52, 47, 50, 52, 53, 48, 49, 51, 47, 51, 53, 52, 49, 48, 50, 47, 52, 50, 48, 53, 51, 49, 47, 53, 51, 49, 52, 50, 48]))]) (4 * 1))) := (Del.here (none_upd n_b2_p0.ne.symm (none_upd n_b1_p0.ne.symm h_p0)))
    refine Ops_call _ _ rfl rfl (EO.fn rfl Try.func27 rfl rfl (Evs.cons rfl (Evs.cons rfl Evs.nil))) (CC.mono (CC.atLe (c_spec_l01Next (h := upd (upd (h) b1 (.own 37 (sqC sq0) 101)) b2 (.own 9 (strsC [((ByteArray.mk #[48, 49, 50, 51, 52, 47, 49, 48, 51, 52, 50, 47, 50, 52, 48, 49, 51, 47, 51, 50, 52, 48, 49, 47, 52, 51, 49, 50, 48])), ((ByteArray.mk #[48, 49, 50, 51, 52, 53, 47, 49, 50, 48, 52, 53, 51, 47, 50, 48, 49, 53, 51, 52, 47, 51, 53, 52, 48, 50, 49, 47, 52, 51, 53, 49, 48, 50, 47, 53, 52, 51, 50, 49, 48])), ((ByteArray.mk (List.toArray (List.append [48, 49, 50, 51, 52, 53, 54, 55, 47, 49, 50, 51, 48, 53, 54, 55, 52, 47, 50, 51, 48, 49, 54, 55, 52, 53, 47, 51, 48, 49, 50, 55, 52, 53, 54] [47, 52, 55, 54, 53, 48, 51, 50, 49, 47, 53, 52, 55, 54, 49, 48, 51, 50, 47, 54, 53, 52, 55, 50, 49, 48, 51, 47, 55, 54, 53, 52, 51, 50, 49, 48])))), ((ByteArray.mk #[48, 49, 50, 51, 52, 53, 47, 49, 48, 51, 50, 53, 52, 47, 50, 52, 53, 48, 49, 51, 47, 51, 53, 52, 49, 48, 50, 47, 52, 50, 48, 53, 51, 49, 47, 53, 51, 49, 52, 50, 48]))]) (4 * 1))) hr14 (RdS.le hs_s (Le.under (Le.under (Le.refl _) hb1) hb2)) hd9.none) hd9.le) ?_)
    rintro _ _ ⟨rfl, rfl⟩
    refine Ops_quiet _ rfl rfl (QO.bin rfl rfl rfl rfl) ?_
    have hq := Option.bind_eq_some_iff.1 hm; clear hm; obtain ⟨r15, hr15, hm⟩ := hq
    refine Ops_call _ _ rfl rfl (EO.fn rfl Try.func39 rfl rfl (Evs.cons rfl Evs.nil)) (QC.cc (c_spec_l01Cyclic hr15 ) ?_)
    have hq := Option.bind_eq_some_iff.1 hm; clear hm; obtain ⟨r16, hr16, hm⟩ := hq
    refine Ops_call _ _ rfl rfl (EO.fn rfl Try.func43 rfl rfl (Evs.cons rfl (Evs.cons rfl Evs.nil))) (QC.cc (c_spec_l01Direct hr16 ) ?_)
    refine Ops_loud rfl (LO.storeAll (cs := sqC r16) rfl sz37 rfl rfl (sqC_one _) (sqC_length _) ((upd_ne _ _ n_b1_p0.ne).trans ((upd_ne _ _ n_b2_b1.ne.symm).trans (upd_same _ _ _))) (sqC_length _) (Chg.there n_b1_p0.ne.symm (Chg.there n_b2_b1.ne Chg.here)) rfl ?_)
    refine Ops_nil ?_
    refine thenA_n ?_
    refine wpA_ret ?_
    refine blockA_r ?_
    refine thenA_r ?_
    obtain rfl := Option.some.inj hm
    exact retA_r (h2 := upd (h) p0 (.own 65 (srcC A_s l_s.length c_s r14.2) 3)) (Res.one rfl (res1.row (cs := sqC r16) (hr := (rdAll ((upd_ne _ _ n_b1_p0.ne).trans ((upd_ne _ _ n_b2_b1.ne.symm).trans (upd_same _ _ _))))) sz37 rfl rfl (sqC_length _))) (Le.upd_left (Le.under (Le.under (Le.under (Le.refl _) hb1) hb2) h_p0) (upd_same _ _ _) (by first | rfl | (simp; done))) ⟨rfl, rfl⟩
   ·replace hm := cond_f hm g4
    refine wpA_skip ?_
    refine blockA_n ?_
    refine thenA_n ?_
    refine wpA_seq ?_
    refine wpA_region ?_
    refine Ops_quiet _ rfl rfl (QO.move rfl rfl) ?_
    refine Ops_quiet _ rfl rfl (QO.move rfl rfl) ?_
    have hq := Option.bind_eq_some_iff.1 hm; clear hm; obtain ⟨r17, hr17, hm⟩ := hq
    have hd10 : Del (upd (upd (upd (h) b1 (.own 37 (sqC sq0) 101)) b2 (.own 9 (strsC [((ByteArray.mk #[48, 49, 50, 51, 52, 47, 49, 48, 51, 52, 50, 47, 50, 52, 48, 49, 51, 47, 51, 50, 52, 48, 49, 47, 52, 51, 49, 50, 48])), ((ByteArray.mk #[48, 49, 50, 51, 52, 53, 47, 49, 50, 48, 52, 53, 51, 47, 50, 48, 49, 53, 51, 52, 47, 51, 53, 52, 48, 50, 49, 47, 52, 51, 53, 49, 48, 50, 47, 53, 52, 51, 50, 49, 48])), ((ByteArray.mk (List.toArray (List.append [48, 49, 50, 51, 52, 53, 54, 55, 47, 49, 50, 51, 48, 53, 54, 55, 52, 47, 50, 51, 48, 49, 54, 55, 52, 53, 47, 51, 48, 49, 50, 55, 52, 53, 54] [47, 52, 55, 54, 53, 48, 51, 50, 49, 47, 53, 52, 55, 54, 49, 48, 51, 50, 47, 54, 53, 52, 55, 50, 49, 48, 51, 47, 55, 54, 53, 52, 51, 50, 49, 48])))), ((ByteArray.mk #[48, 49, 50, 51, 52, 53, 47, 49, 48, 51, 50, 53, 52, 47, 50, 52, 53, 48, 49, 51, 47, 51, 53, 52, 49, 48, 50, 47, 52, 50, 48, 53, 51, 49, 47, 53, 51, 49, 52, 50, 48]))]) (4 * 1))) p0 (.own 65 (srcC A_s l_s.length c_s r1.2) 3)) p0 (.own 65 (srcC A_s l_s.length c_s r1.2) 3) (upd (upd (h) b1 (.own 37 (sqC sq0) 101)) b2 (.own 9 (strsC [((ByteArray.mk #[48, 49, 50, 51, 52, 47, 49, 48, 51, 52, 50, 47, 50, 52, 48, 49, 51, 47, 51, 50, 52, 48, 49, 47, 52, 51, 49, 50, 48])), ((ByteArray.mk #[48, 49, 50, 51, 52, 53, 47, 49, 50, 48, 52, 53, 51, 47, 50, 48, 49, 53, 51, 52, 47, 51, 53, 52, 48, 50, 49, 47, 52, 51, 53, 49, 48, 50, 47, 53, 52, 51, 50, 49, 48])), ((ByteArray.mk (List.toArray (List.append [48, 49, 50, 51, 52, 53, 54, 55, 47, 49, 50, 51, 48, 53, 54, 55, 52, 47, 50, 51, 48, 49, 54, 55, 52, 53, 47, 51, 48, 49, 50, 55, 52, 53, 54] [47, 52, 55, 54, 53, 48, 51, 50, 49, 47, 53, 52, 55, 54, 49, 48, 51, 50, 47, 54, 53, 52, 55, 50, 49, 48, 51, 47, 55, 54, 53, 52, 51, 50, 49, 48])))), ((ByteArray.mk #[48, 49, 50, 51, 52, 53, 47, 49, 48, 51, 50, 53, 52, 47, 50, 52, 53, 48, 49, 51, 47, 51, 53, 52, 49, 48, 50, 47, 52, 50, 48, 53, 51, 49, 47, 53, 51, 49, 52, 50, 48]))]) (4 * 1))) := (Del.here (none_upd n_b2_p0.ne.symm (none_upd n_b1_p0.ne.symm h_p0)))
    refine Ops_call _ _ rfl rfl (EO.fn rfl Try.func27 rfl rfl (Evs.cons rfl (Evs.cons rfl Evs.nil))) (CC.mono (CC.atLe (c_spec_l01Next (h := upd (upd (h) b1 (.own 37 (sqC sq0) 101)) b2 (.own 9 (strsC [((ByteArray.mk #[48, 49, 50, 51, 52, 47, 49, 48, 51, 52, 50, 47, 50, 52, 48, 49, 51, 47, 51, 50, 52, 48, 49, 47, 52, 51, 49, 50, 48])), ((ByteArray.mk #[48, 49, 50, 51, 52, 53, 47, 49, 50, 48, 52, 53, 51, 47, 50, 48, 49, 53, 51, 52, 47, 51, 53, 52, 48, 50, 49, 47, 52, 51, 53, 49, 48, 50, 47, 53, 52, 51, 50, 49, 48])), ((ByteArray.mk (List.toArray (List.append [48, 49, 50, 51, 52, 53, 54, 55, 47, 49, 50, 51, 48, 53, 54, 55, 52, 47, 50, 51, 48, 49, 54, 55, 52, 53, 47, 51, 48, 49, 50, 55, 52, 53, 54] [47, 52, 55, 54, 53, 48, 51, 50, 49, 47, 53, 52, 55, 54, 49, 48, 51, 50, 47, 54, 53, 52, 55, 50, 49, 48, 51, 47, 55, 54, 53, 52, 51, 50, 49, 48])))), ((ByteArray.mk #[48, 49, 50, 51, 52, 53, 47, 49, 48, 51, 50, 53, 52, 47, 50, 52, 53, 48, 49, 51, 47, 51, 53, 52, 49, 48, 50, 47, 52, 50, 48, 53, 51, 49, 47, 53, 51, 49, 52, 50, 48]))]) (4 * 1))) hr17 (RdS.le hs_s (Le.under (Le.under (Le.refl _) hb1) hb2)) hd10.none) hd10.le) ?_)
    rintro _ _ ⟨rfl, rfl⟩
    refine Ops_quiet _ rfl rfl (QO.move rfl rfl) ?_
    have hq := Option.bind_eq_some_iff.1 hm; clear hm; obtain ⟨r18, hr18, hm⟩ := hq
    have hd11 : Del (upd (upd (upd (h) b1 (.own 37 (sqC sq0) 101)) b2 (.own 9 (strsC [((ByteArray.mk #[48, 49, 50, 51, 52, 47, 49, 48, 51, 52, 50, 47, 50, 52, 48, 49, 51, 47, 51, 50, 52, 48, 49, 47, 52, 51, 49, 50, 48])), ((ByteArray.mk #[48, 49, 50, 51, 52, 53, 47, 49, 50, 48, 52, 53, 51, 47, 50, 48, 49, 53, 51, 52, 47, 51, 53, 52, 48, 50, 49, 47, 52, 51, 53, 49, 48, 50, 47, 53, 52, 51, 50, 49, 48])), ((ByteArray.mk (List.toArray (List.append [48, 49, 50, 51, 52, 53, 54, 55, 47, 49, 50, 51, 48, 53, 54, 55, 52, 47, 50, 51, 48, 49, 54, 55, 52, 53, 47, 51, 48, 49, 50, 55, 52, 53, 54] [47, 52, 55, 54, 53, 48, 51, 50, 49, 47, 53, 52, 55, 54, 49, 48, 51, 50, 47, 54, 53, 52, 55, 50, 49, 48, 51, 47, 55, 54, 53, 52, 51, 50, 49, 48])))), ((ByteArray.mk #[48, 49, 50, 51, 52, 53, 47, 49, 48, 51, 50, 53, 52, 47, 50, 52, 53, 48, 49, 51, 47, 51, 53, 52, 49, 48, 50, 47, 52, 50, 48, 53, 51, 49, 47, 53, 51, 49, 52, 50, 48]))]) (4 * 1))) p0 (.own 65 (srcC A_s l_s.length c_s r17.2) 3)) p0 (.own 65 (srcC A_s l_s.length c_s r17.2) 3) (upd (upd (h) b1 (.own 37 (sqC sq0) 101)) b2 (.own 9 (strsC [((ByteArray.mk #[48, 49, 50, 51, 52, 47, 49, 48, 51, 52, 50, 47, 50, 52, 48, 49, 51, 47, 51, 50, 52, 48, 49, 47, 52, 51, 49, 50, 48])), ((ByteArray.mk #[48, 49, 50, 51, 52, 53, 47, 49, 50, 48, 52, 53, 51, 47, 50, 48, 49, 53, 51, 52, 47, 51, 53, 52, 48, 50, 49, 47, 52, 51, 53, 49, 48, 50, 47, 53, 52, 51, 50, 49, 48])), ((ByteArray.mk (List.toArray (List.append [48, 49, 50, 51, 52, 53, 54, 55, 47, 49, 50, 51, 48, 53, 54, 55, 52, 47, 50, 51, 48, 49, 54, 55, 52, 53, 47, 51, 48, 49, 50, 55, 52, 53, 54] [47, 52, 55, 54, 53, 48, 51, 50, 49, 47, 53, 52, 55, 54, 49, 48, 51, 50, 47, 54, 53, 52, 55, 50, 49, 48, 51, 47, 55, 54, 53, 52, 51, 50, 49, 48])))), ((ByteArray.mk #[48, 49, 50, 51, 52, 53, 47, 49, 48, 51, 50, 53, 52, 47, 50, 52, 53, 48, 49, 51, 47, 51, 53, 52, 49, 48, 50, 47, 52, 50, 48, 53, 51, 49, 47, 53, 51, 49, 52, 50, 48]))]) (4 * 1))) := (Del.here (none_upd n_b2_p0.ne.symm (none_upd n_b1_p0.ne.symm h_p0)))
    refine Ops_call _ _ rfl rfl (EO.fn rfl Try.func27 rfl rfl (Evs.cons rfl (Evs.cons rfl Evs.nil))) (CC.mono (CC.atLe (c_spec_l01Next (h := upd (upd (h) b1 (.own 37 (sqC sq0) 101)) b2 (.own 9 (strsC [((ByteArray.mk #[48, 49, 50, 51, 52, 47, 49, 48, 51, 52, 50, 47, 50, 52, 48, 49, 51, 47, 51, 50, 52, 48, 49, 47, 52, 51, 49, 50, 48])), ((ByteArray.mk #[48, 49, 50, 51, 52, 53, 47, 49, 50, 48, 52, 53, 51, 47, 50, 48, 49, 53, 51, 52, 47, 51, 53, 52, 48, 50, 49, 47, 52, 51, 53, 49, 48, 50, 47, 53, 52, 51, 50, 49, 48])), ((ByteArray.mk (List.toArray (List.append [48, 49, 50, 51, 52, 53, 54, 55, 47, 49, 50, 51, 48, 53, 54, 55, 52, 47, 50, 51, 48, 49, 54, 55, 52, 53, 47, 51, 48, 49, 50, 55, 52, 53, 54] [47, 52, 55, 54, 53, 48, 51, 50, 49, 47, 53, 52, 55, 54, 49, 48, 51, 50, 47, 54, 53, 52, 55, 50, 49, 48, 51, 47, 55, 54, 53, 52, 51, 50, 49, 48])))), ((ByteArray.mk #[48, 49, 50, 51, 52, 53, 47, 49, 48, 51, 50, 53, 52, 47, 50, 52, 53, 48, 49, 51, 47, 51, 53, 52, 49, 48, 50, 47, 52, 50, 48, 53, 51, 49, 47, 53, 51, 49, 52, 50, 48]))]) (4 * 1))) hr18 (RdS.le hs_s (Le.under (Le.under (Le.refl _) hb1) hb2)) hd11.none) hd11.le) ?_)
    rintro _ _ ⟨rfl, rfl⟩
    refine Ops_quiet _ rfl rfl (QO.move rfl rfl) ?_
    have hq := Option.bind_eq_some_iff.1 hm; clear hm; obtain ⟨r19, hr19, hm⟩ := hq
    have hd12 : Del (upd (upd (upd (h) b1 (.own 37 (sqC sq0) 101)) b2 (.own 9 (strsC [((ByteArray.mk #[48, 49, 50, 51, 52, 47, 49, 48, 51, 52, 50, 47, 50, 52, 48, 49, 51, 47, 51, 50, 52, 48, 49, 47, 52, 51, 49, 50, 48])), ((ByteArray.mk #[48, 49, 50, 51, 52, 53, 47, 49, 50, 48, 52, 53, 51, 47, 50, 48, 49, 53, 51, 52, 47, 51, 53, 52, 48, 50, 49, 47, 52, 51, 53, 49, 48, 50, 47, 53, 52, 51, 50, 49, 48])), ((ByteArray.mk (List.toArray (List.append [48, 49, 50, 51, 52, 53, 54, 55, 47, 49, 50, 51, 48, 53, 54, 55, 52, 47, 50, 51, 48, 49, 54, 55, 52, 53, 47, 51, 48, 49, 50, 55, 52, 53, 54] [47, 52, 55, 54, 53, 48, 51, 50, 49, 47, 53, 52, 55, 54, 49, 48, 51, 50, 47, 54, 53, 52, 55, 50, 49, 48, 51, 47, 55, 54, 53, 52, 51, 50, 49, 48])))), ((ByteArray.mk #[48, 49, 50, 51, 52, 53, 47, 49, 48, 51, 50, 53, 52, 47, 50, 52, 53, 48, 49, 51, 47, 51, 53, 52, 49, 48, 50, 47, 52, 50, 48, 53, 51, 49, 47, 53, 51, 49, 52, 50, 48]))]) (4 * 1))) p0 (.own 65 (srcC A_s l_s.length c_s r18.2) 3)) p0 (.own 65 (srcC A_s l_s.length c_s r18.2) 3) (upd (upd (h) b1 (.own 37 (sqC sq0) 101)) b2 (.own 9 (strsC [((ByteArray.mk #[48, 49, 50, 51, 52, 47, 49, 48, 51, 52, 50, 47, 50, 52, 48, 49, 51, 47, 51, 50, 52, 48, 49, 47, 52, 51, 49, 50, 48])), ((ByteArray.mk #[48, 49, 50, 51, 52, 53, 47, 49, 50, 48, 52, 53, 51, 47, 50, 48, 49, 53, 51, 52, 47, 51, 53, 52, 48, 50, 49, 47, 52, 51, 53, 49, 48, 50, 47, 53, 52, 51, 50, 49, 48])), ((ByteArray.mk (List.toArray (List.append [48, 49, 50, 51, 52, 53, 54, 55, 47, 49, 50, 51, 48, 53, 54, 55, 52, 47, 50, 51, 48, 49, 54, 55, 52, 53, 47, 51, 48, 49, 50, 55, 52, 53, 54] [47, 52, 55, 54, 53, 48, 51, 50, 49, 47, 53, 52, 55, 54, 49, 48, 51, 50, 47, 54, 53, 52, 55, 50, 49, 48, 51, 47, 55, 54, 53, 52, 51, 50, 49, 48])))), ((ByteArray.mk #[48, 49, 50, 51, 52, 53, 47, 49, 48, 51, 50, 53, 52, 47, 50, 52, 53, 48, 49, 51, 47, 51, 53, 52, 49, 48, 50, 47, 52, 50, 48, 53, 51, 49, 47, 53, 51, 49, 52, 50, 48]))]) (4 * 1))) := (Del.here (none_upd n_b2_p0.ne.symm (none_upd n_b1_p0.ne.symm h_p0)))
    refine Ops_call _ _ rfl rfl (EO.fn rfl Try.func27 rfl rfl (Evs.cons rfl (Evs.cons rfl Evs.nil))) (CC.mono (CC.atLe (c_spec_l01Next (h := upd (upd (h) b1 (.own 37 (sqC sq0) 101)) b2 (.own 9 (strsC [((ByteArray.mk #[48, 49, 50, 51, 52, 47, 49, 48, 51, 52, 50, 47, 50, 52, 48, 49, 51, 47, 51, 50, 52, 48, 49, 47, 52, 51, 49, 50, 48])), ((ByteArray.mk #[48, 49, 50, 51, 52, 53, 47, 49, 50, 48, 52, 53, 51, 47, 50, 48, 49, 53, 51, 52, 47, 51, 53, 52, 48, 50, 49, 47, 52, 51, 53, 49, 48, 50, 47, 53, 52, 51, 50, 49, 48])), ((ByteArray.mk (List.toArray (List.append [48, 49, 50, 51, 52, 53, 54, 55, 47, 49, 50, 51, 48, 53, 54, 55, 52, 47, 50, 51, 48, 49, 54, 55, 52, 53, 47, 51, 48, 49, 50, 55, 52, 53, 54] [47, 52, 55, 54, 53, 48, 51, 50, 49, 47, 53, 52, 55, 54, 49, 48, 51, 50, 47, 54, 53, 52, 55, 50, 49, 48, 51, 47, 55, 54, 53, 52, 51, 50, 49, 48])))), ((ByteArray.mk #[48, 49, 50, 51, 52, 53, 47, 49, 48, 51, 50, 53, 52, 47, 50, 52, 53, 48, 49, 51, 47, 51, 53, 52, 49, 48, 50, 47, 52, 50, 48, 53, 51, 49, 47, 53, 51, 49, 52, 50, 48]))]) (4 * 1))) hr19 (RdS.le hs_s (Le.under (Le.under (Le.refl _) hb1) hb2)) hd12.none) hd12.le) ?_)
    rintro _ _ ⟨rfl, rfl⟩
    refine Ops_loud rfl (LO.slice' [(0, .int .i64 r17.1), (1, .int .i64 r18.1), (2, .int .i64 r19.1)] (r := ints .i64 [r17.1, r18.1, r19.1]) rfl sz70 sz2 zr2 (by first | rfl | (simp [sqC_length, tbC_length, tabI_length, tabB_length, ints_length, plsC_length, trC_length, sqsC_length, strsC_length, boolsC_length, tbB_length, List.length_append, List.length_cons, List.length_nil, List.length_set, List.length_replicate, rep_length]; done)) (by decide) (by decide) (by decide) rfl rfl (by first | rfl | (simp [sqC_length, tbC_length, tabI_length, tabB_length, ints_length, plsC_length, trC_length, sqsC_length, strsC_length, boolsC_length, tbB_length, List.length_append, List.length_cons, List.length_nil, List.length_set, List.length_replicate, rep_length]; done)) rfl (fun b5 hb5 => ?_))
    simp only [upd_noneA] at hb5
    obtain ⟨n_b5_p0, n_b5_b2, n_b5_b1, hb5⟩ := hb5
    have hq := Option.bind_eq_some_iff.1 hm; clear hm; obtain ⟨r20, hr20, hm⟩ := hq
    have hd13 : Del (upd (upd (upd (upd (h) b1 (.own 37 (sqC sq0) 101)) b2 (.own 9 (strsC [((ByteArray.mk #[48, 49, 50, 51, 52, 47, 49, 48, 51, 52, 50, 47, 50, 52, 48, 49, 51, 47, 51, 50, 52, 48, 49, 47, 52, 51, 49, 50, 48])), ((ByteArray.mk #[48, 49, 50, 51, 52, 53, 47, 49, 50, 48, 52, 53, 51, 47, 50, 48, 49, 53, 51, 52, 47, 51, 53, 52, 48, 50, 49, 47, 52, 51, 53, 49, 48, 50, 47, 53, 52, 51, 50, 49, 48])), ((ByteArray.mk (List.toArray (List.append [48, 49, 50, 51, 52, 53, 54, 55, 47, 49, 50, 51, 48, 53, 54, 55, 52, 47, 50, 51, 48, 49, 54, 55, 52, 53, 47, 51, 48, 49, 50, 55, 52, 53, 54] [47, 52, 55, 54, 53, 48, 51, 50, 49, 47, 53, 52, 55, 54, 49, 48, 51, 50, 47, 54, 53, 52, 55, 50, 49, 48, 51, 47, 55, 54, 53, 52, 51, 50, 49, 48])))), ((ByteArray.mk #[48, 49, 50, 51, 52, 53, 47, 49, 48, 51, 50, 53, 52, 47, 50, 52, 53, 48, 49, 51, 47, 51, 53, 52, 49, 48, 50, 47, 52, 50, 48, 53, 51, 49, 47, 53, 51, 49, 52, 50, 48]))]) (4 * 1))) p0 (.own 65 (srcC A_s l_s.length c_s r19.2) 3)) b5 (.own 2 (ints .i64 [r17.1, r18.1, r19.1]) (3 * 1))) p0 (.own 65 (srcC A_s l_s.length c_s r19.2) 3) (upd (upd (upd (h) b1 (.own 37 (sqC sq0) 101)) b2 (.own 9 (strsC [((ByteArray.mk #[48, 49, 50, 51, 52, 47, 49, 48, 51, 52, 50, 47, 50, 52, 48, 49, 51, 47, 51, 50, 52, 48, 49, 47, 52, 51, 49, 50, 48])), ((ByteArray.mk #[48, 49, 50, 51, 52, 53, 47, 49, 50, 48, 52, 53, 51, 47, 50, 48, 49, 53, 51, 52, 47, 51, 53, 52, 48, 50, 49, 47, 52, 51, 53, 49, 48, 50, 47, 53, 52, 51, 50, 49, 48])), ((ByteArray.mk (List.toArray (List.append [48, 49, 50, 51, 52, 53, 54, 55, 47, 49, 50, 51, 48, 53, 54, 55, 52, 47, 50, 51, 48, 49, 54, 55, 52, 53, 47, 51, 48, 49, 50, 55, 52, 53, 54] [47, 52, 55, 54, 53, 48, 51, 50, 49, 47, 53, 52, 55, 54, 49, 48, 51, 50, 47, 54, 53, 52, 55, 50, 49, 48, 51, 47, 55, 54, 53, 52, 51, 50, 49, 48])))), ((ByteArray.mk #[48, 49, 50, 51, 52, 53, 47, 49, 48, 51, 50, 53, 52, 47, 50, 52, 53, 48, 49, 51, 47, 51, 53, 52, 49, 48, 50, 47, 52, 50, 48, 53, 51, 49, 47, 53, 51, 49, 52, 50, 48]))]) (4 * 1))) b5 (.own 2 (ints .i64 [r17.1, r18.1, r19.1]) (3 * 1))) := (Del.there n_b5_p0.ne.symm (Del.here (none_upd n_b2_p0.ne.symm (none_upd n_b1_p0.ne.symm h_p0))))
    refine Ops_call _ _ rfl rfl (EO.fn rfl Try.func40 rfl rfl (Evs.cons rfl (Evs.cons rfl Evs.nil))) (CC.mono (CC.atLe (c_spec_l01Pick (l1 := [r17.1, r18.1, r19.1]) (A1 := some ⟨b5, 0, none⟩) (c1 := 3) (h := upd (upd (upd (h) b1 (.own 37 (sqC sq0) 101)) b2 (.own 9 (strsC [((ByteArray.mk #[48, 49, 50, 51, 52, 47, 49, 48, 51, 52, 50, 47, 50, 52, 48, 49, 51, 47, 51, 50, 52, 48, 49, 47, 52, 51, 49, 50, 48])), ((ByteArray.mk #[48, 49, 50, 51, 52, 53, 47, 49, 50, 48, 52, 53, 51, 47, 50, 48, 49, 53, 51, 52, 47, 51, 53, 52, 48, 50, 49, 47, 52, 51, 53, 49, 48, 50, 47, 53, 52, 51, 50, 49, 48])), ((ByteArray.mk (List.toArray (List.append [48, 49, 50, 51, 52, 53, 54, 55, 47, 49, 50, 51, 48, 53, 54, 55, 52, 47, 50, 51, 48, 49, 54, 55, 52, 53, 47, 51, 48, 49, 50, 55, 52, 53, 54] [47, 52, 55, 54, 53, 48, 51, 50, 49, 47, 53, 52, 55, 54, 49, 48, 51, 50, 47, 54, 53, 52, 55, 50, 49, 48, 51, 47, 55, 54, 53, 52, 51, 50, 49, 48])))), ((ByteArray.mk #[48, 49, 50, 51, 52, 53, 47, 49, 48, 51, 50, 53, 52, 47, 50, 52, 53, 48, 49, 51, 47, 51, 53, 52, 49, 48, 50, 47, 52, 50, 48, 53, 51, 49, 47, 53, 51, 49, 52, 50, 48]))]) (4 * 1))) b5 (.own 2 (ints .i64 [r17.1, r18.1, r19.1]) (3 * 1))) hr20 (RdS.le hs_s (Le.under (Le.under (Le.under (Le.refl _) hb1) hb2) hb5)) (RdS.own (upd_same _ _ _)) hd13.none) hd13.le) ?_)
    rintro _ _ ⟨rfl, rfl⟩
    refine Ops_quiet _ rfl rfl (QO.bin rfl rfl rfl rfl) ?_
    have hq := Option.bind_eq_some_iff.1 hm; clear hm; obtain ⟨r21, hr21, hm⟩ := hq
    refine Ops_call _ _ rfl rfl (EO.fn rfl Try.func39 rfl rfl (Evs.cons rfl Evs.nil)) (QC.cc (c_spec_l01Cyclic hr21 ) ?_)
    refine Ops_loud rfl (LO.storeAll (cs := sqC r21) rfl sz37 rfl rfl (sqC_one _) (sqC_length _) ((upd_ne _ _ n_b1_p0.ne).trans ((upd_ne _ _ n_b5_b1.ne.symm).trans ((upd_ne _ _ n_b2_b1.ne.symm).trans (upd_same _ _ _)))) (sqC_length _) (Chg.there n_b1_p0.ne.symm (Chg.there n_b5_b1.ne (Chg.there n_b2_b1.ne Chg.here))) rfl ?_)
    refine Ops_nil ?_
    refine thenA_n ?_
    refine wpA_ret ?_
    obtain rfl := Option.some.inj hm
    exact retA_r (h2 := upd (h) p0 (.own 65 (srcC A_s l_s.length c_s r20.2) 3)) (Res.one rfl (res1.row (cs := sqC r21) (hr := (rdAll ((upd_ne _ _ n_b1_p0.ne).trans ((upd_ne _ _ n_b5_b1.ne.symm).trans ((upd_ne _ _ n_b2_b1.ne.symm).trans (upd_same _ _ _)))))) sz37 rfl rfl (sqC_length _))) (Le.upd_left (Le.under (Le.under (Le.under (Le.under (Le.refl _) hb1) hb2) hb5) h_p0) (upd_same _ _ _) (by first | rfl | (simp; done))) ⟨rfl, rfl⟩

/-! loop.example/g01195/spec.l01Opposite -/
theorem c_spec_l01Opposite {a0 : Sq} {h : Hp} {r : Sq} (hm : m_spec_l01Opposite a0 = some r)  :
    QC Try.prog 62 #[.agg (sqC a0).toArray] h (.agg (sqC r).toArray) := by
 unfold m_spec_l01Opposite at hm
 refine CC.enter Try.func62 rfl Try.ntmps62 rfl ?_
 refine wpA_seq ?_
 refine wpA_region ?_
 refine Ops_loud rfl (LO.boxAgg rfl rfl rfl (fun b1 hb1 => ?_))
 refine Ops_loud rfl (LO.alloc rfl zr37 rfl (fun b2 hb2 => ?_))
 simp only [upd_noneA] at hb2
 obtain ⟨n_b2_b1, hb2⟩ := hb2
 refine Ops_nil ?_
 refine thenA_n ?_
 refine wpA_seq ?_
 refine wpA_any (upd (upd (h) b1 (.own 37 (sqC a0) 101)) b2 (.own 37 (sqC sq0) 101)) [6] [6] (by kernel_rfl) (by kernel_rfl) (DW.start ?_)
 refine DW.pure' 0 _ rfl (by kernel_rfl) rfl (fun _ => QO.fieldAt (fo := 0) rfl sz37 rfl rfl sz2 rfl rfl) ?_
 refine DW.read' 1 _ rfl (by kernel_rfl) rfl (QO.load rfl sz2 rfl rfl (by (refine (rd_own ((upd_ne _ _ n_b2_b1.ne.symm).trans (upd_same _ _ _)) _).trans ?_); exact rfl)) ?_
 refine DW.pure' 2 _ rfl (by kernel_rfl) rfl (fun _ => QO.fieldAt (fo := 1) rfl sz37 rfl rfl sz35 rfl rfl) ?_
 refine DW.read' 3 _ rfl (by kernel_rfl) rfl (QO.loadRow (cs := tbC a0.t) (hr := (rdSqTab ((upd_ne _ _ n_b2_b1.ne.symm).trans (upd_same _ _ _)))) rfl sz35 rfl rfl (tbC_length _)) ?_
 have hq := Option.bind_eq_some_iff.1 hm; clear hm; obtain ⟨r1, hr1, hm⟩ := hq
 refine DW.qcall' 4 _ _ _ rfl (by kernel_rfl) rfl (EO.fn rfl Try.func57 rfl rfl (Evs.cons rfl Evs.nil)) (c_spec_l01Turned hr1 ) ?_
 refine DW.pure' 5 _ rfl (by kernel_rfl) rfl (fun _ => QO.build2 rfl rfl rfl (bd37_0_1 a0.order r1)) ?_
 refine DW.loud 6 rfl (by kernel_rfl) rfl rfl (LO.storeAll (cs := sqC (⟨a0.order, r1⟩ : Sq)) rfl sz37 rfl rfl (sqC_one _) (sqC_length _) (upd_same _ _ _) (sqC_length _) Chg.here rfl ?_)
 refine ⟨(fun e => absurd e (by decide)), ?_⟩
 refine DW.done (by kernel_rfl) ?_ _
 refine thenA_n ?_
 refine wpA_ret ?_
 obtain rfl := Option.some.inj hm
 exact retA_r (h2 := h) (Res.one rfl (res1.row (cs := sqC (⟨a0.order, r1⟩ : Sq)) (hr := (rdAll (upd_same _ _ _))) sz37 rfl rfl (sqC_length _))) (Le.under (Le.under (Le.refl _) hb1) hb2) ⟨rfl, rfl⟩

/-! loop.example/g01195/spec.l01Switch -/
theorem c_spec_l01Switch {a0 : Sq} {a1 : Int} {a2 : Int} {a3 : Int} {h : Hp} {r : Sq} (hm : m_spec_l01Switch a0 a1 a2 a3 = some r)  :
    QC Try.prog 63 #[.agg (sqC a0).toArray, .int .u8 a1, .int .u8 a2, .int .u8 a3] h (.agg (sqC r).toArray) := by
 unfold m_spec_l01Switch at hm
 refine CC.enter Try.func63 rfl Try.ntmps63 rfl ?_
 refine wpA_seq ?_
 refine wpA_region ?_
 refine Ops_loud rfl (LO.boxAgg rfl rfl rfl (fun b1 hb1 => ?_))
 refine Ops_loud rfl (LO.alloc rfl zr37 rfl (fun b2 hb2 => ?_))
 simp only [upd_noneA] at hb2
 obtain ⟨n_b2_b1, hb2⟩ := hb2
 refine Ops_nil ?_
 refine thenA_n ?_
 refine wpA_seq ?_
 refine wpA_seq ?_
 refine wpA_region ?_
 refine Ops_quiet _ rfl rfl (QO.move rfl rfl) ?_
 refine Ops_quiet _ rfl rfl (QO.move rfl rfl) ?_
 refine Ops_quiet _ rfl rfl (QO.bin rfl rfl rfl rfl) ?_
 refine Ops_nil ?_
 refine thenA_n ?_
 refine wpA_cond rfl (fun g1 => ?_) (fun g1 => ?_)
 ·replace hm := cond_t hm g1
  refine wpA_seq ?_
  refine wpA_region ?_
  refine Ops_quiet _ rfl rfl (QO.loadRow (cs := sqC a0) (hr := (rdAll ((upd_ne _ _ n_b2_b1.ne.symm).trans (upd_same _ _ _)))) rfl sz37 rfl rfl (sqC_length _)) ?_
  refine Ops_loud rfl (LO.storeAll (cs := sqC a0) rfl sz37 rfl rfl (sqC_one _) (sqC_length _) (upd_same _ _ _) (sqC_length _) Chg.here rfl ?_)
  refine Ops_nil ?_
  refine thenA_n ?_
  refine wpA_ret ?_
  refine thenA_r ?_
  obtain rfl := Option.some.inj hm
  exact retA_r (h2 := h) (Res.one rfl (res1.row (cs := sqC a0) (hr := (rdAll (upd_same _ _ _))) sz37 rfl rfl (sqC_length _))) (Le.under (Le.under (Le.refl _) hb1) hb2) ⟨rfl, rfl⟩
 ·replace hm := cond_f hm g1
  refine wpA_skip ?_
  refine thenA_n ?_
  refine wpA_seq ?_
  refine wpA_region ?_
  refine Ops_quiet _ rfl rfl (QO.move rfl rfl) ?_
  refine Ops_quiet _ rfl rfl (QO.assign rfl rfl) ?_
  refine Ops_nil ?_
  refine thenA_n ?_
  refine wpA_block ?_
  obtain ⟨R1, hR, hm⟩ := Option.bind_eq_some_iff.1 hm
  obtain ⟨k1, hk1⟩ := loopV_some hR
  clear hR
  refine wpA_mono (Q := fun e s' h' => match (generalizing := false) R1 with | .stop x id => e = .exit id ∧ ∃ (x1 : Int) (x2 : Sq) (x3 : Sq), x = (x1, x2, x3) ∧ Sub s' [(1, .int .u8 a1), (2, .int .u8 a2), (4, .pointer (some ⟨b1, 0, none⟩)), (8, .pointer (some ⟨b2, 0, none⟩)), (9, .int .u8 x1)] ∧ Le (upd (upd (h) b1 (.own 37 (sqC x2) 101)) b2 (.own 37 (sqC x3) 101)) h' | .ret r => e = .ret ∧ Sub s' [(8, .pointer (some ⟨b2, 0, none⟩))] ∧ Le (upd (h) b2 (.own 37 (sqC r) 101)) h' | .next _ => False) ?_ ?_
  ·refine wpA_loop (fun k s' h' => ∃ (x1 : Int) (x2 : Sq) (x3 : Sq), loopW (m_spec_l01Switch_l0 a1 a2) k (x1, x2, x3) = some R1 ∧ Sub s' [(1, .int .u8 a1), (2, .int .u8 a2), (4, .pointer (some ⟨b1, 0, none⟩)), (8, .pointer (some ⟨b2, 0, none⟩)), (9, .int .u8 x1)] ∧ Le (upd (upd (h) b1 (.own 37 (sqC x2) 101)) b2 (.own 37 (sqC x3) 101)) h') (m := k1) ⟨a3, a0, sq0, hk1, (Sub.cons rfl (Sub.cons rfl (Sub.cons rfl (Sub.cons rfl (Sub.cons rfl Sub.nil))))), (Le.upd_left (Le.upd_left (Le.under (Le.under (Le.refl _) hb1) hb2) ((upd_ne _ _ n_b2_b1.ne.symm).trans (upd_same _ _ _)) (by first | rfl | (simp; done))) (upd_same _ _ _) (by first | rfl | (simp; done)))⟩ ?_
   rintro k1 s' h' ⟨x1, x2, x3, hk1, hsub, hle⟩
   refine wpA_weaken hsub.ok hle ?_
   clear hsub hle s' h'
   cases k1 with
   | zero => exact absurd hk1 (by simp [loopW])
   | succ k1 =>
    obtain ⟨o1, ho1, hk1⟩ := loopW_succ hk1
    unfold m_spec_l01Switch_l0 at ho1
    try dsimp only at ho1
    refine wpA_block ?_
    refine wpA_seq ?_
    refine wpA_region ?_
    refine Ops_quiet _ rfl rfl (QO.move rfl rfl) ?_
    refine Ops_quiet _ rfl rfl (QO.move rfl rfl) ?_
    refine Ops_quiet _ rfl rfl (QO.fieldAt (fo := 1) rfl sz37 rfl rfl sz35 rfl rfl) ?_
    have hq := chk ho1; clear ho1; obtain ⟨ck1, ho1⟩ := hq
    refine Ops_quiet _ rfl rfl (QO.idxArr rfl sz35 sz24 rfl rfl (by omega) (by omega)) ?_
    have hq := chk ho1; clear ho1; obtain ⟨ck2, ho1⟩ := hq
    refine Ops_quiet _ rfl rfl (QO.idxArr rfl sz24 sz5 rfl rfl (by omega) (by omega)) ?_
    refine Ops_quiet _ rfl rfl (QO.load rfl sz5 rfl rfl (by (refine (rd_own ((upd_ne _ _ n_b2_b1.ne.symm).trans (upd_same _ _ _)) _).trans ?_); exact sqC_get (by omega) (by omega))) ?_
    refine Ops_quiet _ rfl rfl (QO.assign rfl rfl) ?_
    refine Ops_nil ?_
    refine thenA_n ?_
    refine wpA_seq ?_
    refine wpA_any (upd (upd (h) b1 (.own 37 (sqC x2) 101)) b2 (.own 37 (sqC x3) 101)) [11] [11] (by kernel_rfl) (by kernel_rfl) (DW.start ?_)
    refine DW.pure' 0 _ rfl (by kernel_rfl) rfl (fun _ => QO.move rfl rfl) ?_
    refine DW.pure' 1 _ rfl (by kernel_rfl) rfl (fun _ => QO.move rfl rfl) ?_
    refine DW.pure' 2 _ rfl (by kernel_rfl) rfl (fun _ => QO.move rfl rfl) ?_
    refine DW.pure' 3 _ rfl (by kernel_rfl) rfl (fun _ => QO.move rfl rfl) ?_
    refine DW.pure' 4 _ rfl (by kernel_rfl) rfl (fun _ => QO.fieldAt (fo := 1) rfl sz37 rfl rfl sz35 rfl rfl) ?_
    have hq := chk ho1; clear ho1; obtain ⟨ck3, ho1⟩ := hq
    refine DW.pure' 5 _ rfl (by kernel_rfl) rfl (fun _ => QO.idxArr rfl sz35 sz24 rfl rfl (by omega) (by omega)) ?_
    have hq := chk ho1; clear ho1; obtain ⟨ck4, ho1⟩ := hq
    refine DW.pure' 6 _ rfl (by kernel_rfl) rfl (fun _ => QO.idxArr rfl sz24 sz5 rfl rfl (by omega) (by omega)) ?_
    refine DW.read' 7 _ rfl (by kernel_rfl) rfl (QO.load rfl sz5 rfl rfl (by (refine (rd_own ((upd_ne _ _ n_b2_b1.ne.symm).trans (upd_same _ _ _)) _).trans ?_); exact sqC_get (by omega) (by omega))) ?_
    refine DW.pure' 8 _ rfl (by kernel_rfl) rfl (fun _ => QO.fieldAt (fo := 1) rfl sz37 rfl rfl sz35 rfl rfl) ?_
    have hq := chk ho1; clear ho1; obtain ⟨ck5, ho1⟩ := hq
    refine DW.pure' 9 _ rfl (by kernel_rfl) rfl (fun _ => QO.idxArr rfl sz35 sz24 rfl rfl (by omega) (by omega)) ?_
    have hq := chk ho1; clear ho1; obtain ⟨ck6, ho1⟩ := hq
    refine DW.pure' 10 _ rfl (by kernel_rfl) rfl (fun _ => QO.idxArr rfl sz24 sz5 rfl rfl (by omega) (by omega)) ?_
    refine DW.loud 11 rfl (by kernel_rfl) rfl rfl (LO.store' (xs' := sqC (⟨x2.order, (tset x2.t (a1).toNat (x1).toNat (x2.t (a2).toNat (x1).toNat))⟩ : Sq)) rfl sz5 rfl rfl rfl ((upd_ne _ _ n_b2_b1.ne.symm).trans (upd_same _ _ _)) (by first | ((try simp only [sqC_length, tbC_length, tabI_length, tabB_length, ints_length, plsC_length, trC_length, sqsC_length, strsC_length, boolsC_length, tbB_length, List.length_append, List.length_cons, List.length_nil, List.length_set, List.length_replicate, rep_length]); first | omega | decide) | exact Nat.le_of_ble_eq_true rfl) (sqC_set (by omega) (by omega)) (Chg.there n_b2_b1.ne Chg.here) rfl ?_)
    refine ⟨(fun e => absurd e (by decide)), ?_⟩
    refine DW.done (by kernel_rfl) ?_ _
    refine thenA_n ?_
    refine wpA_seq ?_
    refine wpA_region ?_
    refine Ops_quiet _ rfl rfl (QO.move rfl rfl) ?_
    refine Ops_quiet _ rfl rfl (QO.move rfl rfl) ?_
    refine Ops_quiet _ rfl rfl (QO.move rfl rfl) ?_
    refine Ops_quiet _ rfl rfl (QO.fieldAt (fo := 1) rfl sz37 rfl rfl sz35 rfl rfl) ?_
    have hq := chk ho1; clear ho1; obtain ⟨ck7, ho1⟩ := hq
    refine Ops_quiet _ rfl rfl (QO.idxArr rfl sz35 sz24 rfl rfl (by omega) (by omega)) ?_
    have hq := chk ho1; clear ho1; obtain ⟨ck8, ho1⟩ := hq
    refine Ops_quiet _ rfl rfl (QO.idxArr rfl sz24 sz5 rfl rfl (by omega) (by omega)) ?_
    refine Ops_loud rfl (LO.store' (xs' := sqC (⟨((⟨x2.order, (tset x2.t (a1).toNat (x1).toNat (x2.t (a2).toNat (x1).toNat))⟩ : Sq)).order, (tset ((⟨x2.order, (tset x2.t (a1).toNat (x1).toNat (x2.t (a2).toNat (x1).toNat))⟩ : Sq)).t (a2).toNat (x1).toNat (x2.t (a1).toNat (x1).toNat))⟩ : Sq)) rfl sz5 rfl rfl rfl ((upd_ne _ _ n_b2_b1.ne.symm).trans (upd_same _ _ _)) (by first | ((try simp only [sqC_length, tbC_length, tabI_length, tabB_length, ints_length, plsC_length, trC_length, sqsC_length, strsC_length, boolsC_length, tbB_length, List.length_append, List.length_cons, List.length_nil, List.length_set, List.length_replicate, rep_length]); first | omega | decide) | exact Nat.le_of_ble_eq_true rfl) (sqC_set (by omega) (by omega)) (Chg.there n_b2_b1.ne Chg.here) rfl ?_)
    refine Ops_nil ?_
    refine thenA_n ?_
    refine wpA_seq ?_
    refine wpA_region ?_
    refine Ops_quiet _ rfl rfl (QO.assign rfl rfl) ?_
    refine Ops_nil ?_
    refine thenA_n ?_
    refine wpA_seq ?_
    refine wpA_block ?_
    obtain ⟨R2, hR, ho1⟩ := Option.bind_eq_some_iff.1 ho1
    obtain ⟨k2, hk2⟩ := loopV_some hR
    clear hR
    refine wpA_mono (Q := fun e s' h' => match (generalizing := false) R2 with | .stop x id => e = .exit id ∧ ∃ (x4 : Int) (x5 : Sq), x = (x4, x5) ∧ Sub s' [(1, .int .u8 a1), (2, .int .u8 a2), (4, .pointer (some ⟨b1, 0, none⟩)), (8, .pointer (some ⟨b2, 0, none⟩)), (9, .int .u8 x1), (11, .int .u8 x4)] ∧ Le (upd (upd (h) b1 (.own 37 (sqC (⟨((⟨x2.order, (tset x2.t (a1).toNat (x1).toNat (x2.t (a2).toNat (x1).toNat))⟩ : Sq)).order, (tset ((⟨x2.order, (tset x2.t (a1).toNat (x1).toNat (x2.t (a2).toNat (x1).toNat))⟩ : Sq)).t (a2).toNat (x1).toNat (x2.t (a1).toNat (x1).toNat))⟩ : Sq)) 101)) b2 (.own 37 (sqC x5) 101)) h' | .ret r => e = .ret ∧ Sub s' [(8, .pointer (some ⟨b2, 0, none⟩))] ∧ Le (upd (h) b2 (.own 37 (sqC r) 101)) h' | .next _ => False) ?_ ?_
    ·refine wpA_loop (fun k s' h' => ∃ (x4 : Int) (x5 : Sq), loopW (m_spec_l01Switch_l1 a1 a2 x1 x2) k (x4, x5) = some R2 ∧ Sub s' [(1, .int .u8 a1), (2, .int .u8 a2), (4, .pointer (some ⟨b1, 0, none⟩)), (8, .pointer (some ⟨b2, 0, none⟩)), (9, .int .u8 x1), (11, .int .u8 x4)] ∧ Le (upd (upd (h) b1 (.own 37 (sqC (⟨((⟨x2.order, (tset x2.t (a1).toNat (x1).toNat (x2.t (a2).toNat (x1).toNat))⟩ : Sq)).order, (tset ((⟨x2.order, (tset x2.t (a1).toNat (x1).toNat (x2.t (a2).toNat (x1).toNat))⟩ : Sq)).t (a2).toNat (x1).toNat (x2.t (a1).toNat (x1).toNat))⟩ : Sq)) 101)) b2 (.own 37 (sqC x5) 101)) h') (m := k2) ⟨0, x3, hk2, (Sub.cons rfl (Sub.cons rfl (Sub.cons rfl (Sub.cons rfl (Sub.cons rfl (Sub.cons rfl Sub.nil)))))), (Le.upd_left (Le.upd_left (Le.under (Le.under (Le.refl _) hb1) hb2) ((upd_ne _ _ n_b2_b1.ne.symm).trans (upd_same _ _ _)) (by first | rfl | (simp; done))) (upd_same _ _ _) (by first | rfl | (simp; done)))⟩ ?_
     rintro k2 s' h' ⟨x4, x5, hk2, hsub, hle⟩
     refine wpA_weaken hsub.ok hle ?_
     clear hsub hle s' h'
     cases k2 with
     | zero => exact absurd hk2 (by simp [loopW])
     | succ k2 =>
      obtain ⟨o2, ho2, hk2⟩ := loopW_succ hk2
      unfold m_spec_l01Switch_l1 at ho2
      try dsimp only at ho2
      refine wpA_seq ?_
      refine wpA_seq ?_
      refine wpA_drawn (by kernel_rfl) (by kernel_rfl) ?_
      refine QOps.quiet _ rfl rfl (QO.move rfl rfl) ?_
      refine QOps.quiet _ rfl rfl (QO.move rfl rfl) ?_
      refine QOps.quiet _ rfl rfl (QO.bin rfl rfl rfl rfl) ?_
      refine QOps.quiet _ rfl rfl (QO.move rfl rfl) ?_
      refine QOps.split 43 rfl (fun g2 => ?_) (fun g2 => ?_)
      ·replace ho2 := cond_t ho2 g2
       refine QOps.skip rfl rfl ?_
       refine QOps.skip rfl rfl ?_
       refine QOps.skip rfl rfl ?_
       refine QOps.skip rfl rfl ?_
       refine QOps.skip rfl rfl ?_
       refine QOps.skip rfl rfl ?_
       refine QOps.skip rfl rfl ?_
       refine QOps.skip rfl rfl ?_
       refine QOps.skip rfl rfl ?_
       refine QOps.skip rfl rfl ?_
       refine QOps.skip rfl rfl ?_
       refine QOps.skip rfl rfl ?_
       refine QOps.skip rfl rfl ?_
       refine QOps.quiet _ rfl rfl (QO.pick_t rfl rfl rfl) ?_
       refine QOps.nil ?_
       refine thenA_n ?_
       refine wpA_cond_t rfl ?_
       refine wpA_skip ?_
       refine thenA_n ?_
       refine wpA_block ?_
       refine wpA_seq ?_
       refine wpA_region ?_
       refine Ops_quiet _ rfl rfl (QO.move rfl rfl) ?_
       refine Ops_quiet _ rfl rfl (QO.bin rfl rfl rfl rfl) ?_
       refine Ops_quiet _ rfl rfl (QO.assign rfl rfl) ?_
       refine Ops_nil ?_
       refine thenA_n ?_
       refine wpA_seq ?_
       refine wpA_region ?_
       refine Ops_quiet _ rfl rfl (QO.move rfl rfl) ?_
       refine Ops_quiet _ rfl rfl (QO.conv rfl sz5 sz2 rfl) ?_
       refine Ops_quiet _ rfl rfl (QO.fieldAt (fo := 0) rfl sz37 rfl rfl sz2 rfl rfl) ?_
       refine Ops_quiet _ rfl rfl (QO.load rfl sz2 rfl rfl (by (refine (rd_own ((upd_ne _ _ n_b2_b1.ne.symm).trans (upd_same _ _ _)) _).trans ?_); exact rfl)) ?_
       refine Ops_quiet _ rfl rfl (QO.bin rfl rfl rfl rfl) ?_
       refine Ops_nil ?_
       refine thenA_n ?_
       refine wpA_cond rfl (fun g3 => ?_) (fun g3 => ?_)
       ·replace ho2 := cond_t ho2 g3
        refine wpA_seq ?_
        refine wpA_region ?_
        refine Ops_quiet _ rfl rfl (QO.loadRow (cs := sqC (⟨((⟨x2.order, (tset x2.t (a1).toNat (x1).toNat (x2.t (a2).toNat (x1).toNat))⟩ : Sq)).order, (tset ((⟨x2.order, (tset x2.t (a1).toNat (x1).toNat (x2.t (a2).toNat (x1).toNat))⟩ : Sq)).t (a2).toNat (x1).toNat (x2.t (a1).toNat (x1).toNat))⟩ : Sq)) (hr := (rdAll ((upd_ne _ _ n_b2_b1.ne.symm).trans (upd_same _ _ _)))) rfl sz37 rfl rfl (sqC_length _)) ?_
        refine Ops_loud rfl (LO.storeAll (cs := sqC (⟨((⟨x2.order, (tset x2.t (a1).toNat (x1).toNat (x2.t (a2).toNat (x1).toNat))⟩ : Sq)).order, (tset ((⟨x2.order, (tset x2.t (a1).toNat (x1).toNat (x2.t (a2).toNat (x1).toNat))⟩ : Sq)).t (a2).toNat (x1).toNat (x2.t (a1).toNat (x1).toNat))⟩ : Sq)) rfl sz37 rfl rfl (sqC_one _) (sqC_length _) (upd_same _ _ _) (sqC_length _) Chg.here rfl ?_)
        refine Ops_nil ?_
        refine thenA_n ?_
        refine wpA_ret ?_
        refine blockA_r ?_
        refine thenA_r ?_
        obtain rfl := Option.some.inj ho2
        obtain rfl := Option.some.inj hk2
        exact ⟨rfl, (Sub.cons rfl Sub.nil), (Le.upd_left (Le.under (Le.under (Le.refl _) hb1) hb2) (upd_same _ _ _) (by first | rfl | (simp; done)))⟩
       ·replace ho2 := cond_f ho2 g3
        refine wpA_skip ?_
        refine blockA_n ?_
        obtain rfl := Option.some.inj ho2
        dsimp only at hk2
        exact thenA_n ⟨k2, Nat.lt_succ_self _, _, _, hk2, (Sub.cons rfl (Sub.cons rfl (Sub.cons rfl (Sub.cons rfl (Sub.cons rfl (Sub.cons rfl Sub.nil)))))), (Le.upd_left (Le.upd_left (Le.under (Le.under (Le.refl _) hb1) hb2) ((upd_ne _ _ n_b2_b1.ne.symm).trans (upd_same _ _ _)) (by first | rfl | (simp; done))) (upd_same _ _ _) (by first | rfl | (simp; done)))⟩
      ·replace ho2 := cond_f ho2 g2
       refine QOps.quiet _ rfl rfl (QO.move rfl rfl) ?_
       refine QOps.quiet _ rfl rfl (QO.move rfl rfl) ?_
       refine QOps.quiet _ rfl rfl (QO.fieldAt (fo := 1) rfl sz37 rfl rfl sz35 rfl rfl) ?_
       have hq := chk ho2; clear ho2; obtain ⟨ck9, ho2⟩ := hq
       refine QOps.quiet _ rfl rfl (QO.idxArr rfl sz35 sz24 rfl rfl (by omega) (by omega)) ?_
       have hq := chk ho2; clear ho2; obtain ⟨ck10, ho2⟩ := hq
       refine QOps.quiet _ rfl rfl (QO.idxArr rfl sz24 sz5 rfl rfl (by omega) (by omega)) ?_
       refine QOps.quiet _ rfl rfl (QO.load rfl sz5 rfl rfl (by (refine (rd_own ((upd_ne _ _ n_b2_b1.ne.symm).trans (upd_same _ _ _)) _).trans ?_); exact sqC_get (by omega) (by omega))) ?_
       refine QOps.quiet _ rfl rfl (QO.move rfl rfl) ?_
       refine QOps.quiet _ rfl rfl (QO.move rfl rfl) ?_
       refine QOps.quiet _ rfl rfl (QO.fieldAt (fo := 1) rfl sz37 rfl rfl sz35 rfl rfl) ?_
       have hq := chk ho2; clear ho2; obtain ⟨ck11, ho2⟩ := hq
       refine QOps.quiet _ rfl rfl (QO.idxArr rfl sz35 sz24 rfl rfl (by omega) (by omega)) ?_
       have hq := chk ho2; clear ho2; obtain ⟨ck12, ho2⟩ := hq
       refine QOps.quiet _ rfl rfl (QO.idxArr rfl sz24 sz5 rfl rfl (by omega) (by omega)) ?_
       refine QOps.quiet _ rfl rfl (QO.load rfl sz5 rfl rfl (by (refine (rd_own ((upd_ne _ _ n_b2_b1.ne.symm).trans (upd_same _ _ _)) _).trans ?_); exact sqC_get (by omega) (by omega))) ?_
       refine QOps.quiet _ rfl rfl (QO.bin rfl rfl rfl rfl) ?_
       refine QOps.quiet _ rfl rfl (QO.pick_f rfl rfl rfl) ?_
       refine QOps.nil ?_
       refine thenA_n ?_
       refine wpA_cond rfl (fun g4 => ?_) (fun g4 => ?_)
       ·replace ho2 := cond_t ho2 g4
        refine wpA_skip ?_
        refine thenA_n ?_
        refine wpA_block ?_
        refine wpA_seq ?_
        refine wpA_region ?_
        refine Ops_quiet _ rfl rfl (QO.move rfl rfl) ?_
        refine Ops_quiet _ rfl rfl (QO.bin rfl rfl rfl rfl) ?_
        refine Ops_quiet _ rfl rfl (QO.assign rfl rfl) ?_
        refine Ops_nil ?_
        refine thenA_n ?_
        refine wpA_seq ?_
        refine wpA_region ?_
        refine Ops_quiet _ rfl rfl (QO.move rfl rfl) ?_
        refine Ops_quiet _ rfl rfl (QO.conv rfl sz5 sz2 rfl) ?_
        refine Ops_quiet _ rfl rfl (QO.fieldAt (fo := 0) rfl sz37 rfl rfl sz2 rfl rfl) ?_
        refine Ops_quiet _ rfl rfl (QO.load rfl sz2 rfl rfl (by (refine (rd_own ((upd_ne _ _ n_b2_b1.ne.symm).trans (upd_same _ _ _)) _).trans ?_); exact rfl)) ?_
        refine Ops_quiet _ rfl rfl (QO.bin rfl rfl rfl rfl) ?_
        refine Ops_nil ?_
        refine thenA_n ?_
        refine wpA_cond rfl (fun g5 => ?_) (fun g5 => ?_)
        ·replace ho2 := cond_t ho2 g5
         refine wpA_seq ?_
         refine wpA_region ?_
         refine Ops_quiet _ rfl rfl (QO.loadRow (cs := sqC (⟨((⟨x2.order, (tset x2.t (a1).toNat (x1).toNat (x2.t (a2).toNat (x1).toNat))⟩ : Sq)).order, (tset ((⟨x2.order, (tset x2.t (a1).toNat (x1).toNat (x2.t (a2).toNat (x1).toNat))⟩ : Sq)).t (a2).toNat (x1).toNat (x2.t (a1).toNat (x1).toNat))⟩ : Sq)) (hr := (rdAll ((upd_ne _ _ n_b2_b1.ne.symm).trans (upd_same _ _ _)))) rfl sz37 rfl rfl (sqC_length _)) ?_
         refine Ops_loud rfl (LO.storeAll (cs := sqC (⟨((⟨x2.order, (tset x2.t (a1).toNat (x1).toNat (x2.t (a2).toNat (x1).toNat))⟩ : Sq)).order, (tset ((⟨x2.order, (tset x2.t (a1).toNat (x1).toNat (x2.t (a2).toNat (x1).toNat))⟩ : Sq)).t (a2).toNat (x1).toNat (x2.t (a1).toNat (x1).toNat))⟩ : Sq)) rfl sz37 rfl rfl (sqC_one _) (sqC_length _) (upd_same _ _ _) (sqC_length _) Chg.here rfl ?_)
         refine Ops_nil ?_
         refine thenA_n ?_
         refine wpA_ret ?_
         refine blockA_r ?_
         refine thenA_r ?_
         obtain rfl := Option.some.inj ho2
         obtain rfl := Option.some.inj hk2
         exact ⟨rfl, (Sub.cons rfl Sub.nil), (Le.upd_left (Le.under (Le.under (Le.refl _) hb1) hb2) (upd_same _ _ _) (by first | rfl | (simp; done)))⟩
        ·replace ho2 := cond_f ho2 g5
         refine wpA_skip ?_
         refine blockA_n ?_
         obtain rfl := Option.some.inj ho2
         dsimp only at hk2
         exact thenA_n ⟨k2, Nat.lt_succ_self _, _, _, hk2, (Sub.cons rfl (Sub.cons rfl (Sub.cons rfl (Sub.cons rfl (Sub.cons rfl (Sub.cons rfl Sub.nil)))))), (Le.upd_left (Le.upd_left (Le.under (Le.under (Le.refl _) hb1) hb2) ((upd_ne _ _ n_b2_b1.ne.symm).trans (upd_same _ _ _)) (by first | rfl | (simp; done))) (upd_same _ _ _) (by first | rfl | (simp; done)))⟩
       ·replace ho2 := cond_f ho2 g4
        refine wpA_exit ?_
        refine thenA_e ?_
        refine thenA_e ?_
        obtain rfl := Option.some.inj ho2
        obtain rfl := Option.some.inj hk2
        exact ⟨rfl, _, _, rfl, (Sub.cons rfl (Sub.cons rfl (Sub.cons rfl (Sub.cons rfl (Sub.cons rfl (Sub.cons rfl Sub.nil)))))), (Le.upd_left (Le.upd_left (Le.under (Le.under (Le.refl _) hb1) hb2) ((upd_ne _ _ n_b2_b1.ne.symm).trans (upd_same _ _ _)) (by first | rfl | (simp; done))) (upd_same _ _ _) (by first | rfl | (simp; done)))⟩
    ·intro e s' h' hq
     cases R2 with
     | next x => exact hq.elim
     | ret r =>
      obtain ⟨rfl, hsub1, hle1⟩ := hq
      try dsimp only at ho1
      refine blockA_r ?_
      refine thenA_r ?_
      refine blockA_r ?_
      refine thenA_r ?_
      obtain rfl := Option.some.inj ho1
      obtain rfl := Option.some.inj hk1
      exact ⟨rfl, (Sub.trans hsub1 (Sub.cons rfl Sub.nil)), (Le.trans (Le.upd_left (Le.under (Le.refl _) hb2) (upd_same _ _ _) (by first | rfl | (simp; done))) hle1)⟩
     | stop x id =>
      obtain ⟨rfl, x6, x7, rfl, hsub2, hle2⟩ := hq
      try dsimp only at ho1
      by_cases hid1 : id = 2
      ·subst hid1
       rw [if_pos rfl] at ho1
       refine blockA_s ?_
       refine thenA_n ?_
       refine wpA_weaken hsub2.ok hle2 ?_
       refine wpA_region ?_
       refine Ops_quiet _ rfl rfl (QO.move rfl rfl) ?_
       refine Ops_quiet _ rfl rfl (QO.assign rfl rfl) ?_
       refine Ops_nil ?_
       refine blockA_n ?_
       obtain rfl := Option.some.inj ho1
       dsimp only at hk1
       exact thenA_n ⟨k1, Nat.lt_succ_self _, _, _, _, hk1, (Sub.cons rfl (Sub.cons rfl (Sub.cons rfl (Sub.cons rfl (Sub.cons rfl Sub.nil))))), (Le.upd_left (Le.upd_left (Le.under (Le.under (Le.refl _) hb1) hb2) ((upd_ne _ _ n_b2_b1.ne.symm).trans (upd_same _ _ _)) (by first | rfl | (simp; done))) (upd_same _ _ _) (by first | rfl | (simp; done)))⟩
      rw [if_neg hid1] at ho1
      exact absurd ho1 (by simp)
  ·intro e s' h' hq
   cases R1 with
   | next x => exact hq.elim
   | ret r =>
    obtain ⟨rfl, hsub3, hle3⟩ := hq
    try dsimp only at hm
    refine blockA_r ?_
    obtain rfl := Option.some.inj hm
    refine retA_sub hsub3.ok hle3 ?_
    exact retA_r (h2 := h) (Res.one rfl (res1.row (cs := sqC r) (hr := (rdAll (upd_same _ _ _))) sz37 rfl rfl (sqC_length _))) (Le.under (Le.refl _) hb2) ⟨rfl, rfl⟩
   | stop x id =>
    obtain ⟨rfl, x8, x9, x10, rfl, hsub4, hle4⟩ := hq
    try dsimp only at hm
    exact absurd hm (by simp)

/-! loop.example/g01195/spec.l01Draw -/
theorem c_spec_l01Draw {a0 : Src} {p0 : Nat} {l_s : List Int} {A_s : Option Addr} {c_s : Nat} {h : Hp} {r : Sq × Src} (hm : m_spec_l01Draw a0 l_s = some r) (hs_s : RdS h A_s (ints .u8 l_s)) (h_p0 : h p0 = none) :
    CC Try.prog 53 #[.pointer (some ⟨p0, 0, none⟩)] (upd (h) p0 (.own 65 (srcC A_s l_s.length c_s a0) 3)) (fun v h' => v = .agg (sqC r.1).toArray ∧ h' = upd (h) p0 (.own 65 (srcC A_s l_s.length c_s r.2) 3)) := by
 unfold m_spec_l01Draw at hm
 refine CC.enter Try.func53 rfl Try.ntmps53 rfl ?_
 refine wpA_seq ?_
 refine wpA_region ?_
 refine Ops_loud rfl (LO.alloc rfl zr37 rfl (fun b1 hb1 => ?_))
 simp only [upd_noneA] at hb1
 obtain ⟨n_b1_p0, hb1⟩ := hb1
 refine Ops_nil ?_
 refine thenA_n ?_
 refine wpA_seq ?_
 refine wpA_region ?_
 refine Ops_quiet _ rfl rfl (QO.move rfl rfl) ?_
 have hq := Option.bind_eq_some_iff.1 hm; clear hm; obtain ⟨r1, hr1, hm⟩ := hq
 have hd1 : Del (upd (upd (h) p0 (.own 65 (srcC A_s l_s.length c_s a0) 3)) b1 (.own 37 (sqC sq0) 101)) p0 (.own 65 (srcC A_s l_s.length c_s a0) 3) (upd (h) b1 (.own 37 (sqC sq0) 101)) := (Del.there n_b1_p0.ne.symm (Del.here h_p0))
 refine Ops_call _ _ rfl rfl (EO.fn rfl Try.func61 rfl rfl (Evs.cons rfl Evs.nil)) (CC.mono (CC.atLe (c_spec_l01Known (h := upd (h) b1 (.own 37 (sqC sq0) 101)) hr1 (RdS.le hs_s (Le.under (Le.refl _) hb1)) hd1.none) hd1.le) ?_)
 rintro _ _ ⟨rfl, rfl⟩
 refine Ops_loud rfl (LO.alloc rfl zr37 rfl (fun b2 hb2 => ?_))
 simp only [upd_noneA] at hb2
 obtain ⟨n_b2_p0, n_b2_b1, hb2⟩ := hb2
 refine Ops_loud rfl (LO.storeAll (cs := sqC r1.1) rfl sz37 rfl rfl (sqC_one _) (sqC_length _) (upd_same _ _ _) (sqC_length _) Chg.here rfl ?_)
 refine Ops_nil ?_
 refine thenA_n ?_
 refine wpA_seq ?_
 refine wpA_region ?_
 refine Ops_quiet _ rfl rfl (QO.fieldAt (fo := 0) rfl sz37 rfl rfl sz2 rfl rfl) ?_
 refine Ops_quiet _ rfl rfl (QO.load rfl sz2 rfl rfl (by (refine (rd_own (upd_same _ _ _) _).trans ?_); exact rfl)) ?_
 refine Ops_quiet _ rfl rfl (QO.assign rfl rfl) ?_
 refine Ops_nil ?_
 refine thenA_n ?_
 refine wpA_seq ?_
 refine wpA_seq ?_
 refine wpA_region ?_
 refine Ops_quiet _ rfl rfl (QO.move rfl rfl) ?_
 refine Ops_loud rfl (LO.slice' [(0, .int .i64 0), (1, .int .i64 0), (2, .int .i64 1), (3, .int .i64 2), (4, .int .i64 4)] (r := ints .i64 [0, 0, 1, 2, 4]) rfl sz70 sz2 zr2 (by first | rfl | (simp [sqC_length, tbC_length, tabI_length, tabB_length, ints_length, plsC_length, trC_length, sqsC_length, strsC_length, boolsC_length, tbB_length, List.length_append, List.length_cons, List.length_nil, List.length_set, List.length_replicate, rep_length]; done)) (by decide) (by decide) (by decide) rfl rfl (by first | rfl | (simp [sqC_length, tbC_length, tabI_length, tabB_length, ints_length, plsC_length, trC_length, sqsC_length, strsC_length, boolsC_length, tbB_length, List.length_append, List.length_cons, List.length_nil, List.length_set, List.length_replicate, rep_length]; done)) rfl (fun b3 hb3 => ?_))
 simp only [upd_noneA] at hb3
 obtain ⟨n_b3_b2, n_b3_p0, n_b3_b1, hb3⟩ := hb3
 have hq := Option.bind_eq_some_iff.1 hm; clear hm; obtain ⟨r2, hr2, hm⟩ := hq
 have hd2 : Del (upd (upd (upd (upd (h) b1 (.own 37 (sqC sq0) 101)) p0 (.own 65 (srcC A_s l_s.length c_s r1.2) 3)) b2 (.own 37 (sqC r1.1) 101)) b3 (.own 2 (ints .i64 [0, 0, 1, 2, 4]) (5 * 1))) p0 (.own 65 (srcC A_s l_s.length c_s r1.2) 3) (upd (upd (upd (h) b1 (.own 37 (sqC sq0) 101)) b2 (.own 37 (sqC r1.1) 101)) b3 (.own 2 (ints .i64 [0, 0, 1, 2, 4]) (5 * 1))) := (Del.there n_b3_p0.ne.symm (Del.there n_b2_p0.ne.symm (Del.here (none_upd n_b1_p0.ne.symm h_p0))))
 refine Ops_call _ _ rfl rfl (EO.fn rfl Try.func40 rfl rfl (Evs.cons rfl (Evs.cons rfl Evs.nil))) (CC.mono (CC.atLe (c_spec_l01Pick (l1 := [0, 0, 1, 2, 4]) (A1 := some ⟨b3, 0, none⟩) (c1 := 5) (h := upd (upd (upd (h) b1 (.own 37 (sqC sq0) 101)) b2 (.own 37 (sqC r1.1) 101)) b3 (.own 2 (ints .i64 [0, 0, 1, 2, 4]) (5 * 1))) hr2 (RdS.le hs_s (Le.under (Le.under (Le.under (Le.refl _) hb1) hb2) hb3)) (RdS.own (upd_same _ _ _)) hd2.none) hd2.le) ?_)
 rintro _ _ ⟨rfl, rfl⟩
 refine Ops_quiet _ rfl rfl (QO.assign rfl rfl) ?_
 refine Ops_nil ?_
 refine thenA_n ?_
 refine wpA_block ?_
 obtain ⟨R1, hR, hm⟩ := Option.bind_eq_some_iff.1 hm
 obtain ⟨k1, hk1⟩ := loopV_some hR
 clear hR
 refine wpA_mono (Q := fun e s' h' => match (generalizing := false) R1 with | .stop x id => e = .exit id ∧ ∃ (x1 : Int) (x2 : Sq) (x3 : Src), x = (x1, x2, x3) ∧ Sub s' [(0, .pointer (some ⟨p0, 0, none⟩)), (2, .pointer (some ⟨b1, 0, none⟩)), (3, .pointer (some ⟨b2, 0, none⟩)), (4, .int .i64 r1.1.order), (5, .int .i64 x1)] ∧ Le (upd (upd (upd (h) b1 (.own 37 (sqC sq0) 101)) b2 (.own 37 (sqC x2) 101)) p0 (.own 65 (srcC A_s l_s.length c_s x3) 3)) h' | .ret r => False | .next _ => False) ?_ ?_
 ·refine wpA_loop (fun k s' h' => ∃ (x1 : Int) (x2 : Sq) (x3 : Src), loopW (m_spec_l01Draw_l0 l_s r1) k (x1, x2, x3) = some R1 ∧ Sub s' [(0, .pointer (some ⟨p0, 0, none⟩)), (2, .pointer (some ⟨b1, 0, none⟩)), (3, .pointer (some ⟨b2, 0, none⟩)), (4, .int .i64 r1.1.order), (5, .int .i64 x1)] ∧ Le (upd (upd (upd (h) b1 (.own 37 (sqC sq0) 101)) b2 (.own 37 (sqC x2) 101)) p0 (.own 65 (srcC A_s l_s.length c_s x3) 3)) h') (m := k1) ⟨r2.1, r1.1, r2.2, hk1, (Sub.cons rfl (Sub.cons rfl (Sub.cons rfl (Sub.cons rfl (Sub.cons rfl Sub.nil))))), (Le.upd_left (Le.upd_left (Le.upd_left (Le.under (Le.under (Le.under (Le.under (Le.refl _) hb1) hb2) hb3) h_p0) ((upd_ne _ _ n_b1_p0.ne).trans ((upd_ne _ _ n_b3_b1.ne.symm).trans ((upd_ne _ _ n_b2_b1.ne.symm).trans (upd_same _ _ _)))) (by first | rfl | (simp; done))) ((upd_ne _ _ n_b2_p0.ne).trans ((upd_ne _ _ n_b3_b2.ne.symm).trans (upd_same _ _ _))) (by first | rfl | (simp; done))) (upd_same _ _ _) (by first | rfl | (simp; done)))⟩ ?_
  rintro k1 s' h' ⟨x1, x2, x3, hk1, hsub, hle⟩
  refine wpA_weaken hsub.ok hle ?_
  clear hsub hle s' h'
  cases k1 with
  | zero => exact absurd hk1 (by simp [loopW])
  | succ k1 =>
   obtain ⟨o1, ho1, hk1⟩ := loopW_succ hk1
   unfold m_spec_l01Draw_l0 at ho1
   try dsimp only at ho1
   refine wpA_seq ?_
   refine wpA_seq ?_
   refine wpA_region ?_
   refine Ops_quiet _ rfl rfl (QO.move rfl rfl) ?_
   refine Ops_quiet _ rfl rfl (QO.bin rfl rfl rfl rfl) ?_
   refine Ops_nil ?_
   refine thenA_n ?_
   refine wpA_cond rfl (fun g1 => ?_) (fun g1 => ?_)
   ·replace ho1 := cond_t ho1 g1
    refine wpA_skip ?_
    refine thenA_n ?_
    refine wpA_seq ?_
    refine wpA_block ?_
    refine wpA_seq ?_
    refine wpA_seq ?_
    refine wpA_region ?_
    refine Ops_quiet _ rfl rfl (QO.move rfl rfl) ?_
    have hq := Option.bind_eq_some_iff.1 ho1; clear ho1; obtain ⟨r3, hr3, ho1⟩ := hq
    have hd3 : Del (upd (upd (upd (h) b1 (.own 37 (sqC sq0) 101)) b2 (.own 37 (sqC x2) 101)) p0 (.own 65 (srcC A_s l_s.length c_s x3) 3)) p0 (.own 65 (srcC A_s l_s.length c_s x3) 3) (upd (upd (h) b1 (.own 37 (sqC sq0) 101)) b2 (.own 37 (sqC x2) 101)) := (Del.here (none_upd n_b2_p0.ne.symm (none_upd n_b1_p0.ne.symm h_p0)))
    refine Ops_call _ _ rfl rfl (EO.fn rfl Try.func27 rfl rfl (Evs.cons rfl (Evs.cons rfl Evs.nil))) (CC.mono (CC.atLe (c_spec_l01Next (h := upd (upd (h) b1 (.own 37 (sqC sq0) 101)) b2 (.own 37 (sqC x2) 101)) hr3 (RdS.le hs_s (Le.under (Le.under (Le.refl _) hb1) hb2)) hd3.none) hd3.le) ?_)
    rintro _ _ ⟨rfl, rfl⟩
    refine Ops_quiet _ rfl rfl (QO.bin rfl rfl rfl rfl) ?_
    refine Ops_nil ?_
    refine thenA_n ?_
    refine wpA_cond rfl (fun g2 => ?_) (fun g2 => ?_)
    ·replace ho1 := cond_t ho1 g2
     refine wpA_region ?_
     refine Ops_quiet _ rfl rfl (QO.loadRow (cs := sqC x2) (hr := (rdAll ((upd_ne _ _ n_b2_p0.ne).trans (upd_same _ _ _)))) rfl sz37 rfl rfl (sqC_length _)) ?_
     have hq := Option.bind_eq_some_iff.1 ho1; clear ho1; obtain ⟨r4, hr4, ho1⟩ := hq
     refine Ops_call _ _ rfl rfl (EO.fn rfl Try.func62 rfl rfl (Evs.cons rfl Evs.nil)) (QC.cc (c_spec_l01Opposite hr4 ) ?_)
     refine Ops_loud rfl (LO.storeAll (cs := sqC r4) rfl sz37 rfl rfl (sqC_one _) (sqC_length _) ((upd_ne _ _ n_b2_p0.ne).trans (upd_same _ _ _)) (sqC_length _) (Chg.there n_b2_p0.ne.symm Chg.here) rfl ?_)
     refine Ops_nil ?_
     refine thenA_n ?_
     refine wpA_any (upd (upd (h) b1 (.own 37 (sqC sq0) 101)) b2 (.own 37 (sqC r4) 101)) [3, 7, 11, 14] [14] (by kernel_rfl) (by kernel_rfl) (DW.start ?_)
     refine DW.readK' 0 _ rfl (by kernel_rfl) rfl (Le.upd_left (Le.upd_left (Le.under (Le.under (Le.under (Le.refl _) hb1) hb2) h_p0) ((upd_ne _ _ n_b1_p0.ne).trans ((upd_ne _ _ n_b2_b1.ne.symm).trans (upd_same _ _ _))) (by first | rfl | (simp; done))) ((upd_ne _ _ n_b2_p0.ne).trans (upd_same _ _ _)) (by first | rfl | (simp; done))) (QO.loadRow (cs := sqC r4) (hr := (rdAll (upd_same _ _ _))) rfl sz37 rfl rfl (sqC_length _)) ?_
     refine DW.pure' 1 _ rfl (by kernel_rfl) rfl (fun _ => QO.move rfl rfl) ?_
     refine DW.pure' 2 _ rfl (by kernel_rfl) rfl (fun _ => QO.move rfl rfl) ?_
     refine DW.pure' 5 _ rfl (by kernel_rfl) rfl (fun _ => QO.move rfl rfl) ?_
     refine DW.pure' 6 _ rfl (by kernel_rfl) rfl (fun _ => QO.move rfl rfl) ?_
     refine DW.pure' 9 _ rfl (by kernel_rfl) rfl (fun _ => QO.move rfl rfl) ?_
     refine DW.pure' 10 _ rfl (by kernel_rfl) rfl (fun _ => QO.move rfl rfl) ?_
     have hq := Option.bind_eq_some_iff.1 ho1; clear ho1; obtain ⟨r5, hr5, ho1⟩ := hq
     have hd4 : Del (upd (upd (upd (h) b1 (.own 37 (sqC sq0) 101)) b2 (.own 37 (sqC r4) 101)) p0 (.own 65 (srcC A_s l_s.length c_s r3.2) 3)) p0 (.own 65 (srcC A_s l_s.length c_s r3.2) 3) (upd (upd (h) b1 (.own 37 (sqC sq0) 101)) b2 (.own 37 (sqC r4) 101)) := (Del.here (none_upd n_b2_p0.ne.symm (none_upd n_b1_p0.ne.symm h_p0)))
     refine DW.call 3 _ _ rfl (by kernel_rfl) rfl rfl (EO.fn rfl Try.func27 rfl rfl (Evs.cons rfl (Evs.cons rfl Evs.nil))) (CC.mono (CC.atLe (c_spec_l01Next (h := upd (upd (h) b1 (.own 37 (sqC sq0) 101)) b2 (.own 37 (sqC r4) 101)) hr5 (RdS.le hs_s (Le.under (Le.under (Le.refl _) hb1) hb2)) hd4.none) hd4.le) ?_)
     rintro _ _ ⟨rfl, rfl⟩
     refine ⟨(fun _ => (Le.upd_left (Le.upd_left (Le.under (Le.under (Le.under (Le.refl _) hb1) hb2) h_p0) ((upd_ne _ _ n_b1_p0.ne).trans ((upd_ne _ _ n_b2_b1.ne.symm).trans (upd_same _ _ _))) (by first | rfl | (simp; done))) ((upd_ne _ _ n_b2_p0.ne).trans (upd_same _ _ _)) (by first | rfl | (simp; done)))), ?_⟩
     refine DW.pure' 4 _ rfl (by kernel_rfl) rfl (fun _ => QO.conv rfl sz2 sz5 rfl) ?_
     have hq := Option.bind_eq_some_iff.1 ho1; clear ho1; obtain ⟨r6, hr6, ho1⟩ := hq
     have hd5 : Del (upd (upd (upd (h) b1 (.own 37 (sqC sq0) 101)) b2 (.own 37 (sqC r4) 101)) p0 (.own 65 (srcC A_s l_s.length c_s r5.2) 3)) p0 (.own 65 (srcC A_s l_s.length c_s r5.2) 3) (upd (upd (h) b1 (.own 37 (sqC sq0) 101)) b2 (.own 37 (sqC r4) 101)) := (Del.here (none_upd n_b2_p0.ne.symm (none_upd n_b1_p0.ne.symm h_p0)))
     refine DW.call 7 _ _ rfl (by kernel_rfl) rfl rfl (EO.fn rfl Try.func27 rfl rfl (Evs.cons rfl (Evs.cons rfl Evs.nil))) (CC.mono (CC.atLe (c_spec_l01Next (h := upd (upd (h) b1 (.own 37 (sqC sq0) 101)) b2 (.own 37 (sqC r4) 101)) hr6 (RdS.le hs_s (Le.under (Le.under (Le.refl _) hb1) hb2)) hd5.none) hd5.le) ?_)
     rintro _ _ ⟨rfl, rfl⟩
     refine ⟨(fun _ => (Le.upd_left (Le.upd_left (Le.under (Le.under (Le.under (Le.refl _) hb1) hb2) h_p0) ((upd_ne _ _ n_b1_p0.ne).trans ((upd_ne _ _ n_b2_b1.ne.symm).trans (upd_same _ _ _))) (by first | rfl | (simp; done))) ((upd_ne _ _ n_b2_p0.ne).trans (upd_same _ _ _)) (by first | rfl | (simp; done)))), ?_⟩
     refine DW.pure' 8 _ rfl (by kernel_rfl) rfl (fun _ => QO.conv rfl sz2 sz5 rfl) ?_
     have hq := Option.bind_eq_some_iff.1 ho1; clear ho1; obtain ⟨r7, hr7, ho1⟩ := hq
     have hd6 : Del (upd (upd (upd (h) b1 (.own 37 (sqC sq0) 101)) b2 (.own 37 (sqC r4) 101)) p0 (.own 65 (srcC A_s l_s.length c_s r6.2) 3)) p0 (.own 65 (srcC A_s l_s.length c_s r6.2) 3) (upd (upd (h) b1 (.own 37 (sqC sq0) 101)) b2 (.own 37 (sqC r4) 101)) := (Del.here (none_upd n_b2_p0.ne.symm (none_upd n_b1_p0.ne.symm h_p0)))
     refine DW.call 11 _ _ rfl (by kernel_rfl) rfl rfl (EO.fn rfl Try.func27 rfl rfl (Evs.cons rfl (Evs.cons rfl Evs.nil))) (CC.mono (CC.atLe (c_spec_l01Next (h := upd (upd (h) b1 (.own 37 (sqC sq0) 101)) b2 (.own 37 (sqC r4) 101)) hr7 (RdS.le hs_s (Le.under (Le.under (Le.refl _) hb1) hb2)) hd6.none) hd6.le) ?_)
     rintro _ _ ⟨rfl, rfl⟩
     refine ⟨(fun _ => (Le.upd_left (Le.upd_left (Le.under (Le.under (Le.under (Le.refl _) hb1) hb2) h_p0) ((upd_ne _ _ n_b1_p0.ne).trans ((upd_ne _ _ n_b2_b1.ne.symm).trans (upd_same _ _ _))) (by first | rfl | (simp; done))) ((upd_ne _ _ n_b2_p0.ne).trans (upd_same _ _ _)) (by first | rfl | (simp; done)))), ?_⟩
     refine DW.pure' 12 _ rfl (by kernel_rfl) rfl (fun _ => QO.conv rfl sz2 sz5 rfl) ?_
     have hq := Option.bind_eq_some_iff.1 ho1; clear ho1; obtain ⟨r8, hr8, ho1⟩ := hq
     refine DW.qcall' 13 _ _ _ rfl (by kernel_rfl) rfl (EO.fn rfl Try.func63 rfl rfl (Evs.cons rfl (Evs.cons rfl (Evs.cons rfl (Evs.cons rfl Evs.nil))))) (c_spec_l01Switch hr8 ) ?_
     refine DW.loud 14 rfl (by kernel_rfl) rfl rfl (LO.storeAll (cs := sqC r8) rfl sz37 rfl rfl (sqC_one _) (sqC_length _) ((upd_ne _ _ n_b2_p0.ne).trans (upd_same _ _ _)) (sqC_length _) (Chg.there n_b2_p0.ne.symm Chg.here) rfl ?_)
     refine ⟨(fun e => absurd e (by decide)), ?_⟩
     refine DW.done (by kernel_rfl) ?_ _
     refine blockA_n ?_
     refine thenA_n ?_
     refine wpA_region ?_
     refine Ops_quiet _ rfl rfl (QO.move rfl rfl) ?_
     refine Ops_quiet _ rfl rfl (QO.bin rfl rfl rfl rfl) ?_
     refine Ops_quiet _ rfl rfl (QO.assign rfl rfl) ?_
     refine Ops_nil ?_
     obtain rfl := Option.some.inj ho1
     dsimp only at hk1
     exact thenA_n ⟨k1, Nat.lt_succ_self _, _, _, _, hk1, (Sub.cons rfl (Sub.cons rfl (Sub.cons rfl (Sub.cons rfl (Sub.cons rfl Sub.nil))))), (Le.upd_left (Le.upd_left (Le.upd_left (Le.under (Le.under (Le.under (Le.refl _) hb1) hb2) h_p0) ((upd_ne _ _ n_b1_p0.ne).trans ((upd_ne _ _ n_b2_b1.ne.symm).trans (upd_same _ _ _))) (by first | rfl | (simp; done))) ((upd_ne _ _ n_b2_p0.ne).trans (upd_same _ _ _)) (by first | rfl | (simp; done))) (upd_same _ _ _) (by first | rfl | (simp; done)))⟩
    ·replace ho1 := cond_f ho1 g2
     refine wpA_skip ?_
     refine thenA_n ?_
     refine wpA_any (upd (upd (h) b1 (.own 37 (sqC sq0) 101)) b2 (.own 37 (sqC x2) 101)) [3, 7, 11, 14] [14] (by kernel_rfl) (by kernel_rfl) (DW.start ?_)
     refine DW.readK' 0 _ rfl (by kernel_rfl) rfl (Le.upd_left (Le.upd_left (Le.under (Le.under (Le.under (Le.refl _) hb1) hb2) h_p0) ((upd_ne _ _ n_b1_p0.ne).trans ((upd_ne _ _ n_b2_b1.ne.symm).trans (upd_same _ _ _))) (by first | rfl | (simp; done))) ((upd_ne _ _ n_b2_p0.ne).trans (upd_same _ _ _)) (by first | rfl | (simp; done))) (QO.loadRow (cs := sqC x2) (hr := (rdAll (upd_same _ _ _))) rfl sz37 rfl rfl (sqC_length _)) ?_
     refine DW.pure' 1 _ rfl (by kernel_rfl) rfl (fun _ => QO.move rfl rfl) ?_
     refine DW.pure' 2 _ rfl (by kernel_rfl) rfl (fun _ => QO.move rfl rfl) ?_
     refine DW.pure' 5 _ rfl (by kernel_rfl) rfl (fun _ => QO.move rfl rfl) ?_
     refine DW.pure' 6 _ rfl (by kernel_rfl) rfl (fun _ => QO.move rfl rfl) ?_
     refine DW.pure' 9 _ rfl (by kernel_rfl) rfl (fun _ => QO.move rfl rfl) ?_
     refine DW.pure' 10 _ rfl (by kernel_rfl) rfl (fun _ => QO.move rfl rfl) ?_
     have hq := Option.bind_eq_some_iff.1 ho1; clear ho1; obtain ⟨r9, hr9, ho1⟩ := hq
     have hd7 : Del (upd (upd (upd (h) b1 (.own 37 (sqC sq0) 101)) b2 (.own 37 (sqC x2) 101)) p0 (.own 65 (srcC A_s l_s.length c_s r3.2) 3)) p0 (.own 65 (srcC A_s l_s.length c_s r3.2) 3) (upd (upd (h) b1 (.own 37 (sqC sq0) 101)) b2 (.own 37 (sqC x2) 101)) := (Del.here (none_upd n_b2_p0.ne.symm (none_upd n_b1_p0.ne.symm h_p0)))
     refine DW.call 3 _ _ rfl (by kernel_rfl) rfl rfl (EO.fn rfl Try.func27 rfl rfl (Evs.cons rfl (Evs.cons rfl Evs.nil))) (CC.mono (CC.atLe (c_spec_l01Next (h := upd (upd (h) b1 (.own 37 (sqC sq0) 101)) b2 (.own 37 (sqC x2) 101)) hr9 (RdS.le hs_s (Le.under (Le.under (Le.refl _) hb1) hb2)) hd7.none) hd7.le) ?_)
     rintro _ _ ⟨rfl, rfl⟩
     refine ⟨(fun _ => (Le.upd_left (Le.upd_left (Le.under (Le.under (Le.under (Le.refl _) hb1) hb2) h_p0) ((upd_ne _ _ n_b1_p0.ne).trans ((upd_ne _ _ n_b2_b1.ne.symm).trans (upd_same _ _ _))) (by first | rfl | (simp; done))) ((upd_ne _ _ n_b2_p0.ne).trans (upd_same _ _ _)) (by first | rfl | (simp; done)))), ?_⟩
     refine DW.pure' 4 _ rfl (by kernel_rfl) rfl (fun _ => QO.conv rfl sz2 sz5 rfl) ?_
     have hq := Option.bind_eq_some_iff.1 ho1; clear ho1; obtain ⟨r10, hr10, ho1⟩ := hq
     have hd8 : Del (upd (upd (upd (h) b1 (.own 37 (sqC sq0) 101)) b2 (.own 37 (sqC x2) 101)) p0 (.own 65 (srcC A_s l_s.length c_s r9.2) 3)) p0 (.own 65 (srcC A_s l_s.length c_s r9.2) 3) (upd (upd (h) b1 (.own 37 (sqC sq0) 101)) b2 (.own 37 (sqC x2) 101)) := (Del.here (none_upd n_b2_p0.ne.symm (none_upd n_b1_p0.ne.symm h_p0)))
     refine DW.call 7 _ _ rfl (by kernel_rfl) rfl rfl (EO.fn rfl Try.func27 rfl rfl (Evs.cons rfl (Evs.cons rfl Evs.nil))) (CC.mono (CC.atLe (c_spec_l01Next (h := upd (upd (h) b1 (.own 37 (sqC sq0) 101)) b2 (.own 37 (sqC x2) 101)) hr10 (RdS.le hs_s (Le.under (Le.under (Le.refl _) hb1) hb2)) hd8.none) hd8.le) ?_)
     rintro _ _ ⟨rfl, rfl⟩
     refine ⟨(fun _ => (Le.upd_left (Le.upd_left (Le.under (Le.under (Le.under (Le.refl _) hb1) hb2) h_p0) ((upd_ne _ _ n_b1_p0.ne).trans ((upd_ne _ _ n_b2_b1.ne.symm).trans (upd_same _ _ _))) (by first | rfl | (simp; done))) ((upd_ne _ _ n_b2_p0.ne).trans (upd_same _ _ _)) (by first | rfl | (simp; done)))), ?_⟩
     refine DW.pure' 8 _ rfl (by kernel_rfl) rfl (fun _ => QO.conv rfl sz2 sz5 rfl) ?_
     have hq := Option.bind_eq_some_iff.1 ho1; clear ho1; obtain ⟨r11, hr11, ho1⟩ := hq
     have hd9 : Del (upd (upd (upd (h) b1 (.own 37 (sqC sq0) 101)) b2 (.own 37 (sqC x2) 101)) p0 (.own 65 (srcC A_s l_s.length c_s r10.2) 3)) p0 (.own 65 (srcC A_s l_s.length c_s r10.2) 3) (upd (upd (h) b1 (.own 37 (sqC sq0) 101)) b2 (.own 37 (sqC x2) 101)) := (Del.here (none_upd n_b2_p0.ne.symm (none_upd n_b1_p0.ne.symm h_p0)))
     refine DW.call 11 _ _ rfl (by kernel_rfl) rfl rfl (EO.fn rfl Try.func27 rfl rfl (Evs.cons rfl (Evs.cons rfl Evs.nil))) (CC.mono (CC.atLe (c_spec_l01Next (h := upd (upd (h) b1 (.own 37 (sqC sq0) 101)) b2 (.own 37 (sqC x2) 101)) hr11 (RdS.le hs_s (Le.under (Le.under (Le.refl _) hb1) hb2)) hd9.none) hd9.le) ?_)
     rintro _ _ ⟨rfl, rfl⟩
     refine ⟨(fun _ => (Le.upd_left (Le.upd_left (Le.under (Le.under (Le.under (Le.refl _) hb1) hb2) h_p0) ((upd_ne _ _ n_b1_p0.ne).trans ((upd_ne _ _ n_b2_b1.ne.symm).trans (upd_same _ _ _))) (by first | rfl | (simp; done))) ((upd_ne _ _ n_b2_p0.ne).trans (upd_same _ _ _)) (by first | rfl | (simp; done)))), ?_⟩
     refine DW.pure' 12 _ rfl (by kernel_rfl) rfl (fun _ => QO.conv rfl sz2 sz5 rfl) ?_
     have hq := Option.bind_eq_some_iff.1 ho1; clear ho1; obtain ⟨r12, hr12, ho1⟩ := hq
     refine DW.qcall' 13 _ _ _ rfl (by kernel_rfl) rfl (EO.fn rfl Try.func63 rfl rfl (Evs.cons rfl (Evs.cons rfl (Evs.cons rfl (Evs.cons rfl Evs.nil))))) (c_spec_l01Switch hr12 ) ?_
     refine DW.loud 14 rfl (by kernel_rfl) rfl rfl (LO.storeAll (cs := sqC r12) rfl sz37 rfl rfl (sqC_one _) (sqC_length _) ((upd_ne _ _ n_b2_p0.ne).trans (upd_same _ _ _)) (sqC_length _) (Chg.there n_b2_p0.ne.symm Chg.here) rfl ?_)
     refine ⟨(fun e => absurd e (by decide)), ?_⟩
     refine DW.done (by kernel_rfl) ?_ _
     refine blockA_n ?_
     refine thenA_n ?_
     refine wpA_region ?_
     refine Ops_quiet _ rfl rfl (QO.move rfl rfl) ?_
     refine Ops_quiet _ rfl rfl (QO.bin rfl rfl rfl rfl) ?_
     refine Ops_quiet _ rfl rfl (QO.assign rfl rfl) ?_
     refine Ops_nil ?_
     obtain rfl := Option.some.inj ho1
     dsimp only at hk1
     exact thenA_n ⟨k1, Nat.lt_succ_self _, _, _, _, hk1, (Sub.cons rfl (Sub.cons rfl (Sub.cons rfl (Sub.cons rfl (Sub.cons rfl Sub.nil))))), (Le.upd_left (Le.upd_left (Le.upd_left (Le.under (Le.under (Le.under (Le.refl _) hb1) hb2) h_p0) ((upd_ne _ _ n_b1_p0.ne).trans ((upd_ne _ _ n_b2_b1.ne.symm).trans (upd_same _ _ _))) (by first | rfl | (simp; done))) ((upd_ne _ _ n_b2_p0.ne).trans (upd_same _ _ _)) (by first | rfl | (simp; done))) (upd_same _ _ _) (by first | rfl | (simp; done)))⟩
   ·replace ho1 := cond_f ho1 g1
    refine wpA_exit ?_
    refine thenA_e ?_
    refine thenA_e ?_
    obtain rfl := Option.some.inj ho1
    obtain rfl := Option.some.inj hk1
    exact ⟨rfl, _, _, _, rfl, (Sub.cons rfl (Sub.cons rfl (Sub.cons rfl (Sub.cons rfl (Sub.cons rfl Sub.nil))))), (Le.upd_left (Le.upd_left (Le.upd_left (Le.under (Le.under (Le.under (Le.refl _) hb1) hb2) h_p0) ((upd_ne _ _ n_b1_p0.ne).trans ((upd_ne _ _ n_b2_b1.ne.symm).trans (upd_same _ _ _))) (by first | rfl | (simp; done))) ((upd_ne _ _ n_b2_p0.ne).trans (upd_same _ _ _)) (by first | rfl | (simp; done))) (upd_same _ _ _) (by first | rfl | (simp; done)))⟩
 ·intro e s' h' hq
  cases R1 with
  | next x => exact hq.elim
  | ret r => exact hq.elim
  | stop x id =>
   obtain ⟨rfl, x4, x5, x6, rfl, hsub1, hle1⟩ := hq
   try dsimp only at hm
   by_cases hid1 : id = 0
   ·subst hid1
    rw [if_pos rfl] at hm
    refine blockA_s ?_
    refine thenA_n ?_
    refine wpA_weaken hsub1.ok hle1 ?_
    refine wpA_seq ?_
    refine wpA_seq ?_
    refine wpA_region ?_
    refine Ops_quiet _ rfl rfl (QO.move rfl rfl) ?_
    have hq := Option.bind_eq_some_iff.1 hm; clear hm; obtain ⟨r13, hr13, hm⟩ := hq
    have hd10 : Del (upd (upd (upd (h) b1 (.own 37 (sqC sq0) 101)) b2 (.own 37 (sqC x5) 101)) p0 (.own 65 (srcC A_s l_s.length c_s x6) 3)) p0 (.own 65 (srcC A_s l_s.length c_s x6) 3) (upd (upd (h) b1 (.own 37 (sqC sq0) 101)) b2 (.own 37 (sqC x5) 101)) := (Del.here (none_upd n_b2_p0.ne.symm (none_upd n_b1_p0.ne.symm h_p0)))
    refine Ops_call _ _ rfl rfl (EO.fn rfl Try.func27 rfl rfl (Evs.cons rfl (Evs.cons rfl Evs.nil))) (CC.mono (CC.atLe (c_spec_l01Next (h := upd (upd (h) b1 (.own 37 (sqC sq0) 101)) b2 (.own 37 (sqC x5) 101)) hr13 (RdS.le hs_s (Le.under (Le.under (Le.refl _) hb1) hb2)) hd10.none) hd10.le) ?_)
    rintro _ _ ⟨rfl, rfl⟩
    refine Ops_quiet _ rfl rfl (QO.bin rfl rfl rfl rfl) ?_
    refine Ops_nil ?_
    refine thenA_n ?_
    refine wpA_cond rfl (fun g3 => ?_) (fun g3 => ?_)
    ·replace hm := cond_t hm g3
     refine wpA_any (upd (upd (h) b1 (.own 37 (sqC sq0) 101)) b2 (.own 37 (sqC x5) 101)) [3, 6, 9, 11] [11] (by kernel_rfl) (by kernel_rfl) (DW.start ?_)
     refine DW.readK' 0 _ rfl (by kernel_rfl) rfl (Le.upd_left (Le.upd_left (Le.under (Le.under (Le.under (Le.refl _) hb1) hb2) h_p0) ((upd_ne _ _ n_b1_p0.ne).trans ((upd_ne _ _ n_b2_b1.ne.symm).trans (upd_same _ _ _))) (by first | rfl | (simp; done))) ((upd_ne _ _ n_b2_p0.ne).trans (upd_same _ _ _)) (by first | rfl | (simp; done))) (QO.loadRow (cs := sqC x5) (hr := (rdAll (upd_same _ _ _))) rfl sz37 rfl rfl (sqC_length _)) ?_
     refine DW.pure' 1 _ rfl (by kernel_rfl) rfl (fun _ => QO.move rfl rfl) ?_
     refine DW.pure' 2 _ rfl (by kernel_rfl) rfl (fun _ => QO.move rfl rfl) ?_
     refine DW.pure' 4 _ rfl (by kernel_rfl) rfl (fun _ => QO.move rfl rfl) ?_
     refine DW.pure' 5 _ rfl (by kernel_rfl) rfl (fun _ => QO.move rfl rfl) ?_
     refine DW.pure' 7 _ rfl (by kernel_rfl) rfl (fun _ => QO.move rfl rfl) ?_
     refine DW.pure' 8 _ rfl (by kernel_rfl) rfl (fun _ => QO.move rfl rfl) ?_
     have hq := Option.bind_eq_some_iff.1 hm; clear hm; obtain ⟨r14, hr14, hm⟩ := hq
     have hd11 : Del (upd (upd (upd (h) b1 (.own 37 (sqC sq0) 101)) b2 (.own 37 (sqC x5) 101)) p0 (.own 65 (srcC A_s l_s.length c_s r13.2) 3)) p0 (.own 65 (srcC A_s l_s.length c_s r13.2) 3) (upd (upd (h) b1 (.own 37 (sqC sq0) 101)) b2 (.own 37 (sqC x5) 101)) := (Del.here (none_upd n_b2_p0.ne.symm (none_upd n_b1_p0.ne.symm h_p0)))
     refine DW.call 3 _ _ rfl (by kernel_rfl) rfl rfl (EO.fn rfl Try.func28 rfl rfl (Evs.cons rfl (Evs.cons rfl Evs.nil))) (CC.mono (CC.atLe (c_spec_l01DrawPlaces (h := upd (upd (h) b1 (.own 37 (sqC sq0) 101)) b2 (.own 37 (sqC x5) 101)) hr14 (RdS.le hs_s (Le.under (Le.under (Le.refl _) hb1) hb2)) hd11.none) hd11.le) ?_)
     rintro _ _ ⟨rfl, rfl⟩
     refine ⟨(fun _ => (Le.upd_left (Le.upd_left (Le.under (Le.under (Le.under (Le.refl _) hb1) hb2) h_p0) ((upd_ne _ _ n_b1_p0.ne).trans ((upd_ne _ _ n_b2_b1.ne.symm).trans (upd_same _ _ _))) (by first | rfl | (simp; done))) ((upd_ne _ _ n_b2_p0.ne).trans (upd_same _ _ _)) (by first | rfl | (simp; done)))), ?_⟩
     have hq := Option.bind_eq_some_iff.1 hm; clear hm; obtain ⟨r15, hr15, hm⟩ := hq
     have hd12 : Del (upd (upd (upd (h) b1 (.own 37 (sqC sq0) 101)) b2 (.own 37 (sqC x5) 101)) p0 (.own 65 (srcC A_s l_s.length c_s r14.2) 3)) p0 (.own 65 (srcC A_s l_s.length c_s r14.2) 3) (upd (upd (h) b1 (.own 37 (sqC sq0) 101)) b2 (.own 37 (sqC x5) 101)) := (Del.here (none_upd n_b2_p0.ne.symm (none_upd n_b1_p0.ne.symm h_p0)))
     refine DW.call 6 _ _ rfl (by kernel_rfl) rfl rfl (EO.fn rfl Try.func28 rfl rfl (Evs.cons rfl (Evs.cons rfl Evs.nil))) (CC.mono (CC.atLe (c_spec_l01DrawPlaces (h := upd (upd (h) b1 (.own 37 (sqC sq0) 101)) b2 (.own 37 (sqC x5) 101)) hr15 (RdS.le hs_s (Le.under (Le.under (Le.refl _) hb1) hb2)) hd12.none) hd12.le) ?_)
     rintro _ _ ⟨rfl, rfl⟩
     refine ⟨(fun _ => (Le.upd_left (Le.upd_left (Le.under (Le.under (Le.under (Le.refl _) hb1) hb2) h_p0) ((upd_ne _ _ n_b1_p0.ne).trans ((upd_ne _ _ n_b2_b1.ne.symm).trans (upd_same _ _ _))) (by first | rfl | (simp; done))) ((upd_ne _ _ n_b2_p0.ne).trans (upd_same _ _ _)) (by first | rfl | (simp; done)))), ?_⟩
     have hq := Option.bind_eq_some_iff.1 hm; clear hm; obtain ⟨r16, hr16, hm⟩ := hq
     have hd13 : Del (upd (upd (upd (h) b1 (.own 37 (sqC sq0) 101)) b2 (.own 37 (sqC x5) 101)) p0 (.own 65 (srcC A_s l_s.length c_s r15.2) 3)) p0 (.own 65 (srcC A_s l_s.length c_s r15.2) 3) (upd (upd (h) b1 (.own 37 (sqC sq0) 101)) b2 (.own 37 (sqC x5) 101)) := (Del.here (none_upd n_b2_p0.ne.symm (none_upd n_b1_p0.ne.symm h_p0)))
     refine DW.call 9 _ _ rfl (by kernel_rfl) rfl rfl (EO.fn rfl Try.func28 rfl rfl (Evs.cons rfl (Evs.cons rfl Evs.nil))) (CC.mono (CC.atLe (c_spec_l01DrawPlaces (h := upd (upd (h) b1 (.own 37 (sqC sq0) 101)) b2 (.own 37 (sqC x5) 101)) hr16 (RdS.le hs_s (Le.under (Le.under (Le.refl _) hb1) hb2)) hd13.none) hd13.le) ?_)
     rintro _ _ ⟨rfl, rfl⟩
     refine ⟨(fun _ => (Le.upd_left (Le.upd_left (Le.under (Le.under (Le.under (Le.refl _) hb1) hb2) h_p0) ((upd_ne _ _ n_b1_p0.ne).trans ((upd_ne _ _ n_b2_b1.ne.symm).trans (upd_same _ _ _))) (by first | rfl | (simp; done))) ((upd_ne _ _ n_b2_p0.ne).trans (upd_same _ _ _)) (by first | rfl | (simp; done)))), ?_⟩
     have hq := Option.bind_eq_some_iff.1 hm; clear hm; obtain ⟨r17, hr17, hm⟩ := hq
     refine DW.qcall' 10 _ _ _ rfl (by kernel_rfl) rfl (EO.fn rfl Try.func64 rfl rfl (Evs.cons rfl (Evs.cons rfl (Evs.cons rfl (Evs.cons rfl Evs.nil))))) (c_spec_l01Moved hr17 ) ?_
     refine DW.loud 11 rfl (by kernel_rfl) rfl rfl (LO.storeAll (cs := sqC r17) rfl sz37 rfl rfl (sqC_one _) (sqC_length _) ((upd_ne _ _ n_b2_p0.ne).trans (upd_same _ _ _)) (sqC_length _) (Chg.there n_b2_p0.ne.symm Chg.here) rfl ?_)
     refine ⟨(fun e => absurd e (by decide)), ?_⟩
     refine DW.done (by kernel_rfl) ?_ _
     refine thenA_n ?_
     refine wpA_seq ?_
     refine wpA_region ?_
     refine Ops_quiet _ rfl rfl (QO.loadRow (cs := sqC r17) (hr := (rdAll ((upd_ne _ _ n_b2_p0.ne).trans (upd_same _ _ _)))) rfl sz37 rfl rfl (sqC_length _)) ?_
     have hq := Option.bind_eq_some_iff.1 hm; clear hm; obtain ⟨r18, hr18, hm⟩ := hq
     refine Ops_call _ _ rfl rfl (EO.fn rfl Try.func65 rfl rfl (Evs.cons rfl Evs.nil)) (QC.cc (c_spec_l01Ordered hr18 ) ?_)
     refine Ops_loud rfl (LO.storeAll (cs := sqC r18) rfl sz37 rfl rfl (sqC_one _) (sqC_length _) ((upd_ne _ _ n_b1_p0.ne).trans ((upd_ne _ _ n_b2_b1.ne.symm).trans (upd_same _ _ _))) (sqC_length _) (Chg.there n_b1_p0.ne.symm (Chg.there n_b2_b1.ne Chg.here)) rfl ?_)
     refine Ops_nil ?_
     refine thenA_n ?_
     refine wpA_ret ?_
     obtain rfl := Option.some.inj hm
     exact retA_r (h2 := upd (h) p0 (.own 65 (srcC A_s l_s.length c_s r16.2) 3)) (Res.one rfl (res1.row (cs := sqC r18) (hr := (rdAll ((upd_ne _ _ n_b1_p0.ne).trans ((upd_ne _ _ n_b2_b1.ne.symm).trans (upd_same _ _ _))))) sz37 rfl rfl (sqC_length _))) (Le.upd_left (Le.under (Le.under (Le.under (Le.refl _) hb1) hb2) h_p0) (upd_same _ _ _) (by first | rfl | (simp; done))) ⟨rfl, rfl⟩
    ·replace hm := cond_f hm g3
     refine wpA_skip ?_
     refine thenA_n ?_
     refine wpA_seq ?_
     refine wpA_region ?_
     refine Ops_quiet _ rfl rfl (QO.loadRow (cs := sqC x5) (hr := (rdAll ((upd_ne _ _ n_b2_p0.ne).trans (upd_same _ _ _)))) rfl sz37 rfl rfl (sqC_length _)) ?_
     have hq := Option.bind_eq_some_iff.1 hm; clear hm; obtain ⟨r19, hr19, hm⟩ := hq
     refine Ops_call _ _ rfl rfl (EO.fn rfl Try.func65 rfl rfl (Evs.cons rfl Evs.nil)) (QC.cc (c_spec_l01Ordered hr19 ) ?_)
     refine Ops_loud rfl (LO.storeAll (cs := sqC r19) rfl sz37 rfl rfl (sqC_one _) (sqC_length _) ((upd_ne _ _ n_b1_p0.ne).trans ((upd_ne _ _ n_b2_b1.ne.symm).trans (upd_same _ _ _))) (sqC_length _) (Chg.there n_b1_p0.ne.symm (Chg.there n_b2_b1.ne Chg.here)) rfl ?_)
     refine Ops_nil ?_
     refine thenA_n ?_
     refine wpA_ret ?_
     obtain rfl := Option.some.inj hm
     exact retA_r (h2 := upd (h) p0 (.own 65 (srcC A_s l_s.length c_s r13.2) 3)) (Res.one rfl (res1.row (cs := sqC r19) (hr := (rdAll ((upd_ne _ _ n_b1_p0.ne).trans ((upd_ne _ _ n_b2_b1.ne.symm).trans (upd_same _ _ _))))) sz37 rfl rfl (sqC_length _))) (Le.upd_left (Le.under (Le.under (Le.under (Le.refl _) hb1) hb2) h_p0) (upd_same _ _ _) (by first | rfl | (simp; done))) ⟨rfl, rfl⟩
   rw [if_neg hid1] at hm
   exact absurd hm (by simp)

/-! loop.example/g01195/spec.l01Broken -/
theorem c_spec_l01Broken {a0 : Src} {p0 : Nat} {l_s : List Int} {A_s : Option Addr} {c_s : Nat} {a1 : Sq} {h : Hp} {r : Sq × Src} (hm : m_spec_l01Broken a0 l_s a1 = some r) (hs_s : RdS h A_s (ints .u8 l_s)) (h_p0 : h p0 = none) :
    CC Try.prog 38 #[.pointer (some ⟨p0, 0, none⟩), .agg (sqC a1).toArray] (upd (h) p0 (.own 65 (srcC A_s l_s.length c_s a0) 3)) (fun v h' => v = .agg (sqC r.1).toArray ∧ h' = upd (h) p0 (.own 65 (srcC A_s l_s.length c_s r.2) 3)) := by
 unfold m_spec_l01Broken at hm
 refine CC.enter Try.func38 rfl Try.ntmps38 rfl ?_
 refine wpA_seq ?_
 refine wpA_region ?_
 refine Ops_loud rfl (LO.boxAgg rfl rfl rfl (fun b1 hb1 => ?_))
 simp only [upd_noneA] at hb1
 obtain ⟨n_b1_p0, hb1⟩ := hb1
 refine Ops_loud rfl (LO.alloc rfl zr37 rfl (fun b2 hb2 => ?_))
 simp only [upd_noneA] at hb2
 obtain ⟨n_b2_b1, n_b2_p0, hb2⟩ := hb2
 refine Ops_nil ?_
 refine thenA_n ?_
 refine wpA_seq ?_
 refine wpA_seq ?_
 refine wpA_region ?_
 refine Ops_quiet _ rfl rfl (QO.move rfl rfl) ?_
 have hq := Option.bind_eq_some_iff.1 hm; clear hm; obtain ⟨r1, hr1, hm⟩ := hq
 have hd1 : Del (upd (upd (upd (h) p0 (.own 65 (srcC A_s l_s.length c_s a0) 3)) b1 (.own 37 (sqC a1) 101)) b2 (.own 37 (sqC sq0) 101)) p0 (.own 65 (srcC A_s l_s.length c_s a0) 3) (upd (upd (h) b1 (.own 37 (sqC a1) 101)) b2 (.own 37 (sqC sq0) 101)) := (Del.there n_b2_p0.ne.symm (Del.there n_b1_p0.ne.symm (Del.here h_p0)))
 refine Ops_call _ _ rfl rfl (EO.fn rfl Try.func27 rfl rfl (Evs.cons rfl (Evs.cons rfl Evs.nil))) (CC.mono (CC.atLe (c_spec_l01Next (h := upd (upd (h) b1 (.own 37 (sqC a1) 101)) b2 (.own 37 (sqC sq0) 101)) hr1 (RdS.le hs_s (Le.under (Le.under (Le.refl _) hb1) hb2)) hd1.none) hd1.le) ?_)
 rintro _ _ ⟨rfl, rfl⟩
 refine Ops_nil ?_
 refine thenA_n ?_
 refine wpA_block ?_
 refine wpA_seq ?_
 refine wpA_region ?_
 refine Ops_quiet _ rfl rfl (QO.bin rfl rfl rfl rfl) ?_
 refine Ops_quiet _ rfl rfl (QO.assign rfl rfl) ?_
 refine Ops_nil ?_
 refine thenA_n ?_
 refine wpA_cond rfl (fun g1 => ?_) (fun g1 => ?_)
 ·replace hm := cond_t hm g1
  refine wpA_region ?_
  refine Ops_quiet _ rfl rfl (QO.fieldAt (fo := 1) rfl sz37 rfl rfl sz35 rfl rfl) ?_
  refine Ops_quiet _ rfl rfl (QO.idxArr rfl sz35 sz24 rfl rfl (by decide) (by decide)) ?_
  refine Ops_quiet _ rfl rfl (QO.idxArr rfl sz24 sz5 rfl rfl (by decide) (by decide)) ?_
  refine Ops_quiet _ rfl rfl (QO.load rfl sz5 rfl rfl (by (refine (rd_own ((upd_ne _ _ n_b1_p0.ne).trans ((upd_ne _ _ n_b2_b1.ne.symm).trans (upd_same _ _ _))) _).trans ?_); exact sqC_get (by omega) (by omega))) ?_
  refine Ops_quiet _ rfl rfl (QO.bin rfl rfl rfl rfl) ?_
  refine Ops_quiet _ rfl rfl (QO.fieldAt (fo := 1) rfl sz37 rfl rfl sz35 rfl rfl) ?_
  refine Ops_quiet _ rfl rfl (QO.idxArr rfl sz35 sz24 rfl rfl (by decide) (by decide)) ?_
  refine Ops_quiet _ rfl rfl (QO.idxArr rfl sz24 sz5 rfl rfl (by decide) (by decide)) ?_
  refine Ops_loud rfl (LO.store' (xs' := sqC (⟨a1.order, (tset a1.t 0 0 (IntKind.u8.wrap ((a1.t 0 0) + 1)))⟩ : Sq)) rfl sz5 rfl rfl rfl ((upd_ne _ _ n_b1_p0.ne).trans ((upd_ne _ _ n_b2_b1.ne.symm).trans (upd_same _ _ _))) (by first | ((try simp only [sqC_length, tbC_length, tabI_length, tabB_length, ints_length, plsC_length, trC_length, sqsC_length, strsC_length, boolsC_length, tbB_length, List.length_append, List.length_cons, List.length_nil, List.length_set, List.length_replicate, rep_length]); first | omega | decide) | exact Nat.le_of_ble_eq_true rfl) (sqC_set (by omega) (by omega)) (Chg.there n_b1_p0.ne.symm (Chg.there n_b2_b1.ne Chg.here)) rfl ?_)
  refine Ops_nil ?_
  refine blockA_n ?_
  refine thenA_n ?_
  refine wpA_seq ?_
  refine wpA_region ?_
  refine Ops_quiet _ rfl rfl (QO.loadRow (cs := sqC (⟨a1.order, (tset a1.t 0 0 (IntKind.u8.wrap ((a1.t 0 0) + 1)))⟩ : Sq)) (hr := (rdAll ((upd_ne _ _ n_b1_p0.ne).trans ((upd_ne _ _ n_b2_b1.ne.symm).trans (upd_same _ _ _))))) rfl sz37 rfl rfl (sqC_length _)) ?_
  refine Ops_loud rfl (LO.storeAll (cs := sqC (⟨a1.order, (tset a1.t 0 0 (IntKind.u8.wrap ((a1.t 0 0) + 1)))⟩ : Sq)) rfl sz37 rfl rfl (sqC_one _) (sqC_length _) ((upd_ne _ _ n_b2_p0.ne).trans (upd_same _ _ _)) (sqC_length _) (Chg.there n_b2_p0.ne.symm Chg.here) rfl ?_)
  refine Ops_nil ?_
  refine thenA_n ?_
  refine wpA_ret ?_
  obtain rfl := Option.some.inj hm
  exact retA_r (h2 := upd (h) p0 (.own 65 (srcC A_s l_s.length c_s r1.2) 3)) (Res.one rfl (res1.row (cs := sqC (⟨a1.order, (tset a1.t 0 0 (IntKind.u8.wrap ((a1.t 0 0) + 1)))⟩ : Sq)) (hr := (rdAll ((upd_ne _ _ n_b2_p0.ne).trans (upd_same _ _ _)))) sz37 rfl rfl (sqC_length _))) (Le.upd_left (Le.under (Le.under (Le.under (Le.refl _) hb1) hb2) h_p0) (upd_same _ _ _) (by first | rfl | (simp; done))) ⟨rfl, rfl⟩
 ·replace hm := cond_f hm g1
  refine wpA_seq ?_
  refine wpA_region ?_
  refine Ops_quiet _ rfl rfl (QO.bin rfl rfl rfl rfl) ?_
  refine Ops_quiet _ rfl rfl (QO.assign rfl rfl) ?_
  refine Ops_nil ?_
  refine thenA_n ?_
  refine wpA_cond rfl (fun g2 => ?_) (fun g2 => ?_)
  ·replace hm := cond_t hm g2
   refine wpA_region ?_
   refine Ops_quiet _ rfl rfl (QO.move rfl rfl) ?_
   refine Ops_quiet _ rfl rfl (QO.fieldAt (fo := 0) rfl sz37 rfl rfl sz2 rfl rfl) ?_
   refine Ops_quiet _ rfl rfl (QO.load rfl sz2 rfl rfl (by (refine (rd_own ((upd_ne _ _ n_b1_p0.ne).trans ((upd_ne _ _ n_b2_b1.ne.symm).trans (upd_same _ _ _))) _).trans ?_); exact rfl)) ?_
   refine Ops_quiet _ rfl rfl (QO.bin rfl rfl rfl rfl) ?_
   refine Ops_quiet _ rfl rfl (QO.fieldAt (fo := 0) rfl sz37 rfl rfl sz2 rfl rfl) ?_
   refine Ops_quiet _ rfl rfl (QO.load rfl sz2 rfl rfl (by (refine (rd_own ((upd_ne _ _ n_b1_p0.ne).trans ((upd_ne _ _ n_b2_b1.ne.symm).trans (upd_same _ _ _))) _).trans ?_); exact rfl)) ?_
   refine Ops_quiet _ rfl rfl (QO.bin rfl rfl rfl rfl) ?_
   refine Ops_loud rfl (LO.slice' [(0, .int .i64 0), (1, .int .i64 11), (2, .int .i64 (-1)), (3, .int .i64 (IntKind.i64.wrap (a1.order + 1))), (4, .int .i64 (IntKind.i64.wrap (a1.order - 1)))] (r := ints .i64 [0, 11, (-1), (IntKind.i64.wrap (a1.order + 1)), (IntKind.i64.wrap (a1.order - 1))]) rfl sz70 sz2 zr2 (by first | rfl | (simp [sqC_length, tbC_length, tabI_length, tabB_length, ints_length, plsC_length, trC_length, sqsC_length, strsC_length, boolsC_length, tbB_length, List.length_append, List.length_cons, List.length_nil, List.length_set, List.length_replicate, rep_length]; done)) (by decide) (by decide) (by decide) rfl rfl (by first | rfl | (simp [sqC_length, tbC_length, tabI_length, tabB_length, ints_length, plsC_length, trC_length, sqsC_length, strsC_length, boolsC_length, tbB_length, List.length_append, List.length_cons, List.length_nil, List.length_set, List.length_replicate, rep_length]; done)) rfl (fun b3 hb3 => ?_))
   simp only [upd_noneA] at hb3
   obtain ⟨n_b3_p0, n_b3_b2, n_b3_b1, hb3⟩ := hb3
   have hq := Option.bind_eq_some_iff.1 hm; clear hm; obtain ⟨r2, hr2, hm⟩ := hq
   have hd2 : Del (upd (upd (upd (upd (h) b1 (.own 37 (sqC a1) 101)) b2 (.own 37 (sqC sq0) 101)) p0 (.own 65 (srcC A_s l_s.length c_s r1.2) 3)) b3 (.own 2 (ints .i64 [0, 11, (-1), (IntKind.i64.wrap (a1.order + 1)), (IntKind.i64.wrap (a1.order - 1))]) (5 * 1))) p0 (.own 65 (srcC A_s l_s.length c_s r1.2) 3) (upd (upd (upd (h) b1 (.own 37 (sqC a1) 101)) b2 (.own 37 (sqC sq0) 101)) b3 (.own 2 (ints .i64 [0, 11, (-1), (IntKind.i64.wrap (a1.order + 1)), (IntKind.i64.wrap (a1.order - 1))]) (5 * 1))) := (Del.there n_b3_p0.ne.symm (Del.here (none_upd n_b2_p0.ne.symm (none_upd n_b1_p0.ne.symm h_p0))))
   refine Ops_call _ _ rfl rfl (EO.fn rfl Try.func40 rfl rfl (Evs.cons rfl (Evs.cons rfl Evs.nil))) (CC.mono (CC.atLe (c_spec_l01Pick (l1 := [0, 11, (-1), (IntKind.i64.wrap (a1.order + 1)), (IntKind.i64.wrap (a1.order - 1))]) (A1 := some ⟨b3, 0, none⟩) (c1 := 5) (h := upd (upd (upd (h) b1 (.own 37 (sqC a1) 101)) b2 (.own 37 (sqC sq0) 101)) b3 (.own 2 (ints .i64 [0, 11, (-1), (IntKind.i64.wrap (a1.order + 1)), (IntKind.i64.wrap (a1.order - 1))]) (5 * 1))) hr2 (RdS.le hs_s (Le.under (Le.under (Le.under (Le.refl _) hb1) hb2) hb3)) (RdS.own (upd_same _ _ _)) hd2.none) hd2.le) ?_)
   rintro _ _ ⟨rfl, rfl⟩
   refine Ops_quiet _ rfl rfl (QO.fieldAt (fo := 0) rfl sz37 rfl rfl sz2 rfl rfl) ?_
   refine Ops_loud rfl (LO.store' (xs' := sqC (⟨r2.1, a1.t⟩ : Sq)) rfl sz2 rfl rfl rfl ((upd_ne _ _ n_b1_p0.ne).trans ((upd_ne _ _ n_b3_b1.ne.symm).trans ((upd_ne _ _ n_b2_b1.ne.symm).trans (upd_same _ _ _)))) (by first | ((try simp only [sqC_length, tbC_length, tabI_length, tabB_length, ints_length, plsC_length, trC_length, sqsC_length, strsC_length, boolsC_length, tbB_length, List.length_append, List.length_cons, List.length_nil, List.length_set, List.length_replicate, rep_length]); first | omega | decide) | exact Nat.le_of_ble_eq_true rfl) sqC_setOrd (Chg.there n_b1_p0.ne.symm (Chg.there n_b3_b1.ne (Chg.there n_b2_b1.ne Chg.here))) rfl ?_)
   refine Ops_nil ?_
   refine blockA_n ?_
   refine thenA_n ?_
   refine wpA_seq ?_
   refine wpA_region ?_
   refine Ops_quiet _ rfl rfl (QO.loadRow (cs := sqC (⟨r2.1, a1.t⟩ : Sq)) (hr := (rdAll ((upd_ne _ _ n_b1_p0.ne).trans ((upd_ne _ _ n_b3_b1.ne.symm).trans ((upd_ne _ _ n_b2_b1.ne.symm).trans (upd_same _ _ _)))))) rfl sz37 rfl rfl (sqC_length _)) ?_
   refine Ops_loud rfl (LO.storeAll (cs := sqC (⟨r2.1, a1.t⟩ : Sq)) rfl sz37 rfl rfl (sqC_one _) (sqC_length _) ((upd_ne _ _ n_b2_p0.ne).trans ((upd_ne _ _ n_b3_b2.ne.symm).trans (upd_same _ _ _))) (sqC_length _) (Chg.there n_b2_p0.ne.symm (Chg.there n_b3_b2.ne Chg.here)) rfl ?_)
   refine Ops_nil ?_
   refine thenA_n ?_
   refine wpA_ret ?_
   obtain rfl := Option.some.inj hm
   exact retA_r (h2 := upd (h) p0 (.own 65 (srcC A_s l_s.length c_s r2.2) 3)) (Res.one rfl (res1.row (cs := sqC (⟨r2.1, a1.t⟩ : Sq)) (hr := (rdAll ((upd_ne _ _ n_b2_p0.ne).trans ((upd_ne _ _ n_b3_b2.ne.symm).trans (upd_same _ _ _))))) sz37 rfl rfl (sqC_length _))) (Le.upd_left (Le.under (Le.under (Le.under (Le.under (Le.refl _) hb1) hb2) hb3) h_p0) (upd_same _ _ _) (by first | rfl | (simp; done))) ⟨rfl, rfl⟩
  ·replace hm := cond_f hm g2
   refine wpA_seq ?_
   refine wpA_region ?_
   refine Ops_quiet _ rfl rfl (QO.bin rfl rfl rfl rfl) ?_
   refine Ops_quiet _ rfl rfl (QO.assign rfl rfl) ?_
   refine Ops_nil ?_
   refine thenA_n ?_
   refine wpA_cond rfl (fun g3 => ?_) (fun g3 => ?_)
   ·replace hm := cond_t hm g3
    refine wpA_region ?_
    refine Ops_quiet _ rfl rfl (QO.move rfl rfl) ?_
    refine Ops_loud rfl (LO.slice' [(0, .int .i64 1), (1, .int .i64 255)] (r := ints .i64 [1, 255]) rfl sz70 sz2 zr2 (by first | rfl | (simp [sqC_length, tbC_length, tabI_length, tabB_length, ints_length, plsC_length, trC_length, sqsC_length, strsC_length, boolsC_length, tbB_length, List.length_append, List.length_cons, List.length_nil, List.length_set, List.length_replicate, rep_length]; done)) (by decide) (by decide) (by decide) rfl rfl (by first | rfl | (simp [sqC_length, tbC_length, tabI_length, tabB_length, ints_length, plsC_length, trC_length, sqsC_length, strsC_length, boolsC_length, tbB_length, List.length_append, List.length_cons, List.length_nil, List.length_set, List.length_replicate, rep_length]; done)) rfl (fun b4 hb4 => ?_))
    simp only [upd_noneA] at hb4
    obtain ⟨n_b4_p0, n_b4_b2, n_b4_b1, hb4⟩ := hb4
    have hq := Option.bind_eq_some_iff.1 hm; clear hm; obtain ⟨r3, hr3, hm⟩ := hq
    have hd3 : Del (upd (upd (upd (upd (h) b1 (.own 37 (sqC a1) 101)) b2 (.own 37 (sqC sq0) 101)) p0 (.own 65 (srcC A_s l_s.length c_s r1.2) 3)) b4 (.own 2 (ints .i64 [1, 255]) (2 * 1))) p0 (.own 65 (srcC A_s l_s.length c_s r1.2) 3) (upd (upd (upd (h) b1 (.own 37 (sqC a1) 101)) b2 (.own 37 (sqC sq0) 101)) b4 (.own 2 (ints .i64 [1, 255]) (2 * 1))) := (Del.there n_b4_p0.ne.symm (Del.here (none_upd n_b2_p0.ne.symm (none_upd n_b1_p0.ne.symm h_p0))))
    refine Ops_call _ _ rfl rfl (EO.fn rfl Try.func40 rfl rfl (Evs.cons rfl (Evs.cons rfl Evs.nil))) (CC.mono (CC.atLe (c_spec_l01Pick (l1 := [1, 255]) (A1 := some ⟨b4, 0, none⟩) (c1 := 2) (h := upd (upd (upd (h) b1 (.own 37 (sqC a1) 101)) b2 (.own 37 (sqC sq0) 101)) b4 (.own 2 (ints .i64 [1, 255]) (2 * 1))) hr3 (RdS.le hs_s (Le.under (Le.under (Le.under (Le.refl _) hb1) hb2) hb4)) (RdS.own (upd_same _ _ _)) hd3.none) hd3.le) ?_)
    rintro _ _ ⟨rfl, rfl⟩
    refine Ops_quiet _ rfl rfl (QO.conv rfl sz2 sz5 rfl) ?_
    refine Ops_quiet _ rfl rfl (QO.fieldAt (fo := 1) rfl sz37 rfl rfl sz35 rfl rfl) ?_
    refine Ops_quiet _ rfl rfl (QO.idxArr rfl sz35 sz24 rfl rfl (by decide) (by decide)) ?_
    refine Ops_quiet _ rfl rfl (QO.idxArr rfl sz24 sz5 rfl rfl (by decide) (by decide)) ?_
    refine Ops_loud rfl (LO.store' (xs' := sqC (⟨a1.order, (tset a1.t 9 9 (IntKind.u8.wrap r3.1))⟩ : Sq)) rfl sz5 rfl rfl rfl ((upd_ne _ _ n_b1_p0.ne).trans ((upd_ne _ _ n_b4_b1.ne.symm).trans ((upd_ne _ _ n_b2_b1.ne.symm).trans (upd_same _ _ _)))) (by first | ((try simp only [sqC_length, tbC_length, tabI_length, tabB_length, ints_length, plsC_length, trC_length, sqsC_length, strsC_length, boolsC_length, tbB_length, List.length_append, List.length_cons, List.length_nil, List.length_set, List.length_replicate, rep_length]); first | omega | decide) | exact Nat.le_of_ble_eq_true rfl) (sqC_set (by omega) (by omega)) (Chg.there n_b1_p0.ne.symm (Chg.there n_b4_b1.ne (Chg.there n_b2_b1.ne Chg.here))) rfl ?_)
    refine Ops_nil ?_
    refine blockA_n ?_
    refine thenA_n ?_
    refine wpA_seq ?_
    refine wpA_region ?_
    refine Ops_quiet _ rfl rfl (QO.loadRow (cs := sqC (⟨a1.order, (tset a1.t 9 9 (IntKind.u8.wrap r3.1))⟩ : Sq)) (hr := (rdAll ((upd_ne _ _ n_b1_p0.ne).trans ((upd_ne _ _ n_b4_b1.ne.symm).trans ((upd_ne _ _ n_b2_b1.ne.symm).trans (upd_same _ _ _)))))) rfl sz37 rfl rfl (sqC_length _)) ?_
    refine Ops_loud rfl (LO.storeAll (cs := sqC (⟨a1.order, (tset a1.t 9 9 (IntKind.u8.wrap r3.1))⟩ : Sq)) rfl sz37 rfl rfl (sqC_one _) (sqC_length _) ((upd_ne _ _ n_b2_p0.ne).trans ((upd_ne _ _ n_b4_b2.ne.symm).trans (upd_same _ _ _))) (sqC_length _) (Chg.there n_b2_p0.ne.symm (Chg.there n_b4_b2.ne Chg.here)) rfl ?_)
    refine Ops_nil ?_
    refine thenA_n ?_
    refine wpA_ret ?_
    obtain rfl := Option.some.inj hm
    exact retA_r (h2 := upd (h) p0 (.own 65 (srcC A_s l_s.length c_s r3.2) 3)) (Res.one rfl (res1.row (cs := sqC (⟨a1.order, (tset a1.t 9 9 (IntKind.u8.wrap r3.1))⟩ : Sq)) (hr := (rdAll ((upd_ne _ _ n_b2_p0.ne).trans ((upd_ne _ _ n_b4_b2.ne.symm).trans (upd_same _ _ _))))) sz37 rfl rfl (sqC_length _))) (Le.upd_left (Le.under (Le.under (Le.under (Le.under (Le.refl _) hb1) hb2) hb4) h_p0) (upd_same _ _ _) (by first | rfl | (simp; done))) ⟨rfl, rfl⟩
   ·replace hm := cond_f hm g3
    refine wpA_skip ?_
    refine blockA_n ?_
    refine thenA_n ?_
    refine wpA_seq ?_
    refine wpA_region ?_
    refine Ops_quiet _ rfl rfl (QO.loadRow (cs := sqC a1) (hr := (rdAll ((upd_ne _ _ n_b1_p0.ne).trans ((upd_ne _ _ n_b2_b1.ne.symm).trans (upd_same _ _ _))))) rfl sz37 rfl rfl (sqC_length _)) ?_
    refine Ops_loud rfl (LO.storeAll (cs := sqC a1) rfl sz37 rfl rfl (sqC_one _) (sqC_length _) ((upd_ne _ _ n_b2_p0.ne).trans (upd_same _ _ _)) (sqC_length _) (Chg.there n_b2_p0.ne.symm Chg.here) rfl ?_)
    refine Ops_nil ?_
    refine thenA_n ?_
    refine wpA_ret ?_
    obtain rfl := Option.some.inj hm
    exact retA_r (h2 := upd (h) p0 (.own 65 (srcC A_s l_s.length c_s r1.2) 3)) (Res.one rfl (res1.row (cs := sqC a1) (hr := (rdAll ((upd_ne _ _ n_b2_p0.ne).trans (upd_same _ _ _)))) sz37 rfl rfl (sqC_length _))) (Le.upd_left (Le.under (Le.under (Le.under (Le.refl _) hb1) hb2) h_p0) (upd_same _ _ _) (by first | rfl | (simp; done))) ⟨rfl, rfl⟩

/-! loop.example/g01195/spec.l01DrawSquare -/
theorem c_spec_l01DrawSquare {a0 : Src} {p0 : Nat} {l_s : List Int} {A_s : Option Addr} {c_s : Nat} {h : Hp} {r : Sq × Src} (hm : m_spec_l01DrawSquare a0 l_s = some r) (hs_s : RdS h A_s (ints .u8 l_s)) (h_p0 : h p0 = none) :
    CC Try.prog 54 #[.pointer (some ⟨p0, 0, none⟩)] (upd (h) p0 (.own 65 (srcC A_s l_s.length c_s a0) 3)) (fun v h' => v = .agg (sqC r.1).toArray ∧ h' = upd (h) p0 (.own 65 (srcC A_s l_s.length c_s r.2) 3)) := by
 unfold m_spec_l01DrawSquare at hm
 refine CC.enter Try.func54 rfl Try.ntmps54 rfl ?_
 refine wpA_seq ?_
 refine wpA_region ?_
 refine Ops_loud rfl (LO.alloc rfl zr37 rfl (fun b1 hb1 => ?_))
 simp only [upd_noneA] at hb1
 obtain ⟨n_b1_p0, hb1⟩ := hb1
 refine Ops_nil ?_
 refine thenA_n ?_
 refine wpA_seq ?_
 refine wpA_region ?_
 refine Ops_quiet _ rfl rfl (QO.move rfl rfl) ?_
 have hq := Option.bind_eq_some_iff.1 hm; clear hm; obtain ⟨r1, hr1, hm⟩ := hq
 have hd1 : Del (upd (upd (h) p0 (.own 65 (srcC A_s l_s.length c_s a0) 3)) b1 (.own 37 (sqC sq0) 101)) p0 (.own 65 (srcC A_s l_s.length c_s a0) 3) (upd (h) b1 (.own 37 (sqC sq0) 101)) := (Del.there n_b1_p0.ne.symm (Del.here h_p0))
 refine Ops_call _ _ rfl rfl (EO.fn rfl Try.func53 rfl rfl (Evs.cons rfl Evs.nil)) (CC.mono (CC.atLe (c_spec_l01Draw (h := upd (h) b1 (.own 37 (sqC sq0) 101)) hr1 (RdS.le hs_s (Le.under (Le.refl _) hb1)) hd1.none) hd1.le) ?_)
 rintro _ _ ⟨rfl, rfl⟩
 refine Ops_loud rfl (LO.alloc rfl zr37 rfl (fun b2 hb2 => ?_))
 simp only [upd_noneA] at hb2
 obtain ⟨n_b2_p0, n_b2_b1, hb2⟩ := hb2
 refine Ops_loud rfl (LO.storeAll (cs := sqC r1.1) rfl sz37 rfl rfl (sqC_one _) (sqC_length _) (upd_same _ _ _) (sqC_length _) Chg.here rfl ?_)
 refine Ops_nil ?_
 refine thenA_n ?_
 refine wpA_seq ?_
 refine wpA_region ?_
 refine Ops_quiet _ rfl rfl (QO.fieldAt (fo := 0) rfl sz37 rfl rfl sz2 rfl rfl) ?_
 refine Ops_quiet _ rfl rfl (QO.load rfl sz2 rfl rfl (by (refine (rd_own (upd_same _ _ _) _).trans ?_); exact rfl)) ?_
 refine Ops_quiet _ rfl rfl (QO.assign rfl rfl) ?_
 refine Ops_nil ?_
 refine thenA_n ?_
 refine wpA_seq ?_
 refine wpA_seq ?_
 refine wpA_region ?_
 refine Ops_quiet _ rfl rfl (QO.move rfl rfl) ?_
 have hq := Option.bind_eq_some_iff.1 hm; clear hm; obtain ⟨r2, hr2, hm⟩ := hq
 have hd2 : Del (upd (upd (upd (h) b1 (.own 37 (sqC sq0) 101)) p0 (.own 65 (srcC A_s l_s.length c_s r1.2) 3)) b2 (.own 37 (sqC r1.1) 101)) p0 (.own 65 (srcC A_s l_s.length c_s r1.2) 3) (upd (upd (h) b1 (.own 37 (sqC sq0) 101)) b2 (.own 37 (sqC r1.1) 101)) := (Del.there n_b2_p0.ne.symm (Del.here (none_upd n_b1_p0.ne.symm h_p0)))
 refine Ops_call _ _ rfl rfl (EO.fn rfl Try.func27 rfl rfl (Evs.cons rfl (Evs.cons rfl Evs.nil))) (CC.mono (CC.atLe (c_spec_l01Next (h := upd (upd (h) b1 (.own 37 (sqC sq0) 101)) b2 (.own 37 (sqC r1.1) 101)) hr2 (RdS.le hs_s (Le.under (Le.under (Le.refl _) hb1) hb2)) hd2.none) hd2.le) ?_)
 rintro _ _ ⟨rfl, rfl⟩
 refine Ops_quiet _ rfl rfl (QO.bin rfl rfl rfl rfl) ?_
 refine Ops_nil ?_
 refine thenA_n ?_
 refine wpA_cond rfl (fun g1 => ?_) (fun g1 => ?_)
 ·replace hm := cond_t hm g1
  refine wpA_seq ?_
  refine wpA_region ?_
  refine Ops_quiet _ rfl rfl (QO.loadRow (cs := sqC r1.1) (hr := (rdAll ((upd_ne _ _ n_b2_p0.ne).trans (upd_same _ _ _)))) rfl sz37 rfl rfl (sqC_length _)) ?_
  refine Ops_loud rfl (LO.storeAll (cs := sqC r1.1) rfl sz37 rfl rfl (sqC_one _) (sqC_length _) ((upd_ne _ _ n_b1_p0.ne).trans ((upd_ne _ _ n_b2_b1.ne.symm).trans (upd_same _ _ _))) (sqC_length _) (Chg.there n_b1_p0.ne.symm (Chg.there n_b2_b1.ne Chg.here)) rfl ?_)
  refine Ops_nil ?_
  refine thenA_n ?_
  refine wpA_ret ?_
  refine thenA_r ?_
  obtain rfl := Option.some.inj hm
  exact retA_r (h2 := upd (h) p0 (.own 65 (srcC A_s l_s.length c_s r2.2) 3)) (Res.one rfl (res1.row (cs := sqC r1.1) (hr := (rdAll ((upd_ne _ _ n_b1_p0.ne).trans ((upd_ne _ _ n_b2_b1.ne.symm).trans (upd_same _ _ _))))) sz37 rfl rfl (sqC_length _))) (Le.upd_left (Le.under (Le.under (Le.under (Le.refl _) hb1) hb2) h_p0) (upd_same _ _ _) (by first | rfl | (simp; done))) ⟨rfl, rfl⟩
 ·replace hm := cond_f hm g1
  refine wpA_skip ?_
  refine thenA_n ?_
  refine wpA_seq ?_
  refine wpA_any (upd (upd (h) b1 (.own 37 (sqC sq0) 101)) b2 (.own 37 (sqC r1.1) 101)) [3, 6, 9, 11] [11] (by kernel_rfl) (by kernel_rfl) (DW.start ?_)
  refine DW.readK' 0 _ rfl (by kernel_rfl) rfl (Le.upd_left (Le.upd_left (Le.under (Le.under (Le.under (Le.refl _) hb1) hb2) h_p0) ((upd_ne _ _ n_b1_p0.ne).trans ((upd_ne _ _ n_b2_b1.ne.symm).trans (upd_same _ _ _))) (by first | rfl | (simp; done))) ((upd_ne _ _ n_b2_p0.ne).trans (upd_same _ _ _)) (by first | rfl | (simp; done))) (QO.loadRow (cs := sqC r1.1) (hr := (rdAll (upd_same _ _ _))) rfl sz37 rfl rfl (sqC_length _)) ?_
  refine DW.pure' 1 _ rfl (by kernel_rfl) rfl (fun _ => QO.move rfl rfl) ?_
  refine DW.pure' 2 _ rfl (by kernel_rfl) rfl (fun _ => QO.move rfl rfl) ?_
  refine DW.pure' 4 _ rfl (by kernel_rfl) rfl (fun _ => QO.move rfl rfl) ?_
  refine DW.pure' 5 _ rfl (by kernel_rfl) rfl (fun _ => QO.move rfl rfl) ?_
  refine DW.pure' 7 _ rfl (by kernel_rfl) rfl (fun _ => QO.move rfl rfl) ?_
  refine DW.pure' 8 _ rfl (by kernel_rfl) rfl (fun _ => QO.move rfl rfl) ?_
  have hq := Option.bind_eq_some_iff.1 hm; clear hm; obtain ⟨r3, hr3, hm⟩ := hq
  have hd3 : Del (upd (upd (upd (h) b1 (.own 37 (sqC sq0) 101)) b2 (.own 37 (sqC r1.1) 101)) p0 (.own 65 (srcC A_s l_s.length c_s r2.2) 3)) p0 (.own 65 (srcC A_s l_s.length c_s r2.2) 3) (upd (upd (h) b1 (.own 37 (sqC sq0) 101)) b2 (.own 37 (sqC r1.1) 101)) := (Del.here (none_upd n_b2_p0.ne.symm (none_upd n_b1_p0.ne.symm h_p0)))
  refine DW.call 3 _ _ rfl (by kernel_rfl) rfl rfl (EO.fn rfl Try.func28 rfl rfl (Evs.cons rfl (Evs.cons rfl Evs.nil))) (CC.mono (CC.atLe (c_spec_l01DrawPlaces (h := upd (upd (h) b1 (.own 37 (sqC sq0) 101)) b2 (.own 37 (sqC r1.1) 101)) hr3 (RdS.le hs_s (Le.under (Le.under (Le.refl _) hb1) hb2)) hd3.none) hd3.le) ?_)
  rintro _ _ ⟨rfl, rfl⟩
  refine ⟨(fun _ => (Le.upd_left (Le.upd_left (Le.under (Le.under (Le.under (Le.refl _) hb1) hb2) h_p0) ((upd_ne _ _ n_b1_p0.ne).trans ((upd_ne _ _ n_b2_b1.ne.symm).trans (upd_same _ _ _))) (by first | rfl | (simp; done))) ((upd_ne _ _ n_b2_p0.ne).trans (upd_same _ _ _)) (by first | rfl | (simp; done)))), ?_⟩
  have hq := Option.bind_eq_some_iff.1 hm; clear hm; obtain ⟨r4, hr4, hm⟩ := hq
  have hd4 : Del (upd (upd (upd (h) b1 (.own 37 (sqC sq0) 101)) b2 (.own 37 (sqC r1.1) 101)) p0 (.own 65 (srcC A_s l_s.length c_s r3.2) 3)) p0 (.own 65 (srcC A_s l_s.length c_s r3.2) 3) (upd (upd (h) b1 (.own 37 (sqC sq0) 101)) b2 (.own 37 (sqC r1.1) 101)) := (Del.here (none_upd n_b2_p0.ne.symm (none_upd n_b1_p0.ne.symm h_p0)))
  refine DW.call 6 _ _ rfl (by kernel_rfl) rfl rfl (EO.fn rfl Try.func28 rfl rfl (Evs.cons rfl (Evs.cons rfl Evs.nil))) (CC.mono (CC.atLe (c_spec_l01DrawPlaces (h := upd (upd (h) b1 (.own 37 (sqC sq0) 101)) b2 (.own 37 (sqC r1.1) 101)) hr4 (RdS.le hs_s (Le.under (Le.under (Le.refl _) hb1) hb2)) hd4.none) hd4.le) ?_)
  rintro _ _ ⟨rfl, rfl⟩
  refine ⟨(fun _ => (Le.upd_left (Le.upd_left (Le.under (Le.under (Le.under (Le.refl _) hb1) hb2) h_p0) ((upd_ne _ _ n_b1_p0.ne).trans ((upd_ne _ _ n_b2_b1.ne.symm).trans (upd_same _ _ _))) (by first | rfl | (simp; done))) ((upd_ne _ _ n_b2_p0.ne).trans (upd_same _ _ _)) (by first | rfl | (simp; done)))), ?_⟩
  have hq := Option.bind_eq_some_iff.1 hm; clear hm; obtain ⟨r5, hr5, hm⟩ := hq
  have hd5 : Del (upd (upd (upd (h) b1 (.own 37 (sqC sq0) 101)) b2 (.own 37 (sqC r1.1) 101)) p0 (.own 65 (srcC A_s l_s.length c_s r4.2) 3)) p0 (.own 65 (srcC A_s l_s.length c_s r4.2) 3) (upd (upd (h) b1 (.own 37 (sqC sq0) 101)) b2 (.own 37 (sqC r1.1) 101)) := (Del.here (none_upd n_b2_p0.ne.symm (none_upd n_b1_p0.ne.symm h_p0)))
  refine DW.call 9 _ _ rfl (by kernel_rfl) rfl rfl (EO.fn rfl Try.func28 rfl rfl (Evs.cons rfl (Evs.cons rfl Evs.nil))) (CC.mono (CC.atLe (c_spec_l01DrawPlaces (h := upd (upd (h) b1 (.own 37 (sqC sq0) 101)) b2 (.own 37 (sqC r1.1) 101)) hr5 (RdS.le hs_s (Le.under (Le.under (Le.refl _) hb1) hb2)) hd5.none) hd5.le) ?_)
  rintro _ _ ⟨rfl, rfl⟩
  refine ⟨(fun _ => (Le.upd_left (Le.upd_left (Le.under (Le.under (Le.under (Le.refl _) hb1) hb2) h_p0) ((upd_ne _ _ n_b1_p0.ne).trans ((upd_ne _ _ n_b2_b1.ne.symm).trans (upd_same _ _ _))) (by first | rfl | (simp; done))) ((upd_ne _ _ n_b2_p0.ne).trans (upd_same _ _ _)) (by first | rfl | (simp; done)))), ?_⟩
  have hq := Option.bind_eq_some_iff.1 hm; clear hm; obtain ⟨r6, hr6, hm⟩ := hq
  refine DW.qcall' 10 _ _ _ rfl (by kernel_rfl) rfl (EO.fn rfl Try.func64 rfl rfl (Evs.cons rfl (Evs.cons rfl (Evs.cons rfl (Evs.cons rfl Evs.nil))))) (c_spec_l01Moved hr6 ) ?_
  refine DW.loud 11 rfl (by kernel_rfl) rfl rfl (LO.storeAll (cs := sqC r6) rfl sz37 rfl rfl (sqC_one _) (sqC_length _) ((upd_ne _ _ n_b1_p0.ne).trans ((upd_ne _ _ n_b2_b1.ne.symm).trans (upd_same _ _ _))) (sqC_length _) (Chg.there n_b1_p0.ne.symm (Chg.there n_b2_b1.ne Chg.here)) rfl ?_)
  refine ⟨(fun e => absurd e (by decide)), ?_⟩
  refine DW.done (by kernel_rfl) ?_ _
  refine thenA_n ?_
  refine wpA_ret ?_
  obtain rfl := Option.some.inj hm
  exact retA_r (h2 := upd (h) p0 (.own 65 (srcC A_s l_s.length c_s r5.2) 3)) (Res.one rfl (res1.row (cs := sqC r6) (hr := (rdAll ((upd_ne _ _ n_b1_p0.ne).trans ((upd_ne _ _ n_b2_b1.ne.symm).trans (upd_same _ _ _))))) sz37 rfl rfl (sqC_length _))) (Le.upd_left (Le.under (Le.under (Le.under (Le.refl _) hb1) hb2) h_p0) (upd_same _ _ _) (by first | rfl | (simp; done))) ⟨rfl, rfl⟩

/-! loop.example/g01195/spec.l01Spoil -/
theorem c_spec_l01Spoil {a0 : Src} {p0 : Nat} {l_s : List Int} {A_s : Option Addr} {c_s : Nat} {h : Hp} {r : Sq × Src} (hm : m_spec_l01Spoil a0 l_s = some r) (hs_s : RdS h A_s (ints .u8 l_s)) (h_p0 : h p0 = none) :
    CC Try.prog 37 #[.pointer (some ⟨p0, 0, none⟩)] (upd (h) p0 (.own 65 (srcC A_s l_s.length c_s a0) 3)) (fun v h' => v = .agg (sqC r.1).toArray ∧ h' = upd (h) p0 (.own 65 (srcC A_s l_s.length c_s r.2) 3)) := by
 unfold m_spec_l01Spoil at hm
 refine CC.enter Try.func37 rfl Try.ntmps37 rfl ?_
 refine wpA_seq ?_
 refine wpA_region ?_
 refine Ops_loud rfl (LO.alloc rfl zr37 rfl (fun b1 hb1 => ?_))
 simp only [upd_noneA] at hb1
 obtain ⟨n_b1_p0, hb1⟩ := hb1
 refine Ops_nil ?_
 refine thenA_n ?_
 refine wpA_seq ?_
 refine wpA_seq ?_
 refine wpA_region ?_
 refine Ops_quiet _ rfl rfl (QO.move rfl rfl) ?_
 have hq := Option.bind_eq_some_iff.1 hm; clear hm; obtain ⟨r1, hr1, hm⟩ := hq
 have hd1 : Del (upd (upd (h) p0 (.own 65 (srcC A_s l_s.length c_s a0) 3)) b1 (.own 37 (sqC sq0) 101)) p0 (.own 65 (srcC A_s l_s.length c_s a0) 3) (upd (h) b1 (.own 37 (sqC sq0) 101)) := (Del.there n_b1_p0.ne.symm (Del.here h_p0))
 refine Ops_call _ _ rfl rfl (EO.fn rfl Try.func27 rfl rfl (Evs.cons rfl (Evs.cons rfl Evs.nil))) (CC.mono (CC.atLe (c_spec_l01Next (h := upd (h) b1 (.own 37 (sqC sq0) 101)) hr1 (RdS.le hs_s (Le.under (Le.refl _) hb1)) hd1.none) hd1.le) ?_)
 rintro _ _ ⟨rfl, rfl⟩
 refine Ops_quiet _ rfl rfl (QO.bin rfl rfl rfl rfl) ?_
 refine Ops_nil ?_
 refine thenA_n ?_
 refine wpA_cond rfl (fun g1 => ?_) (fun g1 => ?_)
 ·replace hm := cond_t hm g1
  refine wpA_seq ?_
  refine wpA_region ?_
  refine Ops_quiet _ rfl rfl (QO.move rfl rfl) ?_
  refine Ops_quiet _ rfl rfl (QO.move rfl rfl) ?_
  have hq := Option.bind_eq_some_iff.1 hm; clear hm; obtain ⟨r2, hr2, hm⟩ := hq
  have hd2 : Del (upd (upd (h) b1 (.own 37 (sqC sq0) 101)) p0 (.own 65 (srcC A_s l_s.length c_s r1.2) 3)) p0 (.own 65 (srcC A_s l_s.length c_s r1.2) 3) (upd (h) b1 (.own 37 (sqC sq0) 101)) := (Del.here (none_upd n_b1_p0.ne.symm h_p0))
  refine Ops_call _ _ rfl rfl (EO.fn rfl Try.func53 rfl rfl (Evs.cons rfl Evs.nil)) (CC.mono (CC.atLe (c_spec_l01Draw (h := upd (h) b1 (.own 37 (sqC sq0) 101)) hr2 (RdS.le hs_s (Le.under (Le.refl _) hb1)) hd2.none) hd2.le) ?_)
  rintro _ _ ⟨rfl, rfl⟩
  have hq := Option.bind_eq_some_iff.1 hm; clear hm; obtain ⟨r3, hr3, hm⟩ := hq
  have hd3 : Del (upd (upd (h) b1 (.own 37 (sqC sq0) 101)) p0 (.own 65 (srcC A_s l_s.length c_s r2.2) 3)) p0 (.own 65 (srcC A_s l_s.length c_s r2.2) 3) (upd (h) b1 (.own 37 (sqC sq0) 101)) := (Del.here (none_upd n_b1_p0.ne.symm h_p0))
  refine Ops_call _ _ rfl rfl (EO.fn rfl Try.func38 rfl rfl (Evs.cons rfl (Evs.cons rfl Evs.nil))) (CC.mono (CC.atLe (c_spec_l01Broken (h := upd (h) b1 (.own 37 (sqC sq0) 101)) hr3 (RdS.le hs_s (Le.under (Le.refl _) hb1)) hd3.none) hd3.le) ?_)
  rintro _ _ ⟨rfl, rfl⟩
  refine Ops_loud rfl (LO.storeAll (cs := sqC r3.1) rfl sz37 rfl rfl (sqC_one _) (sqC_length _) ((upd_ne _ _ n_b1_p0.ne).trans (upd_same _ _ _)) (sqC_length _) (Chg.there n_b1_p0.ne.symm Chg.here) rfl ?_)
  refine Ops_nil ?_
  refine thenA_n ?_
  refine wpA_ret ?_
  refine thenA_r ?_
  obtain rfl := Option.some.inj hm
  exact retA_r (h2 := upd (h) p0 (.own 65 (srcC A_s l_s.length c_s r3.2) 3)) (Res.one rfl (res1.row (cs := sqC r3.1) (hr := (rdAll ((upd_ne _ _ n_b1_p0.ne).trans (upd_same _ _ _)))) sz37 rfl rfl (sqC_length _))) (Le.upd_left (Le.under (Le.under (Le.refl _) hb1) h_p0) (upd_same _ _ _) (by first | rfl | (simp; done))) ⟨rfl, rfl⟩
 ·replace hm := cond_f hm g1
  refine wpA_skip ?_
  refine thenA_n ?_
  refine wpA_seq ?_
  refine wpA_region ?_
  refine Ops_quiet _ rfl rfl (QO.move rfl rfl) ?_
  refine Ops_quiet _ rfl rfl (QO.move rfl rfl) ?_
  have hq := Option.bind_eq_some_iff.1 hm; clear hm; obtain ⟨r4, hr4, hm⟩ := hq
  have hd4 : Del (upd (upd (h) b1 (.own 37 (sqC sq0) 101)) p0 (.own 65 (srcC A_s l_s.length c_s r1.2) 3)) p0 (.own 65 (srcC A_s l_s.length c_s r1.2) 3) (upd (h) b1 (.own 37 (sqC sq0) 101)) := (Del.here (none_upd n_b1_p0.ne.symm h_p0))
  refine Ops_call _ _ rfl rfl (EO.fn rfl Try.func54 rfl rfl (Evs.cons rfl Evs.nil)) (CC.mono (CC.atLe (c_spec_l01DrawSquare (h := upd (h) b1 (.own 37 (sqC sq0) 101)) hr4 (RdS.le hs_s (Le.under (Le.refl _) hb1)) hd4.none) hd4.le) ?_)
  rintro _ _ ⟨rfl, rfl⟩
  have hq := Option.bind_eq_some_iff.1 hm; clear hm; obtain ⟨r5, hr5, hm⟩ := hq
  have hd5 : Del (upd (upd (h) b1 (.own 37 (sqC sq0) 101)) p0 (.own 65 (srcC A_s l_s.length c_s r4.2) 3)) p0 (.own 65 (srcC A_s l_s.length c_s r4.2) 3) (upd (h) b1 (.own 37 (sqC sq0) 101)) := (Del.here (none_upd n_b1_p0.ne.symm h_p0))
  refine Ops_call _ _ rfl rfl (EO.fn rfl Try.func38 rfl rfl (Evs.cons rfl (Evs.cons rfl Evs.nil))) (CC.mono (CC.atLe (c_spec_l01Broken (h := upd (h) b1 (.own 37 (sqC sq0) 101)) hr5 (RdS.le hs_s (Le.under (Le.refl _) hb1)) hd5.none) hd5.le) ?_)
  rintro _ _ ⟨rfl, rfl⟩
  refine Ops_loud rfl (LO.storeAll (cs := sqC r5.1) rfl sz37 rfl rfl (sqC_one _) (sqC_length _) ((upd_ne _ _ n_b1_p0.ne).trans (upd_same _ _ _)) (sqC_length _) (Chg.there n_b1_p0.ne.symm Chg.here) rfl ?_)
  refine Ops_nil ?_
  refine thenA_n ?_
  refine wpA_ret ?_
  obtain rfl := Option.some.inj hm
  exact retA_r (h2 := upd (h) p0 (.own 65 (srcC A_s l_s.length c_s r5.2) 3)) (Res.one rfl (res1.row (cs := sqC r5.1) (hr := (rdAll ((upd_ne _ _ n_b1_p0.ne).trans (upd_same _ _ _)))) sz37 rfl rfl (sqC_length _))) (Le.upd_left (Le.under (Le.under (Le.refl _) hb1) h_p0) (upd_same _ _ _) (by first | rfl | (simp; done))) ⟨rfl, rfl⟩

/-! loop.example/g01195/spec.DrawDirectProduct -/
theorem c_spec_DrawDirectProduct {l0 : (List Int)} {A0 : Option Addr} {c0 : Nat} {h : Hp} {r : Sq × Sq} (hm : m_spec_DrawDirectProduct l0 = some r) (hs0 : RdS h A0 (ints .u8 l0)) :
    QC Try.prog 14 #[.slice A0 l0.length c0] h (.tuple #[.agg (sqC r.1).toArray, .agg (sqC r.2).toArray]) := by
 unfold m_spec_DrawDirectProduct at hm
 refine CC.enter Try.func14 rfl Try.ntmps14 rfl ?_
 refine wpA_seq ?_
 refine wpA_region ?_
 refine Ops_loud rfl (LO.alloc rfl zr37 rfl (fun b1 hb1 => ?_))
 refine Ops_loud rfl (LO.alloc rfl zr37 rfl (fun b2 hb2 => ?_))
 simp only [upd_noneA] at hb2
 obtain ⟨n_b2_b1, hb2⟩ := hb2
 refine Ops_nil ?_
 refine thenA_n ?_
 refine wpA_seq ?_
 refine wpA_region ?_
 refine Ops_quiet _ rfl rfl (QO.move rfl rfl) ?_
 have hq := Option.bind_eq_some_iff.1 hm; clear hm; obtain ⟨r1, hr1, hm⟩ := hq
 refine Ops_call _ _ rfl rfl (EO.fn rfl Try.func25 rfl rfl (Evs.cons rfl Evs.nil)) (CC.mono (c_spec_l01From (l0 := l0) (A0 := A0) (c0 := c0) hr1 (RdS.le hs0 (Le.under (Le.under (Le.refl _) hb1) hb2))) ?_)
 rintro _ _ ⟨b3, hb3, rfl, rfl⟩
 simp only [upd_noneA] at hb3
 obtain ⟨n_b3_b2, n_b3_b1, hb3⟩ := hb3
 refine Ops_quiet _ rfl rfl (QO.assign rfl rfl) ?_
 refine Ops_nil ?_
 refine thenA_n ?_
 refine wpA_seq ?_
 refine wpA_seq ?_
 refine wpA_region ?_
 refine Ops_quiet _ rfl rfl (QO.move rfl rfl) ?_
 have hq := Option.bind_eq_some_iff.1 hm; clear hm; obtain ⟨r2, hr2, hm⟩ := hq
 have hd1 : Del (upd (upd (upd (h) b1 (.own 37 (sqC sq0) 101)) b2 (.own 37 (sqC sq0) 101)) b3 (.own 65 (srcC A0 l0.length c0 r1) 3)) b3 (.own 65 (srcC A0 l0.length c0 r1) 3) (upd (upd (h) b1 (.own 37 (sqC sq0) 101)) b2 (.own 37 (sqC sq0) 101)) := (Del.here (none_upd n_b3_b2.ne (none_upd n_b3_b1.ne hb3)))
 refine Ops_call _ _ rfl rfl (EO.fn rfl Try.func27 rfl rfl (Evs.cons rfl (Evs.cons rfl Evs.nil))) (CC.mono (CC.atLe (c_spec_l01Next (h := upd (upd (h) b1 (.own 37 (sqC sq0) 101)) b2 (.own 37 (sqC sq0) 101)) hr2 (RdS.le hs0 (Le.under (Le.under (Le.refl _) hb1) hb2)) hd1.none) hd1.le) ?_)
 rintro _ _ ⟨rfl, rfl⟩
 refine Ops_quiet _ rfl rfl (QO.bin rfl rfl rfl rfl) ?_
 refine Ops_nil ?_
 refine thenA_n ?_
 refine wpA_cond rfl (fun g1 => ?_) (fun g1 => ?_)
 ·replace hm := cond_t hm g1
  refine wpA_seq ?_
  refine wpA_region ?_
  refine Ops_quiet _ rfl rfl (QO.move rfl rfl) ?_
  have hq := Option.bind_eq_some_iff.1 hm; clear hm; obtain ⟨r3, hr3, hm⟩ := hq
  have hd2 : Del (upd (upd (upd (h) b1 (.own 37 (sqC sq0) 101)) b2 (.own 37 (sqC sq0) 101)) b3 (.own 65 (srcC A0 l0.length c0 r2.2) 3)) b3 (.own 65 (srcC A0 l0.length c0 r2.2) 3) (upd (upd (h) b1 (.own 37 (sqC sq0) 101)) b2 (.own 37 (sqC sq0) 101)) := (Del.here (none_upd n_b3_b2.ne (none_upd n_b3_b1.ne hb3)))
  refine Ops_call _ _ rfl rfl (EO.fn rfl Try.func37 rfl rfl (Evs.cons rfl Evs.nil)) (CC.mono (CC.atLe (c_spec_l01Spoil (h := upd (upd (h) b1 (.own 37 (sqC sq0) 101)) b2 (.own 37 (sqC sq0) 101)) hr3 (RdS.le hs0 (Le.under (Le.under (Le.refl _) hb1) hb2)) hd2.none) hd2.le) ?_)
  rintro _ _ ⟨rfl, rfl⟩
  refine Ops_quiet _ rfl rfl (QO.move rfl rfl) ?_
  have hq := Option.bind_eq_some_iff.1 hm; clear hm; obtain ⟨r4, hr4, hm⟩ := hq
  have hd3 : Del (upd (upd (upd (h) b1 (.own 37 (sqC sq0) 101)) b2 (.own 37 (sqC sq0) 101)) b3 (.own 65 (srcC A0 l0.length c0 r3.2) 3)) b3 (.own 65 (srcC A0 l0.length c0 r3.2) 3) (upd (upd (h) b1 (.own 37 (sqC sq0) 101)) b2 (.own 37 (sqC sq0) 101)) := (Del.here (none_upd n_b3_b2.ne (none_upd n_b3_b1.ne hb3)))
  refine Ops_call _ _ rfl rfl (EO.fn rfl Try.func37 rfl rfl (Evs.cons rfl Evs.nil)) (CC.mono (CC.atLe (c_spec_l01Spoil (h := upd (upd (h) b1 (.own 37 (sqC sq0) 101)) b2 (.own 37 (sqC sq0) 101)) hr4 (RdS.le hs0 (Le.under (Le.under (Le.refl _) hb1) hb2)) hd3.none) hd3.le) ?_)
  rintro _ _ ⟨rfl, rfl⟩
  refine Ops_loud rfl (LO.storeAll (cs := sqC r3.1) rfl sz37 rfl rfl (sqC_one _) (sqC_length _) ((upd_ne _ _ n_b3_b1.ne.symm).trans ((upd_ne _ _ n_b2_b1.ne.symm).trans (upd_same _ _ _))) (sqC_length _) (Chg.there n_b3_b1.ne (Chg.there n_b2_b1.ne Chg.here)) rfl ?_)
  refine Ops_loud rfl (LO.storeAll (cs := sqC r4.1) rfl sz37 rfl rfl (sqC_one _) (sqC_length _) ((upd_ne _ _ n_b3_b2.ne.symm).trans (upd_same _ _ _)) (sqC_length _) (Chg.there n_b3_b2.ne Chg.here) rfl ?_)
  refine Ops_nil ?_
  refine thenA_n ?_
  refine wpA_ret ?_
  refine thenA_r ?_
  obtain rfl := Option.some.inj hm
  exact retA_r (h2 := h) (Res.two rfl (res1.row (cs := sqC r3.1) (hr := (rdAll ((upd_ne _ _ n_b3_b1.ne.symm).trans ((upd_ne _ _ n_b2_b1.ne.symm).trans (upd_same _ _ _))))) sz37 rfl rfl (sqC_length _)) (res1.row (cs := sqC r4.1) (hr := (rdAll ((upd_ne _ _ n_b3_b2.ne.symm).trans (upd_same _ _ _)))) sz37 rfl rfl (sqC_length _))) (Le.under (Le.under (Le.under (Le.refl _) hb1) hb2) hb3) ⟨rfl, rfl⟩
 ·replace hm := cond_f hm g1
  refine wpA_skip ?_
  refine thenA_n ?_
  refine wpA_seq ?_
  refine wpA_region ?_
  refine Ops_quiet _ rfl rfl (QO.move rfl rfl) ?_
  have hq := Option.bind_eq_some_iff.1 hm; clear hm; obtain ⟨r5, hr5, hm⟩ := hq
  have hd4 : Del (upd (upd (upd (h) b1 (.own 37 (sqC sq0) 101)) b2 (.own 37 (sqC sq0) 101)) b3 (.own 65 (srcC A0 l0.length c0 r2.2) 3)) b3 (.own 65 (srcC A0 l0.length c0 r2.2) 3) (upd (upd (h) b1 (.own 37 (sqC sq0) 101)) b2 (.own 37 (sqC sq0) 101)) := (Del.here (none_upd n_b3_b2.ne (none_upd n_b3_b1.ne hb3)))
  refine Ops_call _ _ rfl rfl (EO.fn rfl Try.func37 rfl rfl (Evs.cons rfl Evs.nil)) (CC.mono (CC.atLe (c_spec_l01Spoil (h := upd (upd (h) b1 (.own 37 (sqC sq0) 101)) b2 (.own 37 (sqC sq0) 101)) hr5 (RdS.le hs0 (Le.under (Le.under (Le.refl _) hb1) hb2)) hd4.none) hd4.le) ?_)
  rintro _ _ ⟨rfl, rfl⟩
  refine Ops_loud rfl (LO.alloc rfl zr37 rfl (fun b4 hb4 => ?_))
  simp only [upd_noneA] at hb4
  obtain ⟨n_b4_b3, n_b4_b2, n_b4_b1, hb4⟩ := hb4
  refine Ops_loud rfl (LO.storeAll (cs := sqC r5.1) rfl sz37 rfl rfl (sqC_one _) (sqC_length _) (upd_same _ _ _) (sqC_length _) Chg.here rfl ?_)
  refine Ops_nil ?_
  refine thenA_n ?_
  refine wpA_seq ?_
  refine wpA_any (upd (upd (h) b2 (.own 37 (sqC sq0) 101)) b4 (.own 37 (sqC r5.1) 101)) [4, 5, 6, 9, 10, 11] [11] (by kernel_rfl) (by kernel_rfl) (DW.start ?_)
  refine DW.readK' 0 _ rfl (by kernel_rfl) rfl (Le.upd_left (Le.upd_left (Le.under (Le.under (Le.under (Le.under (Le.refl _) hb1) hb2) hb3) hb4) ((upd_ne _ _ n_b4_b2.ne.symm).trans ((upd_ne _ _ n_b3_b2.ne.symm).trans (upd_same _ _ _))) (by first | rfl | (simp; done))) (upd_same _ _ _) (by first | rfl | (simp; done))) (QO.loadRow (cs := sqC r5.1) (hr := (rdAll (upd_same _ _ _))) rfl sz37 rfl rfl (sqC_length _)) ?_
  refine DW.pure' 1 _ rfl (by kernel_rfl) rfl (fun _ => QO.move rfl rfl) ?_
  refine DW.pure' 2 _ rfl (by kernel_rfl) rfl (fun _ => QO.move rfl rfl) ?_
  refine DW.pure' 3 _ rfl (by kernel_rfl) rfl (fun _ => QO.move rfl rfl) ?_
  refine DW.loud 4 rfl (by kernel_rfl) rfl rfl (LO.slice' [(0, .int .i64 2), (1, .int .i64 3), (2, .int .i64 5)] (r := ints .i64 [2, 3, 5]) rfl sz70 sz2 zr2 (by first | rfl | (simp [sqC_length, tbC_length, tabI_length, tabB_length, ints_length, plsC_length, trC_length, sqsC_length, strsC_length, boolsC_length, tbB_length, List.length_append, List.length_cons, List.length_nil, List.length_set, List.length_replicate, rep_length]; done)) (by decide) (by decide) (by decide) rfl rfl (by first | rfl | (simp [sqC_length, tbC_length, tabI_length, tabB_length, ints_length, plsC_length, trC_length, sqsC_length, strsC_length, boolsC_length, tbB_length, List.length_append, List.length_cons, List.length_nil, List.length_set, List.length_replicate, rep_length]; done)) rfl (fun b5 hb5 => ?_))
  simp only [upd_noneA] at hb5
  obtain ⟨n_b5_b4, n_b5_b3, n_b5_b2, n_b5_b1, hb5⟩ := hb5
  refine ⟨(fun _ => (Le.upd_left (Le.upd_left (Le.under (Le.under (Le.under (Le.under (Le.under (Le.refl _) hb1) hb2) hb3) hb4) hb5) ((upd_ne _ _ n_b5_b2.ne.symm).trans ((upd_ne _ _ n_b4_b2.ne.symm).trans ((upd_ne _ _ n_b3_b2.ne.symm).trans (upd_same _ _ _)))) (by first | rfl | (simp; done))) ((upd_ne _ _ n_b5_b4.ne.symm).trans (upd_same _ _ _)) (by first | rfl | (simp; done)))), ?_⟩
  have hq := Option.bind_eq_some_iff.1 hm; clear hm; obtain ⟨r6, hr6, hm⟩ := hq
  have hd5 : Del (upd (upd (upd (upd (upd (h) b1 (.own 37 (sqC sq0) 101)) b2 (.own 37 (sqC sq0) 101)) b3 (.own 65 (srcC A0 l0.length c0 r5.2) 3)) b4 (.own 37 (sqC r5.1) 101)) b5 (.own 2 (ints .i64 [2, 3, 5]) (3 * 1))) b3 (.own 65 (srcC A0 l0.length c0 r5.2) 3) (upd (upd (upd (upd (h) b1 (.own 37 (sqC sq0) 101)) b2 (.own 37 (sqC sq0) 101)) b4 (.own 37 (sqC r5.1) 101)) b5 (.own 2 (ints .i64 [2, 3, 5]) (3 * 1))) := (Del.there n_b5_b3.ne.symm (Del.there n_b4_b3.ne.symm (Del.here (none_upd n_b3_b2.ne (none_upd n_b3_b1.ne hb3)))))
  refine DW.call 5 _ _ rfl (by kernel_rfl) rfl rfl (EO.fn rfl Try.func40 rfl rfl (Evs.cons rfl (Evs.cons rfl Evs.nil))) (CC.mono (CC.atLe (c_spec_l01Pick (l1 := [2, 3, 5]) (A1 := some ⟨b5, 0, none⟩) (c1 := 3) (h := upd (upd (upd (upd (h) b1 (.own 37 (sqC sq0) 101)) b2 (.own 37 (sqC sq0) 101)) b4 (.own 37 (sqC r5.1) 101)) b5 (.own 2 (ints .i64 [2, 3, 5]) (3 * 1))) hr6 (RdS.le hs0 (Le.under (Le.under (Le.under (Le.under (Le.refl _) hb1) hb2) hb4) hb5)) (RdS.own (upd_same _ _ _)) hd5.none) hd5.le) ?_)
  rintro _ _ ⟨rfl, rfl⟩
  refine ⟨(fun _ => (Le.upd_left (Le.upd_left (Le.under (Le.under (Le.under (Le.under (Le.under (Le.refl _) hb1) hb2) hb4) hb5) hb3) ((upd_ne _ _ n_b3_b2.ne.symm).trans ((upd_ne _ _ n_b5_b2.ne.symm).trans ((upd_ne _ _ n_b4_b2.ne.symm).trans (upd_same _ _ _)))) (by first | rfl | (simp; done))) ((upd_ne _ _ n_b4_b3.ne).trans ((upd_ne _ _ n_b5_b4.ne.symm).trans (upd_same _ _ _))) (by first | rfl | (simp; done)))), ?_⟩
  have hq := Option.bind_eq_some_iff.1 hm; clear hm; obtain ⟨r7, hr7, hm⟩ := hq
  have hd6 : Del (upd (upd (upd (upd (upd (h) b1 (.own 37 (sqC sq0) 101)) b2 (.own 37 (sqC sq0) 101)) b4 (.own 37 (sqC r5.1) 101)) b5 (.own 2 (ints .i64 [2, 3, 5]) (3 * 1))) b3 (.own 65 (srcC A0 l0.length c0 r6.2) 3)) b3 (.own 65 (srcC A0 l0.length c0 r6.2) 3) (upd (upd (upd (upd (h) b1 (.own 37 (sqC sq0) 101)) b2 (.own 37 (sqC sq0) 101)) b4 (.own 37 (sqC r5.1) 101)) b5 (.own 2 (ints .i64 [2, 3, 5]) (3 * 1))) := (Del.here (none_upd n_b5_b3.ne.symm (none_upd n_b4_b3.ne.symm (none_upd n_b3_b2.ne (none_upd n_b3_b1.ne hb3)))))
  refine DW.call 6 _ _ rfl (by kernel_rfl) rfl rfl (EO.fn rfl Try.func27 rfl rfl (Evs.cons rfl (Evs.cons rfl Evs.nil))) (CC.mono (CC.atLe (c_spec_l01Next (h := upd (upd (upd (upd (h) b1 (.own 37 (sqC sq0) 101)) b2 (.own 37 (sqC sq0) 101)) b4 (.own 37 (sqC r5.1) 101)) b5 (.own 2 (ints .i64 [2, 3, 5]) (3 * 1))) hr7 (RdS.le hs0 (Le.under (Le.under (Le.under (Le.under (Le.refl _) hb1) hb2) hb4) hb5)) hd6.none) hd6.le) ?_)
  rintro _ _ ⟨rfl, rfl⟩
  refine ⟨(fun _ => (Le.upd_left (Le.upd_left (Le.under (Le.under (Le.under (Le.under (Le.under (Le.refl _) hb1) hb2) hb4) hb5) hb3) ((upd_ne _ _ n_b3_b2.ne.symm).trans ((upd_ne _ _ n_b5_b2.ne.symm).trans ((upd_ne _ _ n_b4_b2.ne.symm).trans (upd_same _ _ _)))) (by first | rfl | (simp; done))) ((upd_ne _ _ n_b4_b3.ne).trans ((upd_ne _ _ n_b5_b4.ne.symm).trans (upd_same _ _ _))) (by first | rfl | (simp; done)))), ?_⟩
  refine DW.pure' 7 _ rfl (by kernel_rfl) rfl (fun _ => QO.bin rfl rfl rfl rfl) ?_
  have hq := Option.bind_eq_some_iff.1 hm; clear hm; obtain ⟨r8, hr8, hm⟩ := hq
  refine DW.qcall' 8 _ _ _ rfl (by kernel_rfl) rfl (EO.fn rfl Try.func39 rfl rfl (Evs.cons rfl Evs.nil)) (c_spec_l01Cyclic hr8 ) ?_
  have hq := Option.bind_eq_some_iff.1 hm; clear hm; obtain ⟨r9, hr9, hm⟩ := hq
  have hd7 : Del (upd (upd (upd (upd (upd (h) b1 (.own 37 (sqC sq0) 101)) b2 (.own 37 (sqC sq0) 101)) b4 (.own 37 (sqC r5.1) 101)) b5 (.own 2 (ints .i64 [2, 3, 5]) (3 * 1))) b3 (.own 65 (srcC A0 l0.length c0 r7.2) 3)) b3 (.own 65 (srcC A0 l0.length c0 r7.2) 3) (upd (upd (upd (upd (h) b1 (.own 37 (sqC sq0) 101)) b2 (.own 37 (sqC sq0) 101)) b4 (.own 37 (sqC r5.1) 101)) b5 (.own 2 (ints .i64 [2, 3, 5]) (3 * 1))) := (Del.here (none_upd n_b5_b3.ne.symm (none_upd n_b4_b3.ne.symm (none_upd n_b3_b2.ne (none_upd n_b3_b1.ne hb3)))))
  refine DW.call 9 _ _ rfl (by kernel_rfl) rfl rfl (EO.fn rfl Try.func38 rfl rfl (Evs.cons rfl (Evs.cons rfl Evs.nil))) (CC.mono (CC.atLe (c_spec_l01Broken (h := upd (upd (upd (upd (h) b1 (.own 37 (sqC sq0) 101)) b2 (.own 37 (sqC sq0) 101)) b4 (.own 37 (sqC r5.1) 101)) b5 (.own 2 (ints .i64 [2, 3, 5]) (3 * 1))) hr9 (RdS.le hs0 (Le.under (Le.under (Le.under (Le.under (Le.refl _) hb1) hb2) hb4) hb5)) hd7.none) hd7.le) ?_)
  rintro _ _ ⟨rfl, rfl⟩
  refine ⟨(fun _ => (Le.upd_left (Le.upd_left (Le.under (Le.under (Le.under (Le.under (Le.under (Le.refl _) hb1) hb2) hb4) hb5) hb3) ((upd_ne _ _ n_b3_b2.ne.symm).trans ((upd_ne _ _ n_b5_b2.ne.symm).trans ((upd_ne _ _ n_b4_b2.ne.symm).trans (upd_same _ _ _)))) (by first | rfl | (simp; done))) ((upd_ne _ _ n_b4_b3.ne).trans ((upd_ne _ _ n_b5_b4.ne.symm).trans (upd_same _ _ _))) (by first | rfl | (simp; done)))), ?_⟩
  refine DW.loud 10 rfl (by kernel_rfl) rfl rfl (LO.storeAll (cs := sqC r5.1) rfl sz37 rfl rfl (sqC_one _) (sqC_length _) ((upd_ne _ _ n_b3_b1.ne.symm).trans ((upd_ne _ _ n_b5_b1.ne.symm).trans ((upd_ne _ _ n_b4_b1.ne.symm).trans ((upd_ne _ _ n_b2_b1.ne.symm).trans (upd_same _ _ _))))) (sqC_length _) (Chg.there n_b3_b1.ne (Chg.there n_b5_b1.ne (Chg.there n_b4_b1.ne (Chg.there n_b2_b1.ne Chg.here)))) rfl ?_)
  refine ⟨(fun _ => (Le.upd_left (Le.upd_left (Le.under (Le.under (Le.under (Le.under (Le.under (Le.refl _) hb1) hb2) hb4) hb5) hb3) ((upd_ne _ _ n_b3_b2.ne.symm).trans ((upd_ne _ _ n_b5_b2.ne.symm).trans ((upd_ne _ _ n_b4_b2.ne.symm).trans (upd_same _ _ _)))) (by first | rfl | (simp; done))) ((upd_ne _ _ n_b4_b3.ne).trans ((upd_ne _ _ n_b5_b4.ne.symm).trans (upd_same _ _ _))) (by first | rfl | (simp; done)))), ?_⟩
  refine DW.loud 11 rfl (by kernel_rfl) rfl rfl (LO.storeAll (cs := sqC r9.1) rfl sz37 rfl rfl (sqC_one _) (sqC_length _) ((upd_ne _ _ n_b3_b2.ne.symm).trans ((upd_ne _ _ n_b5_b2.ne.symm).trans ((upd_ne _ _ n_b4_b2.ne.symm).trans (upd_same _ _ _)))) (sqC_length _) (Chg.there n_b3_b2.ne (Chg.there n_b5_b2.ne (Chg.there n_b4_b2.ne Chg.here))) rfl ?_)
  refine ⟨(fun e => absurd e (by decide)), ?_⟩
  refine DW.done (by kernel_rfl) ?_ _
  refine thenA_n ?_
  refine wpA_ret ?_
  obtain rfl := Option.some.inj hm
  exact retA_r (h2 := h) (Res.two rfl (res1.row (cs := sqC r5.1) (hr := (rdAll ((upd_ne _ _ n_b3_b1.ne.symm).trans ((upd_ne _ _ n_b5_b1.ne.symm).trans ((upd_ne _ _ n_b4_b1.ne.symm).trans ((upd_ne _ _ n_b2_b1.ne.symm).trans (upd_same _ _ _))))))) sz37 rfl rfl (sqC_length _)) (res1.row (cs := sqC r9.1) (hr := (rdAll ((upd_ne _ _ n_b3_b2.ne.symm).trans ((upd_ne _ _ n_b5_b2.ne.symm).trans ((upd_ne _ _ n_b4_b2.ne.symm).trans (upd_same _ _ _)))))) sz37 rfl rfl (sqC_length _))) (Le.under (Le.under (Le.under (Le.under (Le.under (Le.refl _) hb1) hb2) hb4) hb5) hb3) ⟨rfl, rfl⟩
end Go.Lab
