/- The walks: each function computes what its model tells. -/
import Derived.Test.YthhgemlaiekjpabW1
set_option linter.unusedVariables false
set_option linter.unusedSimpArgs false
namespace Go.Lab
open Go Go.Abs Go.Proofs
set_option maxRecDepth 20000
set_option linter.unusedVariables false
set_option linter.unusedSimpArgs false
/-! loop.example/g01195/spec.l01Switch -/
theorem c_spec_l01Switch {a0 : Sq} {a1 : Int} {a2 : Int} {a3 : Int} {h : Hp} {r : Sq} (hm : m_spec_l01Switch a0 a1 a2 a3 = some r)  :
    QC Try.prog 73 #[.agg (sqC a0).toArray, .int .u8 a1, .int .u8 a2, .int .u8 a3] h (.agg (sqC r).toArray) := by
 unfold m_spec_l01Switch at hm
 refine CC.enter Try.func73 rfl Try.ntmps73 rfl ?_
 refine wpA_seq ?_
 refine wpA_region ?_
 refine Ops_loud rfl (LO.boxAgg rfl rfl rfl (fun b1 hb1 => ?_))
 refine Ops_loud rfl (LO.alloc rfl zr28 rfl (fun b2 hb2 => ?_))
 simp only [upd_noneA] at hb2
 obtain ⟨n_b2_b1, hb2⟩ := hb2
 refine Ops_nil ?_
 refine thenA_n ?_
 refine wpA_seq ?_
 refine wpA_seq ?_
 refine wpA_region ?_
 refine Ops_quiet _ rfl rfl (QO.move rfl rfl) ?_
 refine Ops_quiet _ rfl rfl (QO.move rfl rfl) ?_
 refine Ops_quiet _ rfl rfl (QO.bin rfl rfl rfl rfl) ?_
 refine Ops_nil ?_
 refine thenA_n ?_
 refine wpA_cond rfl (fun g1 => ?_) (fun g1 => ?_)
 ·replace hm := cond_t hm g1
  refine wpA_seq ?_
  refine wpA_region ?_
  refine Ops_quiet _ rfl rfl (QO.loadRow (cs := sqC a0) (hr := (rdAll ((upd_ne _ _ n_b2_b1.ne.symm).trans (upd_same _ _ _)))) rfl sz28 rfl rfl (sqC_length _)) ?_
  refine Ops_loud rfl (LO.storeAll (cs := sqC a0) rfl sz28 rfl rfl (sqC_one _) (sqC_length _) (upd_same _ _ _) (sqC_length _) Chg.here rfl ?_)
  refine Ops_nil ?_
  refine thenA_n ?_
  refine wpA_ret ?_
  refine thenA_r ?_
  obtain rfl := Option.some.inj hm
  exact retA_r (h2 := h) (Res.one rfl (res1.row (cs := sqC a0) (hr := (rdAll (upd_same _ _ _))) sz28 rfl rfl (sqC_length _))) (Le.under (Le.under (Le.refl _) hb1) hb2) ⟨rfl, rfl⟩
 ·replace hm := cond_f hm g1
  refine wpA_skip ?_
  refine thenA_n ?_
  refine wpA_seq ?_
  refine wpA_region ?_
  refine Ops_quiet _ rfl rfl (QO.move rfl rfl) ?_
  refine Ops_quiet _ rfl rfl (QO.assign rfl rfl) ?_
  refine Ops_nil ?_
  refine thenA_n ?_
  refine wpA_block ?_
  obtain ⟨R1, hR, hm⟩ := Option.bind_eq_some_iff.1 hm
  obtain ⟨k1, hk1⟩ := loopV_some hR
  clear hR
  refine wpA_mono (Q := fun e s' h' => match (generalizing := false) R1 with | .stop x id => e = .exit id ∧ ∃ (x1 : Int) (x2 : Sq) (x3 : Sq), (x1, x2, x3) = x ∧ Sub s' [(1, .int .u8 a1), (2, .int .u8 a2), (4, .pointer (some ⟨b1, 0, none⟩)), (8, .pointer (some ⟨b2, 0, none⟩)), (9, .int .u8 x1)] ∧ Le (upd (upd (h) b1 (.own 28 (sqC x2) 101)) b2 (.own 28 (sqC x3) 101)) h' | .ret r => e = .ret ∧ Sub s' [(8, .pointer (some ⟨b2, 0, none⟩))] ∧ Le (upd (h) b2 (.own 28 (sqC r) 101)) h' | .next _ => False) ?_ ?_
  ·refine wpA_loop (fun k s' h' => ∃ (x1 : Int) (x2 : Sq) (x3 : Sq), loopW (m_spec_l01Switch_l0 a1 a2) k (x1, x2, x3) = some R1 ∧ Sub s' [(1, .int .u8 a1), (2, .int .u8 a2), (4, .pointer (some ⟨b1, 0, none⟩)), (8, .pointer (some ⟨b2, 0, none⟩)), (9, .int .u8 x1)] ∧ Le (upd (upd (h) b1 (.own 28 (sqC x2) 101)) b2 (.own 28 (sqC x3) 101)) h') (m := k1) ⟨a3, a0, sq0, hk1, (Sub.cons rfl (Sub.cons rfl (Sub.cons rfl (Sub.cons rfl (Sub.cons rfl Sub.nil))))), (Le.upd_left (Le.upd_left (Le.under (Le.under (Le.refl _) hb1) hb2) ((upd_ne _ _ n_b2_b1.ne.symm).trans (upd_same _ _ _)) (by first | rfl | (simp; done))) (upd_same _ _ _) (by first | rfl | (simp; done)))⟩ ?_
   rintro k1 s' h' ⟨x1, x2, x3, hk1, hsub, hle⟩
   refine wpA_weaken hsub.ok hle ?_
   clear hsub hle s' h'
   cases k1 with
   | zero => exact absurd hk1 (by simp [loopW])
   | succ k1 =>
    obtain ⟨o1, ho1, hk1⟩ := loopW_succ hk1
    unfold m_spec_l01Switch_l0 at ho1
    try dsimp only at ho1
    refine wpA_block ?_
    refine wpA_seq ?_
    refine wpA_region ?_
    refine Ops_quiet _ rfl rfl (QO.move rfl rfl) ?_
    refine Ops_quiet _ rfl rfl (QO.move rfl rfl) ?_
    refine Ops_quiet _ rfl rfl (QO.fieldAt (fo := 1) rfl sz28 rfl rfl sz26 rfl rfl) ?_
    have hq := chk ho1; clear ho1; obtain ⟨ck1, ho1⟩ := hq
    refine Ops_quiet _ rfl rfl (QO.idxArr rfl sz26 sz24 rfl rfl (by omega) (by omega)) ?_
    have hq := chk ho1; clear ho1; obtain ⟨ck2, ho1⟩ := hq
    refine Ops_quiet _ rfl rfl (QO.idxArr rfl sz24 sz5 rfl rfl (by omega) (by omega)) ?_
    refine Ops_quiet _ rfl rfl (QO.load rfl sz5 rfl rfl (by (refine (rd_own ((upd_ne _ _ n_b2_b1.ne.symm).trans (upd_same _ _ _)) _).trans ?_); exact sqC_get (by omega) (by omega))) ?_
    refine Ops_quiet _ rfl rfl (QO.assign rfl rfl) ?_
    refine Ops_nil ?_
    refine thenA_n ?_
    refine wpA_seq ?_
    refine wpA_any (upd (upd (h) b1 (.own 28 (sqC x2) 101)) b2 (.own 28 (sqC x3) 101)) [11] [11] (by kernel_rfl) (by kernel_rfl) (DW.start ?_)
    refine DW.pure' 0 _ rfl (by kernel_rfl) rfl (fun _ => QO.move rfl rfl) ?_
    refine DW.pure' 1 _ rfl (by kernel_rfl) rfl (fun _ => QO.move rfl rfl) ?_
    refine DW.pure' 2 _ rfl (by kernel_rfl) rfl (fun _ => QO.move rfl rfl) ?_
    refine DW.pure' 3 _ rfl (by kernel_rfl) rfl (fun _ => QO.move rfl rfl) ?_
    refine DW.pure' 4 _ rfl (by kernel_rfl) rfl (fun _ => QO.fieldAt (fo := 1) rfl sz28 rfl rfl sz26 rfl rfl) ?_
    have hq := chk ho1; clear ho1; obtain ⟨ck3, ho1⟩ := hq
    refine DW.pure' 5 _ rfl (by kernel_rfl) rfl (fun _ => QO.idxArr rfl sz26 sz24 rfl rfl (by omega) (by omega)) ?_
    have hq := chk ho1; clear ho1; obtain ⟨ck4, ho1⟩ := hq
    refine DW.pure' 6 _ rfl (by kernel_rfl) rfl (fun _ => QO.idxArr rfl sz24 sz5 rfl rfl (by omega) (by omega)) ?_
    refine DW.read' 7 _ rfl (by kernel_rfl) rfl (QO.load rfl sz5 rfl rfl (by (refine (rd_own ((upd_ne _ _ n_b2_b1.ne.symm).trans (upd_same _ _ _)) _).trans ?_); exact sqC_get (by omega) (by omega))) ?_
    refine DW.pure' 8 _ rfl (by kernel_rfl) rfl (fun _ => QO.fieldAt (fo := 1) rfl sz28 rfl rfl sz26 rfl rfl) ?_
    have hq := chk ho1; clear ho1; obtain ⟨ck5, ho1⟩ := hq
    refine DW.pure' 9 _ rfl (by kernel_rfl) rfl (fun _ => QO.idxArr rfl sz26 sz24 rfl rfl (by omega) (by omega)) ?_
    have hq := chk ho1; clear ho1; obtain ⟨ck6, ho1⟩ := hq
    refine DW.pure' 10 _ rfl (by kernel_rfl) rfl (fun _ => QO.idxArr rfl sz24 sz5 rfl rfl (by omega) (by omega)) ?_
    refine DW.loud 11 rfl (by kernel_rfl) rfl rfl (LO.store' (xs' := sqC (⟨x2.order, (tset x2.t (a1).toNat (x1).toNat (x2.t (a2).toNat (x1).toNat))⟩ : Sq)) rfl sz5 rfl rfl rfl ((upd_ne _ _ n_b2_b1.ne.symm).trans (upd_same _ _ _)) (by first | ((try simp only [rowsC_length, rowsA_length, mpC_length, sqC_length, tbC_length, tabI_length, tabB_length, ints_length, plsC_length, trC_length, sqsC_length, strsC_length, boolsC_length, tbB_length, List.length_append, List.length_cons, List.length_nil, List.length_set, List.length_replicate, rep_length]); first | omega | decide) | exact Nat.le_of_ble_eq_true rfl) (sqC_set (by omega) (by omega)) (Chg.there n_b2_b1.ne Chg.here) rfl ?_)
    refine ⟨(fun e => absurd e (by decide)), ?_⟩
    refine DW.done (by kernel_rfl) ?_ _
    refine thenA_n ?_
    refine wpA_seq ?_
    refine wpA_region ?_
    refine Ops_quiet _ rfl rfl (QO.move rfl rfl) ?_
    refine Ops_quiet _ rfl rfl (QO.move rfl rfl) ?_
    refine Ops_quiet _ rfl rfl (QO.move rfl rfl) ?_
    refine Ops_quiet _ rfl rfl (QO.fieldAt (fo := 1) rfl sz28 rfl rfl sz26 rfl rfl) ?_
    have hq := chk ho1; clear ho1; obtain ⟨ck7, ho1⟩ := hq
    refine Ops_quiet _ rfl rfl (QO.idxArr rfl sz26 sz24 rfl rfl (by omega) (by omega)) ?_
    have hq := chk ho1; clear ho1; obtain ⟨ck8, ho1⟩ := hq
    refine Ops_quiet _ rfl rfl (QO.idxArr rfl sz24 sz5 rfl rfl (by omega) (by omega)) ?_
    refine Ops_loud rfl (LO.store' (xs' := sqC (⟨((⟨x2.order, (tset x2.t (a1).toNat (x1).toNat (x2.t (a2).toNat (x1).toNat))⟩ : Sq)).order, (tset ((⟨x2.order, (tset x2.t (a1).toNat (x1).toNat (x2.t (a2).toNat (x1).toNat))⟩ : Sq)).t (a2).toNat (x1).toNat (x2.t (a1).toNat (x1).toNat))⟩ : Sq)) rfl sz5 rfl rfl rfl ((upd_ne _ _ n_b2_b1.ne.symm).trans (upd_same _ _ _)) (by first | ((try simp only [rowsC_length, rowsA_length, mpC_length, sqC_length, tbC_length, tabI_length, tabB_length, ints_length, plsC_length, trC_length, sqsC_length, strsC_length, boolsC_length, tbB_length, List.length_append, List.length_cons, List.length_nil, List.length_set, List.length_replicate, rep_length]); first | omega | decide) | exact Nat.le_of_ble_eq_true rfl) (sqC_set (by omega) (by omega)) (Chg.there n_b2_b1.ne Chg.here) rfl ?_)
    refine Ops_nil ?_
    refine thenA_n ?_
    refine wpA_seq ?_
    refine wpA_region ?_
    refine Ops_quiet _ rfl rfl (QO.assign rfl rfl) ?_
    refine Ops_nil ?_
    refine thenA_n ?_
    refine wpA_seq ?_
    refine wpA_block ?_
    obtain ⟨R2, hR, ho1⟩ := Option.bind_eq_some_iff.1 ho1
    obtain ⟨k2, hk2⟩ := loopV_some hR
    clear hR
    refine wpA_mono (Q := fun e s' h' => match (generalizing := false) R2 with | .stop x id => e = .exit id ∧ ∃ (x4 : Int) (x5 : Sq), (x4, x5) = x ∧ Sub s' [(1, .int .u8 a1), (2, .int .u8 a2), (4, .pointer (some ⟨b1, 0, none⟩)), (8, .pointer (some ⟨b2, 0, none⟩)), (9, .int .u8 x1), (11, .int .u8 x4)] ∧ Le (upd (upd (h) b1 (.own 28 (sqC (⟨((⟨x2.order, (tset x2.t (a1).toNat (x1).toNat (x2.t (a2).toNat (x1).toNat))⟩ : Sq)).order, (tset ((⟨x2.order, (tset x2.t (a1).toNat (x1).toNat (x2.t (a2).toNat (x1).toNat))⟩ : Sq)).t (a2).toNat (x1).toNat (x2.t (a1).toNat (x1).toNat))⟩ : Sq)) 101)) b2 (.own 28 (sqC x5) 101)) h' | .ret r => e = .ret ∧ Sub s' [(8, .pointer (some ⟨b2, 0, none⟩))] ∧ Le (upd (h) b2 (.own 28 (sqC r) 101)) h' | .next _ => False) ?_ ?_
    ·refine wpA_loop (fun k s' h' => ∃ (x4 : Int) (x5 : Sq), loopW (m_spec_l01Switch_l1 a1 a2 x1 x2) k (x4, x5) = some R2 ∧ Sub s' [(1, .int .u8 a1), (2, .int .u8 a2), (4, .pointer (some ⟨b1, 0, none⟩)), (8, .pointer (some ⟨b2, 0, none⟩)), (9, .int .u8 x1), (11, .int .u8 x4)] ∧ Le (upd (upd (h) b1 (.own 28 (sqC (⟨((⟨x2.order, (tset x2.t (a1).toNat (x1).toNat (x2.t (a2).toNat (x1).toNat))⟩ : Sq)).order, (tset ((⟨x2.order, (tset x2.t (a1).toNat (x1).toNat (x2.t (a2).toNat (x1).toNat))⟩ : Sq)).t (a2).toNat (x1).toNat (x2.t (a1).toNat (x1).toNat))⟩ : Sq)) 101)) b2 (.own 28 (sqC x5) 101)) h') (m := k2) ⟨0, x3, hk2, (Sub.cons rfl (Sub.cons rfl (Sub.cons rfl (Sub.cons rfl (Sub.cons rfl (Sub.cons rfl Sub.nil)))))), (Le.upd_left (Le.upd_left (Le.under (Le.under (Le.refl _) hb1) hb2) ((upd_ne _ _ n_b2_b1.ne.symm).trans (upd_same _ _ _)) (by first | rfl | (simp; done))) (upd_same _ _ _) (by first | rfl | (simp; done)))⟩ ?_
     rintro k2 s' h' ⟨x4, x5, hk2, hsub, hle⟩
     refine wpA_weaken hsub.ok hle ?_
     clear hsub hle s' h'
     cases k2 with
     | zero => exact absurd hk2 (by simp [loopW])
     | succ k2 =>
      obtain ⟨o2, ho2, hk2⟩ := loopW_succ hk2
      unfold m_spec_l01Switch_l1 at ho2
      try dsimp only at ho2
      refine wpA_seq ?_
      refine wpA_seq ?_
      refine wpA_drawn (by kernel_rfl) (by kernel_rfl) ?_
      refine QOps.quiet _ rfl rfl (QO.move rfl rfl) ?_
      refine QOps.quiet _ rfl rfl (QO.move rfl rfl) ?_
      refine QOps.quiet _ rfl rfl (QO.bin rfl rfl rfl rfl) ?_
      refine QOps.quiet _ rfl rfl (QO.move rfl rfl) ?_
      refine QOps.split 43 rfl (fun g2 => ?_) (fun g2 => ?_)
      ·replace ho2 := cond_t ho2 g2
       refine QOps.skip rfl rfl ?_
       refine QOps.skip rfl rfl ?_
       refine QOps.skip rfl rfl ?_
       refine QOps.skip rfl rfl ?_
       refine QOps.skip rfl rfl ?_
       refine QOps.skip rfl rfl ?_
       refine QOps.skip rfl rfl ?_
       refine QOps.skip rfl rfl ?_
       refine QOps.skip rfl rfl ?_
       refine QOps.skip rfl rfl ?_
       refine QOps.skip rfl rfl ?_
       refine QOps.skip rfl rfl ?_
       refine QOps.skip rfl rfl ?_
       refine QOps.quiet _ rfl rfl (QO.pick_t rfl rfl rfl) ?_
       refine QOps.nil ?_
       refine thenA_n ?_
       refine wpA_cond_t rfl ?_
       refine wpA_skip ?_
       refine thenA_n ?_
       refine wpA_block ?_
       refine wpA_seq ?_
       refine wpA_region ?_
       refine Ops_quiet _ rfl rfl (QO.move rfl rfl) ?_
       refine Ops_quiet _ rfl rfl (QO.bin rfl rfl rfl rfl) ?_
       refine Ops_quiet _ rfl rfl (QO.assign rfl rfl) ?_
       refine Ops_nil ?_
       refine thenA_n ?_
       refine wpA_seq ?_
       refine wpA_region ?_
       refine Ops_quiet _ rfl rfl (QO.move rfl rfl) ?_
       refine Ops_quiet _ rfl rfl (QO.conv rfl sz5 sz2 rfl) ?_
       refine Ops_quiet _ rfl rfl (QO.fieldAt (fo := 0) rfl sz28 rfl rfl sz2 rfl rfl) ?_
       refine Ops_quiet _ rfl rfl (QO.load rfl sz2 rfl rfl (by (refine (rd_own ((upd_ne _ _ n_b2_b1.ne.symm).trans (upd_same _ _ _)) _).trans ?_); exact rfl)) ?_
       refine Ops_quiet _ rfl rfl (QO.bin rfl rfl rfl rfl) ?_
       refine Ops_nil ?_
       refine thenA_n ?_
       refine wpA_cond rfl (fun g3 => ?_) (fun g3 => ?_)
       ·replace ho2 := cond_t ho2 g3
        refine wpA_seq ?_
        refine wpA_region ?_
        refine Ops_quiet _ rfl rfl (QO.loadRow (cs := sqC (⟨((⟨x2.order, (tset x2.t (a1).toNat (x1).toNat (x2.t (a2).toNat (x1).toNat))⟩ : Sq)).order, (tset ((⟨x2.order, (tset x2.t (a1).toNat (x1).toNat (x2.t (a2).toNat (x1).toNat))⟩ : Sq)).t (a2).toNat (x1).toNat (x2.t (a1).toNat (x1).toNat))⟩ : Sq)) (hr := (rdAll ((upd_ne _ _ n_b2_b1.ne.symm).trans (upd_same _ _ _)))) rfl sz28 rfl rfl (sqC_length _)) ?_
        refine Ops_loud rfl (LO.storeAll (cs := sqC (⟨((⟨x2.order, (tset x2.t (a1).toNat (x1).toNat (x2.t (a2).toNat (x1).toNat))⟩ : Sq)).order, (tset ((⟨x2.order, (tset x2.t (a1).toNat (x1).toNat (x2.t (a2).toNat (x1).toNat))⟩ : Sq)).t (a2).toNat (x1).toNat (x2.t (a1).toNat (x1).toNat))⟩ : Sq)) rfl sz28 rfl rfl (sqC_one _) (sqC_length _) (upd_same _ _ _) (sqC_length _) Chg.here rfl ?_)
        refine Ops_nil ?_
        refine thenA_n ?_
        refine wpA_ret ?_
        refine blockA_r ?_
        refine thenA_r ?_
        obtain rfl := Option.some.inj ho2
        obtain rfl := Option.some.inj hk2
        exact ⟨rfl, (Sub.cons rfl Sub.nil), (Le.upd_left (Le.under (Le.under (Le.refl _) hb1) hb2) (upd_same _ _ _) (by first | rfl | (simp; done)))⟩
       ·replace ho2 := cond_f ho2 g3
        refine wpA_skip ?_
        refine blockA_n ?_
        obtain rfl := Option.some.inj ho2
        dsimp only at hk2
        exact thenA_n ⟨k2, Nat.lt_succ_self _, _, _, hk2, (Sub.cons rfl (Sub.cons rfl (Sub.cons rfl (Sub.cons rfl (Sub.cons rfl (Sub.cons rfl Sub.nil)))))), (Le.upd_left (Le.upd_left (Le.under (Le.under (Le.refl _) hb1) hb2) ((upd_ne _ _ n_b2_b1.ne.symm).trans (upd_same _ _ _)) (by first | rfl | (simp; done))) (upd_same _ _ _) (by first | rfl | (simp; done)))⟩
      ·replace ho2 := cond_f ho2 g2
       refine QOps.quiet _ rfl rfl (QO.move rfl rfl) ?_
       refine QOps.quiet _ rfl rfl (QO.move rfl rfl) ?_
       refine QOps.quiet _ rfl rfl (QO.fieldAt (fo := 1) rfl sz28 rfl rfl sz26 rfl rfl) ?_
       have hq := chk ho2; clear ho2; obtain ⟨ck9, ho2⟩ := hq
       refine QOps.quiet _ rfl rfl (QO.idxArr rfl sz26 sz24 rfl rfl (by omega) (by omega)) ?_
       have hq := chk ho2; clear ho2; obtain ⟨ck10, ho2⟩ := hq
       refine QOps.quiet _ rfl rfl (QO.idxArr rfl sz24 sz5 rfl rfl (by omega) (by omega)) ?_
       refine QOps.quiet _ rfl rfl (QO.load rfl sz5 rfl rfl (by (refine (rd_own ((upd_ne _ _ n_b2_b1.ne.symm).trans (upd_same _ _ _)) _).trans ?_); exact sqC_get (by omega) (by omega))) ?_
       refine QOps.quiet _ rfl rfl (QO.move rfl rfl) ?_
       refine QOps.quiet _ rfl rfl (QO.move rfl rfl) ?_
       refine QOps.quiet _ rfl rfl (QO.fieldAt (fo := 1) rfl sz28 rfl rfl sz26 rfl rfl) ?_
       have hq := chk ho2; clear ho2; obtain ⟨ck11, ho2⟩ := hq
       refine QOps.quiet _ rfl rfl (QO.idxArr rfl sz26 sz24 rfl rfl (by omega) (by omega)) ?_
       have hq := chk ho2; clear ho2; obtain ⟨ck12, ho2⟩ := hq
       refine QOps.quiet _ rfl rfl (QO.idxArr rfl sz24 sz5 rfl rfl (by omega) (by omega)) ?_
       refine QOps.quiet _ rfl rfl (QO.load rfl sz5 rfl rfl (by (refine (rd_own ((upd_ne _ _ n_b2_b1.ne.symm).trans (upd_same _ _ _)) _).trans ?_); exact sqC_get (by omega) (by omega))) ?_
       refine QOps.quiet _ rfl rfl (QO.bin rfl rfl rfl rfl) ?_
       refine QOps.quiet _ rfl rfl (QO.pick_f rfl rfl rfl) ?_
       refine QOps.nil ?_
       refine thenA_n ?_
       refine wpA_cond rfl (fun g4 => ?_) (fun g4 => ?_)
       ·replace ho2 := cond_t ho2 g4
        refine wpA_skip ?_
        refine thenA_n ?_
        refine wpA_block ?_
        refine wpA_seq ?_
        refine wpA_region ?_
        refine Ops_quiet _ rfl rfl (QO.move rfl rfl) ?_
        refine Ops_quiet _ rfl rfl (QO.bin rfl rfl rfl rfl) ?_
        refine Ops_quiet _ rfl rfl (QO.assign rfl rfl) ?_
        refine Ops_nil ?_
        refine thenA_n ?_
        refine wpA_seq ?_
        refine wpA_region ?_
        refine Ops_quiet _ rfl rfl (QO.move rfl rfl) ?_
        refine Ops_quiet _ rfl rfl (QO.conv rfl sz5 sz2 rfl) ?_
        refine Ops_quiet _ rfl rfl (QO.fieldAt (fo := 0) rfl sz28 rfl rfl sz2 rfl rfl) ?_
        refine Ops_quiet _ rfl rfl (QO.load rfl sz2 rfl rfl (by (refine (rd_own ((upd_ne _ _ n_b2_b1.ne.symm).trans (upd_same _ _ _)) _).trans ?_); exact rfl)) ?_
        refine Ops_quiet _ rfl rfl (QO.bin rfl rfl rfl rfl) ?_
        refine Ops_nil ?_
        refine thenA_n ?_
        refine wpA_cond rfl (fun g5 => ?_) (fun g5 => ?_)
        ·replace ho2 := cond_t ho2 g5
         refine wpA_seq ?_
         refine wpA_region ?_
         refine Ops_quiet _ rfl rfl (QO.loadRow (cs := sqC (⟨((⟨x2.order, (tset x2.t (a1).toNat (x1).toNat (x2.t (a2).toNat (x1).toNat))⟩ : Sq)).order, (tset ((⟨x2.order, (tset x2.t (a1).toNat (x1).toNat (x2.t (a2).toNat (x1).toNat))⟩ : Sq)).t (a2).toNat (x1).toNat (x2.t (a1).toNat (x1).toNat))⟩ : Sq)) (hr := (rdAll ((upd_ne _ _ n_b2_b1.ne.symm).trans (upd_same _ _ _)))) rfl sz28 rfl rfl (sqC_length _)) ?_
         refine Ops_loud rfl (LO.storeAll (cs := sqC (⟨((⟨x2.order, (tset x2.t (a1).toNat (x1).toNat (x2.t (a2).toNat (x1).toNat))⟩ : Sq)).order, (tset ((⟨x2.order, (tset x2.t (a1).toNat (x1).toNat (x2.t (a2).toNat (x1).toNat))⟩ : Sq)).t (a2).toNat (x1).toNat (x2.t (a1).toNat (x1).toNat))⟩ : Sq)) rfl sz28 rfl rfl (sqC_one _) (sqC_length _) (upd_same _ _ _) (sqC_length _) Chg.here rfl ?_)
         refine Ops_nil ?_
         refine thenA_n ?_
         refine wpA_ret ?_
         refine blockA_r ?_
         refine thenA_r ?_
         obtain rfl := Option.some.inj ho2
         obtain rfl := Option.some.inj hk2
         exact ⟨rfl, (Sub.cons rfl Sub.nil), (Le.upd_left (Le.under (Le.under (Le.refl _) hb1) hb2) (upd_same _ _ _) (by first | rfl | (simp; done)))⟩
        ·replace ho2 := cond_f ho2 g5
         refine wpA_skip ?_
         refine blockA_n ?_
         obtain rfl := Option.some.inj ho2
         dsimp only at hk2
         exact thenA_n ⟨k2, Nat.lt_succ_self _, _, _, hk2, (Sub.cons rfl (Sub.cons rfl (Sub.cons rfl (Sub.cons rfl (Sub.cons rfl (Sub.cons rfl Sub.nil)))))), (Le.upd_left (Le.upd_left (Le.under (Le.under (Le.refl _) hb1) hb2) ((upd_ne _ _ n_b2_b1.ne.symm).trans (upd_same _ _ _)) (by first | rfl | (simp; done))) (upd_same _ _ _) (by first | rfl | (simp; done)))⟩
       ·replace ho2 := cond_f ho2 g4
        refine wpA_exit ?_
        refine thenA_e ?_
        refine thenA_e ?_
        obtain rfl := Option.some.inj ho2
        obtain rfl := Option.some.inj hk2
        exact ⟨rfl, _, _, rfl, (Sub.cons rfl (Sub.cons rfl (Sub.cons rfl (Sub.cons rfl (Sub.cons rfl (Sub.cons rfl Sub.nil)))))), (Le.upd_left (Le.upd_left (Le.under (Le.under (Le.refl _) hb1) hb2) ((upd_ne _ _ n_b2_b1.ne.symm).trans (upd_same _ _ _)) (by first | rfl | (simp; done))) (upd_same _ _ _) (by first | rfl | (simp; done)))⟩
    ·intro e s' h' hq
     cases R2 with
     | next x => exact hq.elim
     | ret r =>
      obtain ⟨rfl, hsub1, hle1⟩ := hq
      try dsimp only at ho1
      refine blockA_r ?_
      refine thenA_r ?_
      refine blockA_r ?_
      refine thenA_r ?_
      obtain rfl := Option.some.inj ho1
      obtain rfl := Option.some.inj hk1
      exact ⟨rfl, (Sub.trans hsub1 (Sub.cons rfl Sub.nil)), (Le.trans (Le.upd_left (Le.under (Le.refl _) hb2) (upd_same _ _ _) (by first | rfl | (simp; done))) hle1)⟩
     | stop x id =>
      obtain ⟨rfl, x6, x7, rfl, hsub2, hle2⟩ := hq
      try dsimp only at ho1
      by_cases hid1 : id = 2
      ·subst hid1
       rw [if_pos rfl] at ho1
       refine blockA_s ?_
       refine thenA_n ?_
       refine wpA_weaken hsub2.ok hle2 ?_
       refine wpA_region ?_
       refine Ops_quiet _ rfl rfl (QO.move rfl rfl) ?_
       refine Ops_quiet _ rfl rfl (QO.assign rfl rfl) ?_
       refine Ops_nil ?_
       refine blockA_n ?_
       obtain rfl := Option.some.inj ho1
       dsimp only at hk1
       exact thenA_n ⟨k1, Nat.lt_succ_self _, _, _, _, hk1, (Sub.cons rfl (Sub.cons rfl (Sub.cons rfl (Sub.cons rfl (Sub.cons rfl Sub.nil))))), (Le.upd_left (Le.upd_left (Le.under (Le.under (Le.refl _) hb1) hb2) ((upd_ne _ _ n_b2_b1.ne.symm).trans (upd_same _ _ _)) (by first | rfl | (simp; done))) (upd_same _ _ _) (by first | rfl | (simp; done)))⟩
      rw [if_neg hid1] at ho1
      exact absurd ho1 (by simp)
  ·intro e s' h' hq
   cases R1 with
   | next x => exact hq.elim
   | ret r =>
    obtain ⟨rfl, hsub3, hle3⟩ := hq
    try dsimp only at hm
    refine blockA_r ?_
    obtain rfl := Option.some.inj hm
    refine retA_sub hsub3.ok hle3 ?_
    exact retA_r (h2 := h) (Res.one rfl (res1.row (cs := sqC r) (hr := (rdAll (upd_same _ _ _))) sz28 rfl rfl (sqC_length _))) (Le.under (Le.refl _) hb2) ⟨rfl, rfl⟩
   | stop x id =>
    obtain ⟨rfl, x8, x9, x10, rfl, hsub4, hle4⟩ := hq
    try dsimp only at hm
    exact absurd hm (by simp)

/-! loop.example/g01195/spec.l01DrawPlaces -/
theorem c_spec_l01DrawPlaces {a0 : Rng} {p0 : Nat} {l_s : List Int} {A_s : Option Addr} {c_s : Nat} {a1 : Int} {h : Hp} {r : (Nat → Int) × Rng} (hm : m_spec_l01DrawPlaces a0 l_s a1 = some r) (hs_s : RdS h A_s (ints .u8 l_s)) (h_p0 : h p0 = none) :
    CC Try.prog 67 #[.pointer (some ⟨p0, 0, none⟩), .int .i64 a1] (upd (h) p0 (.own 74 (srcC A_s l_s.length c_s a0) 3)) (fun v h' => v = .agg (tabI .u8 r.1 10).toArray ∧ h' = upd (h) p0 (.own 74 (srcC A_s l_s.length c_s r.2) 3)) := by
 unfold m_spec_l01DrawPlaces at hm
 refine CC.enter Try.func67 rfl Try.ntmps67 rfl ?_
 refine wpA_seq ?_
 refine wpA_region ?_
 refine Ops_loud rfl (LO.alloc rfl zr34 rfl (fun b1 hb1 => ?_))
 simp only [upd_noneA] at hb1
 obtain ⟨n_b1_p0, hb1⟩ := hb1
 refine Ops_nil ?_
 refine thenA_n ?_
 refine wpA_seq ?_
 refine wpA_region ?_
 refine Ops_quiet _ rfl rfl (QO.move rfl rfl) ?_
 have hq := Option.bind_eq_some_iff.1 hm; clear hm; obtain ⟨r1, hr1, hm⟩ := hq
 refine Ops_call _ _ rfl rfl (EO.fn rfl Try.func75 rfl rfl (Evs.cons rfl Evs.nil)) (QC.cc (c_spec_l01Same hr1 ) ?_)
 refine Ops_loud rfl (LO.alloc rfl zr34 rfl (fun b2 hb2 => ?_))
 simp only [upd_noneA] at hb2
 obtain ⟨n_b2_b1, n_b2_p0, hb2⟩ := hb2
 refine Ops_loud rfl (LO.storeAll (cs := tabI .u8 r1 10) rfl sz34 rfl rfl (tabI_one _ _ _) (tabI_length _ _ _) (upd_same _ _ _) (tabI_length _ _ _) Chg.here rfl ?_)
 refine Ops_nil ?_
 refine thenA_n ?_
 refine wpA_seq ?_
 refine wpA_seq ?_
 refine wpA_region ?_
 refine Ops_quiet _ rfl rfl (QO.move rfl rfl) ?_
 have hq := Option.bind_eq_some_iff.1 hm; clear hm; obtain ⟨r2, hr2, hm⟩ := hq
 have hd1 : Del (upd (upd (upd (h) p0 (.own 74 (srcC A_s l_s.length c_s a0) 3)) b1 (.own 34 (tabI .u8 pl0 10) 10)) b2 (.own 34 (tabI .u8 r1 10) 10)) p0 (.own 74 (srcC A_s l_s.length c_s a0) 3) (upd (upd (h) b1 (.own 34 (tabI .u8 pl0 10) 10)) b2 (.own 34 (tabI .u8 r1 10) 10)) := (Del.there n_b2_p0.ne.symm (Del.there n_b1_p0.ne.symm (Del.here h_p0)))
 refine Ops_call _ _ rfl rfl (EO.fn rfl Try.func54 rfl rfl (Evs.cons rfl (Evs.cons rfl Evs.nil))) (CC.mono (CC.atLe (c_spec_l01Next (h := upd (upd (h) b1 (.own 34 (tabI .u8 pl0 10) 10)) b2 (.own 34 (tabI .u8 r1 10) 10)) hr2 (RdS.le hs_s (Le.under (Le.under (Le.refl _) hb1) hb2)) hd1.none) hd1.le) ?_)
 rintro _ _ ⟨rfl, rfl⟩
 refine Ops_quiet _ rfl rfl (QO.bin rfl rfl rfl rfl) ?_
 refine Ops_nil ?_
 refine thenA_n ?_
 refine wpA_cond rfl (fun g1 => ?_) (fun g1 => ?_)
 ·replace hm := cond_t hm g1
  refine wpA_seq ?_
  refine wpA_region ?_
  refine Ops_quiet _ rfl rfl (QO.loadRow (cs := tabI .u8 r1 10) (hr := (rdAll ((upd_ne _ _ n_b2_p0.ne).trans (upd_same _ _ _)))) rfl sz34 rfl rfl (tabI_length _ _ _)) ?_
  refine Ops_loud rfl (LO.storeAll (cs := tabI .u8 r1 10) rfl sz34 rfl rfl (tabI_one _ _ _) (tabI_length _ _ _) ((upd_ne _ _ n_b1_p0.ne).trans ((upd_ne _ _ n_b2_b1.ne.symm).trans (upd_same _ _ _))) (tabI_length _ _ _) (Chg.there n_b1_p0.ne.symm (Chg.there n_b2_b1.ne Chg.here)) rfl ?_)
  refine Ops_nil ?_
  refine thenA_n ?_
  refine wpA_ret ?_
  refine thenA_r ?_
  obtain rfl := Option.some.inj hm
  exact retA_r (h2 := upd (h) p0 (.own 74 (srcC A_s l_s.length c_s r2.2) 3)) (Res.one rfl (res1.row (cs := tabI .u8 r1 10) (hr := (rdAll ((upd_ne _ _ n_b1_p0.ne).trans ((upd_ne _ _ n_b2_b1.ne.symm).trans (upd_same _ _ _))))) sz34 rfl rfl (tabI_length _ _ _))) (Le.upd_left (Le.under (Le.under (Le.under (Le.refl _) hb1) hb2) h_p0) (upd_same _ _ _) (by first | rfl | (simp; done))) ⟨rfl, rfl⟩
 ·replace hm := cond_f hm g1
  refine wpA_skip ?_
  refine thenA_n ?_
  refine wpA_seq ?_
  refine wpA_seq ?_
  refine wpA_region ?_
  refine Ops_quiet _ rfl rfl (QO.move rfl rfl) ?_
  refine Ops_quiet _ rfl rfl (QO.bin rfl rfl rfl rfl) ?_
  refine Ops_quiet _ rfl rfl (QO.assign rfl rfl) ?_
  refine Ops_nil ?_
  refine thenA_n ?_
  refine wpA_block ?_
  obtain ⟨R1, hR, hm⟩ := Option.bind_eq_some_iff.1 hm
  obtain ⟨k1, hk1⟩ := loopV_some hR
  clear hR
  refine wpA_mono (Q := fun e s' h' => match (generalizing := false) R1 with | .stop x id => e = .exit id ∧ ∃ (x1 : Int) (x2 : (Nat → Int)) (x3 : Rng), (x1, x2, x3) = x ∧ Sub s' [(0, .pointer (some ⟨p0, 0, none⟩)), (4, .pointer (some ⟨b1, 0, none⟩)), (5, .pointer (some ⟨b2, 0, none⟩)), (6, .int .i64 x1)] ∧ Le (upd (upd (upd (h) b1 (.own 34 (tabI .u8 pl0 10) 10)) b2 (.own 34 (tabI .u8 x2 10) 10)) p0 (.own 74 (srcC A_s l_s.length c_s x3) 3)) h' | .ret r => False | .next _ => False) ?_ ?_
  ·refine wpA_loop (fun k s' h' => ∃ (x1 : Int) (x2 : (Nat → Int)) (x3 : Rng), loopW (m_spec_l01DrawPlaces_l0 l_s) k (x1, x2, x3) = some R1 ∧ Sub s' [(0, .pointer (some ⟨p0, 0, none⟩)), (4, .pointer (some ⟨b1, 0, none⟩)), (5, .pointer (some ⟨b2, 0, none⟩)), (6, .int .i64 x1)] ∧ Le (upd (upd (upd (h) b1 (.own 34 (tabI .u8 pl0 10) 10)) b2 (.own 34 (tabI .u8 x2 10) 10)) p0 (.own 74 (srcC A_s l_s.length c_s x3) 3)) h') (m := k1) ⟨(IntKind.i64.wrap (a1 - 1)), r1, r2.2, hk1, (Sub.cons rfl (Sub.cons rfl (Sub.cons rfl (Sub.cons rfl Sub.nil)))), (Le.upd_left (Le.upd_left (Le.upd_left (Le.under (Le.under (Le.under (Le.refl _) hb1) hb2) h_p0) ((upd_ne _ _ n_b1_p0.ne).trans ((upd_ne _ _ n_b2_b1.ne.symm).trans (upd_same _ _ _))) (by first | rfl | (simp; done))) ((upd_ne _ _ n_b2_p0.ne).trans (upd_same _ _ _)) (by first | rfl | (simp; done))) (upd_same _ _ _) (by first | rfl | (simp; done)))⟩ ?_
   rintro k1 s' h' ⟨x1, x2, x3, hk1, hsub, hle⟩
   refine wpA_weaken hsub.ok hle ?_
   clear hsub hle s' h'
   cases k1 with
   | zero => exact absurd hk1 (by simp [loopW])
   | succ k1 =>
    obtain ⟨o1, ho1, hk1⟩ := loopW_succ hk1
    unfold m_spec_l01DrawPlaces_l0 at ho1
    try dsimp only at ho1
    refine wpA_seq ?_
    refine wpA_seq ?_
    refine wpA_region ?_
    refine Ops_quiet _ rfl rfl (QO.move rfl rfl) ?_
    refine Ops_quiet _ rfl rfl (QO.bin rfl rfl rfl rfl) ?_
    refine Ops_nil ?_
    refine thenA_n ?_
    refine wpA_cond rfl (fun g2 => ?_) (fun g2 => ?_)
    ·replace ho1 := cond_t ho1 g2
     refine wpA_skip ?_
     refine thenA_n ?_
     refine wpA_seq ?_
     refine wpA_block ?_
     refine wpA_seq ?_
     refine wpA_region ?_
     refine Ops_quiet _ rfl rfl (QO.move rfl rfl) ?_
     refine Ops_quiet _ rfl rfl (QO.move rfl rfl) ?_
     refine Ops_quiet _ rfl rfl (QO.bin rfl rfl rfl rfl) ?_
     have hq := Option.bind_eq_some_iff.1 ho1; clear ho1; obtain ⟨r3, hr3, ho1⟩ := hq
     have hd2 : Del (upd (upd (upd (h) b1 (.own 34 (tabI .u8 pl0 10) 10)) b2 (.own 34 (tabI .u8 x2 10) 10)) p0 (.own 74 (srcC A_s l_s.length c_s x3) 3)) p0 (.own 74 (srcC A_s l_s.length c_s x3) 3) (upd (upd (h) b1 (.own 34 (tabI .u8 pl0 10) 10)) b2 (.own 34 (tabI .u8 x2 10) 10)) := (Del.here (none_upd n_b2_p0.ne.symm (none_upd n_b1_p0.ne.symm h_p0)))
     refine Ops_call _ _ rfl rfl (EO.fn rfl Try.func54 rfl rfl (Evs.cons rfl (Evs.cons rfl Evs.nil))) (CC.mono (CC.atLe (c_spec_l01Next (h := upd (upd (h) b1 (.own 34 (tabI .u8 pl0 10) 10)) b2 (.own 34 (tabI .u8 x2 10) 10)) hr3 (RdS.le hs_s (Le.under (Le.under (Le.refl _) hb1) hb2)) hd2.none) hd2.le) ?_)
     rintro _ _ ⟨rfl, rfl⟩
     refine Ops_quiet _ rfl rfl (QO.assign rfl rfl) ?_
     refine Ops_nil ?_
     refine thenA_n ?_
     refine wpA_seq ?_
     refine wpA_region ?_
     refine Ops_quiet _ rfl rfl (QO.move rfl rfl) ?_
     have hq := chk ho1; clear ho1; obtain ⟨ck1, ho1⟩ := hq
     refine Ops_quiet _ rfl rfl (QO.idxArr rfl sz34 sz5 rfl rfl (by omega) (by omega)) ?_
     refine Ops_quiet _ rfl rfl (QO.load rfl sz5 rfl rfl (by (refine (rd_own ((upd_ne _ _ n_b2_p0.ne).trans (upd_same _ _ _)) _).trans ?_); exact tabI_get01 (by omega))) ?_
     refine Ops_quiet _ rfl rfl (QO.assign rfl rfl) ?_
     refine Ops_nil ?_
     refine thenA_n ?_
     refine wpA_seq ?_
     refine wpA_region ?_
     refine Ops_quiet _ rfl rfl (QO.move rfl rfl) ?_
     refine Ops_quiet _ rfl rfl (QO.move rfl rfl) ?_
     have hq := chk ho1; clear ho1; obtain ⟨ck2, ho1⟩ := hq
     refine Ops_quiet _ rfl rfl (QO.idxArr rfl sz34 sz5 rfl rfl (by omega) (by omega)) ?_
     refine Ops_quiet _ rfl rfl (QO.load rfl sz5 rfl rfl (by (refine (rd_own ((upd_ne _ _ n_b2_p0.ne).trans (upd_same _ _ _)) _).trans ?_); exact tabI_get01 (by omega))) ?_
     have hq := chk ho1; clear ho1; obtain ⟨ck3, ho1⟩ := hq
     refine Ops_quiet _ rfl rfl (QO.idxArr rfl sz34 sz5 rfl rfl (by omega) (by omega)) ?_
     refine Ops_loud rfl (LO.store' (xs' := tabI .u8 (fset x2 (x1).toNat (x2 (r3.1).toNat)) 10) rfl sz5 rfl rfl rfl ((upd_ne _ _ n_b2_p0.ne).trans (upd_same _ _ _)) (by first | ((try simp only [rowsC_length, rowsA_length, mpC_length, sqC_length, tbC_length, tabI_length, tabB_length, ints_length, plsC_length, trC_length, sqsC_length, strsC_length, boolsC_length, tbB_length, List.length_append, List.length_cons, List.length_nil, List.length_set, List.length_replicate, rep_length]); first | omega | decide) | exact Nat.le_of_ble_eq_true rfl) tabI_set01 (Chg.there n_b2_p0.ne.symm Chg.here) rfl ?_)
     refine Ops_nil ?_
     refine thenA_n ?_
     refine wpA_region ?_
     refine Ops_quiet _ rfl rfl (QO.move rfl rfl) ?_
     refine Ops_quiet _ rfl rfl (QO.move rfl rfl) ?_
     have hq := chk ho1; clear ho1; obtain ⟨ck4, ho1⟩ := hq
     refine Ops_quiet _ rfl rfl (QO.idxArr rfl sz34 sz5 rfl rfl (by omega) (by omega)) ?_
     refine Ops_loud rfl (LO.store' (xs' := tabI .u8 (fset (fset x2 (x1).toNat (x2 (r3.1).toNat)) (r3.1).toNat (x2 (x1).toNat)) 10) rfl sz5 rfl rfl rfl ((upd_ne _ _ n_b2_p0.ne).trans (upd_same _ _ _)) (by first | ((try simp only [rowsC_length, rowsA_length, mpC_length, sqC_length, tbC_length, tabI_length, tabB_length, ints_length, plsC_length, trC_length, sqsC_length, strsC_length, boolsC_length, tbB_length, List.length_append, List.length_cons, List.length_nil, List.length_set, List.length_replicate, rep_length]); first | omega | decide) | exact Nat.le_of_ble_eq_true rfl) tabI_set01 (Chg.there n_b2_p0.ne.symm Chg.here) rfl ?_)
     refine Ops_nil ?_
     refine blockA_n ?_
     refine thenA_n ?_
     refine wpA_region ?_
     refine Ops_quiet _ rfl rfl (QO.move rfl rfl) ?_
     refine Ops_quiet _ rfl rfl (QO.bin rfl rfl rfl rfl) ?_
     refine Ops_quiet _ rfl rfl (QO.assign rfl rfl) ?_
     refine Ops_nil ?_
     obtain rfl := Option.some.inj ho1
     dsimp only at hk1
     exact thenA_n ⟨k1, Nat.lt_succ_self _, _, _, _, hk1, (Sub.cons rfl (Sub.cons rfl (Sub.cons rfl (Sub.cons rfl Sub.nil)))), (Le.upd_left (Le.upd_left (Le.upd_left (Le.under (Le.under (Le.under (Le.refl _) hb1) hb2) h_p0) ((upd_ne _ _ n_b1_p0.ne).trans ((upd_ne _ _ n_b2_b1.ne.symm).trans (upd_same _ _ _))) (by first | rfl | (simp; done))) ((upd_ne _ _ n_b2_p0.ne).trans (upd_same _ _ _)) (by first | rfl | (simp; done))) (upd_same _ _ _) (by first | rfl | (simp; done)))⟩
    ·replace ho1 := cond_f ho1 g2
     refine wpA_exit ?_
     refine thenA_e ?_
     refine thenA_e ?_
     obtain rfl := Option.some.inj ho1
     obtain rfl := Option.some.inj hk1
     exact ⟨rfl, _, _, _, rfl, (Sub.cons rfl (Sub.cons rfl (Sub.cons rfl (Sub.cons rfl Sub.nil)))), (Le.upd_left (Le.upd_left (Le.upd_left (Le.under (Le.under (Le.under (Le.refl _) hb1) hb2) h_p0) ((upd_ne _ _ n_b1_p0.ne).trans ((upd_ne _ _ n_b2_b1.ne.symm).trans (upd_same _ _ _))) (by first | rfl | (simp; done))) ((upd_ne _ _ n_b2_p0.ne).trans (upd_same _ _ _)) (by first | rfl | (simp; done))) (upd_same _ _ _) (by first | rfl | (simp; done)))⟩
  ·intro e s' h' hq
   cases R1 with
   | next x => exact hq.elim
   | ret r => exact hq.elim
   | stop x id =>
    obtain ⟨rfl, x4, x5, x6, rfl, hsub1, hle1⟩ := hq
    try dsimp only at hm
    by_cases hid1 : id = 0
    ·subst hid1
     rw [if_pos rfl] at hm
     refine blockA_s ?_
     refine thenA_n ?_
     refine wpA_weaken hsub1.ok hle1 ?_
     refine wpA_seq ?_
     refine wpA_region ?_
     refine Ops_quiet _ rfl rfl (QO.loadRow (cs := tabI .u8 x5 10) (hr := (rdAll ((upd_ne _ _ n_b2_p0.ne).trans (upd_same _ _ _)))) rfl sz34 rfl rfl (tabI_length _ _ _)) ?_
     refine Ops_loud rfl (LO.storeAll (cs := tabI .u8 x5 10) rfl sz34 rfl rfl (tabI_one _ _ _) (tabI_length _ _ _) ((upd_ne _ _ n_b1_p0.ne).trans ((upd_ne _ _ n_b2_b1.ne.symm).trans (upd_same _ _ _))) (tabI_length _ _ _) (Chg.there n_b1_p0.ne.symm (Chg.there n_b2_b1.ne Chg.here)) rfl ?_)
     refine Ops_nil ?_
     refine thenA_n ?_
     refine wpA_ret ?_
     obtain rfl := Option.some.inj hm
     exact retA_r (h2 := upd (h) p0 (.own 74 (srcC A_s l_s.length c_s x6) 3)) (Res.one rfl (res1.row (cs := tabI .u8 x5 10) (hr := (rdAll ((upd_ne _ _ n_b1_p0.ne).trans ((upd_ne _ _ n_b2_b1.ne.symm).trans (upd_same _ _ _))))) sz34 rfl rfl (tabI_length _ _ _))) (Le.upd_left (Le.under (Le.under (Le.under (Le.refl _) hb1) hb2) h_p0) (upd_same _ _ _) (by first | rfl | (simp; done))) ⟨rfl, rfl⟩
    rw [if_neg hid1] at hm
    exact absurd hm (by simp)

/-! loop.example/g01195/spec.l01Draw -/
theorem c_spec_l01Draw {a0 : Rng} {p0 : Nat} {l_s : List Int} {A_s : Option Addr} {c_s : Nat} {h : Hp} {r : Sq × Rng} (hm : m_spec_l01Draw a0 l_s = some r) (hs_s : RdS h A_s (ints .u8 l_s)) (h_p0 : h p0 = none) :
    CC Try.prog 65 #[.pointer (some ⟨p0, 0, none⟩)] (upd (h) p0 (.own 74 (srcC A_s l_s.length c_s a0) 3)) (fun v h' => v = .agg (sqC r.1).toArray ∧ h' = upd (h) p0 (.own 74 (srcC A_s l_s.length c_s r.2) 3)) := by
 unfold m_spec_l01Draw at hm
 refine CC.enter Try.func65 rfl Try.ntmps65 rfl ?_
 refine wpA_seq ?_
 refine wpA_region ?_
 refine Ops_loud rfl (LO.alloc rfl zr28 rfl (fun b1 hb1 => ?_))
 simp only [upd_noneA] at hb1
 obtain ⟨n_b1_p0, hb1⟩ := hb1
 refine Ops_nil ?_
 refine thenA_n ?_
 refine wpA_seq ?_
 refine wpA_region ?_
 refine Ops_quiet _ rfl rfl (QO.move rfl rfl) ?_
 have hq := Option.bind_eq_some_iff.1 hm; clear hm; obtain ⟨r1, hr1, hm⟩ := hq
 have hd1 : Del (upd (upd (h) p0 (.own 74 (srcC A_s l_s.length c_s a0) 3)) b1 (.own 28 (sqC sq0) 101)) p0 (.own 74 (srcC A_s l_s.length c_s a0) 3) (upd (h) b1 (.own 28 (sqC sq0) 101)) := (Del.there n_b1_p0.ne.symm (Del.here h_p0))
 refine Ops_call _ _ rfl rfl (EO.fn rfl Try.func71 rfl rfl (Evs.cons rfl Evs.nil)) (CC.mono (CC.atLe (c_spec_l01Known (h := upd (h) b1 (.own 28 (sqC sq0) 101)) hr1 (RdS.le hs_s (Le.under (Le.refl _) hb1)) hd1.none) hd1.le) ?_)
 rintro _ _ ⟨rfl, rfl⟩
 refine Ops_loud rfl (LO.alloc rfl zr28 rfl (fun b2 hb2 => ?_))
 simp only [upd_noneA] at hb2
 obtain ⟨n_b2_p0, n_b2_b1, hb2⟩ := hb2
 refine Ops_loud rfl (LO.storeAll (cs := sqC r1.1) rfl sz28 rfl rfl (sqC_one _) (sqC_length _) (upd_same _ _ _) (sqC_length _) Chg.here rfl ?_)
 refine Ops_nil ?_
 refine thenA_n ?_
 refine wpA_seq ?_
 refine wpA_region ?_
 refine Ops_quiet _ rfl rfl (QO.fieldAt (fo := 0) rfl sz28 rfl rfl sz2 rfl rfl) ?_
 refine Ops_quiet _ rfl rfl (QO.load rfl sz2 rfl rfl (by (refine (rd_own (upd_same _ _ _) _).trans ?_); exact rfl)) ?_
 refine Ops_quiet _ rfl rfl (QO.assign rfl rfl) ?_
 refine Ops_nil ?_
 refine thenA_n ?_
 refine wpA_seq ?_
 refine wpA_seq ?_
 refine wpA_region ?_
 refine Ops_quiet _ rfl rfl (QO.move rfl rfl) ?_
 refine Ops_loud rfl (LO.slice' [(0, .int .i64 0), (1, .int .i64 0), (2, .int .i64 1), (3, .int .i64 2), (4, .int .i64 4)] (r := ints .i64 [0, 0, 1, 2, 4]) rfl sz57 sz2 zr2 (by first | rfl | (simp [rowsC_length, rowsA_length, mpC_length, sqC_length, tbC_length, tabI_length, tabB_length, ints_length, plsC_length, trC_length, sqsC_length, strsC_length, boolsC_length, tbB_length, List.length_append, List.length_cons, List.length_nil, List.length_set, List.length_replicate, rep_length]; done)) (by decide) (by decide) (by decide) rfl rfl (by first | rfl | (simp [rowsC_length, rowsA_length, mpC_length, sqC_length, tbC_length, tabI_length, tabB_length, ints_length, plsC_length, trC_length, sqsC_length, strsC_length, boolsC_length, tbB_length, List.length_append, List.length_cons, List.length_nil, List.length_set, List.length_replicate, rep_length]; done)) rfl (fun b3 hb3 => ?_))
 simp only [upd_noneA] at hb3
 obtain ⟨n_b3_b2, n_b3_p0, n_b3_b1, hb3⟩ := hb3
 have hq := Option.bind_eq_some_iff.1 hm; clear hm; obtain ⟨r2, hr2, hm⟩ := hq
 have hd2 : Del (upd (upd (upd (upd (h) b1 (.own 28 (sqC sq0) 101)) p0 (.own 74 (srcC A_s l_s.length c_s r1.2) 3)) b2 (.own 28 (sqC r1.1) 101)) b3 (.own 2 (ints .i64 [0, 0, 1, 2, 4]) (5 * 1))) p0 (.own 74 (srcC A_s l_s.length c_s r1.2) 3) (upd (upd (upd (h) b1 (.own 28 (sqC sq0) 101)) b2 (.own 28 (sqC r1.1) 101)) b3 (.own 2 (ints .i64 [0, 0, 1, 2, 4]) (5 * 1))) := (Del.there n_b3_p0.ne.symm (Del.there n_b2_p0.ne.symm (Del.here (none_upd n_b1_p0.ne.symm h_p0))))
 refine Ops_call _ _ rfl rfl (EO.fn rfl Try.func55 rfl rfl (Evs.cons rfl (Evs.cons rfl Evs.nil))) (CC.mono (CC.atLe (c_spec_l01Pick (l1 := [0, 0, 1, 2, 4]) (A1 := some ⟨b3, 0, none⟩) (c1 := 5) (h := upd (upd (upd (h) b1 (.own 28 (sqC sq0) 101)) b2 (.own 28 (sqC r1.1) 101)) b3 (.own 2 (ints .i64 [0, 0, 1, 2, 4]) (5 * 1))) hr2 (RdS.le hs_s (Le.under (Le.under (Le.under (Le.refl _) hb1) hb2) hb3)) (RdS.own (upd_same _ _ _)) hd2.none) hd2.le) ?_)
 rintro _ _ ⟨rfl, rfl⟩
 refine Ops_quiet _ rfl rfl (QO.assign rfl rfl) ?_
 refine Ops_nil ?_
 refine thenA_n ?_
 refine wpA_block ?_
 obtain ⟨R1, hR, hm⟩ := Option.bind_eq_some_iff.1 hm
 obtain ⟨k1, hk1⟩ := loopV_some hR
 clear hR
 refine wpA_mono (Q := fun e s' h' => match (generalizing := false) R1 with | .stop x id => e = .exit id ∧ ∃ (x1 : Int) (x2 : Sq) (x3 : Rng), (x1, x2, x3) = x ∧ Sub s' [(0, .pointer (some ⟨p0, 0, none⟩)), (2, .pointer (some ⟨b1, 0, none⟩)), (3, .pointer (some ⟨b2, 0, none⟩)), (4, .int .i64 r1.1.order), (5, .int .i64 x1)] ∧ Le (upd (upd (upd (h) b1 (.own 28 (sqC sq0) 101)) b2 (.own 28 (sqC x2) 101)) p0 (.own 74 (srcC A_s l_s.length c_s x3) 3)) h' | .ret r => False | .next _ => False) ?_ ?_
 ·refine wpA_loop (fun k s' h' => ∃ (x1 : Int) (x2 : Sq) (x3 : Rng), loopW (m_spec_l01Draw_l0 l_s r1) k (x1, x2, x3) = some R1 ∧ Sub s' [(0, .pointer (some ⟨p0, 0, none⟩)), (2, .pointer (some ⟨b1, 0, none⟩)), (3, .pointer (some ⟨b2, 0, none⟩)), (4, .int .i64 r1.1.order), (5, .int .i64 x1)] ∧ Le (upd (upd (upd (h) b1 (.own 28 (sqC sq0) 101)) b2 (.own 28 (sqC x2) 101)) p0 (.own 74 (srcC A_s l_s.length c_s x3) 3)) h') (m := k1) ⟨r2.1, r1.1, r2.2, hk1, (Sub.cons rfl (Sub.cons rfl (Sub.cons rfl (Sub.cons rfl (Sub.cons rfl Sub.nil))))), (Le.upd_left (Le.upd_left (Le.upd_left (Le.under (Le.under (Le.under (Le.under (Le.refl _) hb1) hb2) hb3) h_p0) ((upd_ne _ _ n_b1_p0.ne).trans ((upd_ne _ _ n_b3_b1.ne.symm).trans ((upd_ne _ _ n_b2_b1.ne.symm).trans (upd_same _ _ _)))) (by first | rfl | (simp; done))) ((upd_ne _ _ n_b2_p0.ne).trans ((upd_ne _ _ n_b3_b2.ne.symm).trans (upd_same _ _ _))) (by first | rfl | (simp; done))) (upd_same _ _ _) (by first | rfl | (simp; done)))⟩ ?_
  rintro k1 s' h' ⟨x1, x2, x3, hk1, hsub, hle⟩
  refine wpA_weaken hsub.ok hle ?_
  clear hsub hle s' h'
  cases k1 with
  | zero => exact absurd hk1 (by simp [loopW])
  | succ k1 =>
   obtain ⟨o1, ho1, hk1⟩ := loopW_succ hk1
   unfold m_spec_l01Draw_l0 at ho1
   try dsimp only at ho1
   refine wpA_seq ?_
   refine wpA_seq ?_
   refine wpA_region ?_
   refine Ops_quiet _ rfl rfl (QO.move rfl rfl) ?_
   refine Ops_quiet _ rfl rfl (QO.bin rfl rfl rfl rfl) ?_
   refine Ops_nil ?_
   refine thenA_n ?_
   refine wpA_cond rfl (fun g1 => ?_) (fun g1 => ?_)
   ·replace ho1 := cond_t ho1 g1
    refine wpA_skip ?_
    refine thenA_n ?_
    refine wpA_seq ?_
    refine wpA_block ?_
    refine wpA_seq ?_
    refine wpA_seq ?_
    refine wpA_region ?_
    refine Ops_quiet _ rfl rfl (QO.move rfl rfl) ?_
    have hq := Option.bind_eq_some_iff.1 ho1; clear ho1; obtain ⟨r3, hr3, ho1⟩ := hq
    have hd3 : Del (upd (upd (upd (h) b1 (.own 28 (sqC sq0) 101)) b2 (.own 28 (sqC x2) 101)) p0 (.own 74 (srcC A_s l_s.length c_s x3) 3)) p0 (.own 74 (srcC A_s l_s.length c_s x3) 3) (upd (upd (h) b1 (.own 28 (sqC sq0) 101)) b2 (.own 28 (sqC x2) 101)) := (Del.here (none_upd n_b2_p0.ne.symm (none_upd n_b1_p0.ne.symm h_p0)))
    refine Ops_call _ _ rfl rfl (EO.fn rfl Try.func54 rfl rfl (Evs.cons rfl (Evs.cons rfl Evs.nil))) (CC.mono (CC.atLe (c_spec_l01Next (h := upd (upd (h) b1 (.own 28 (sqC sq0) 101)) b2 (.own 28 (sqC x2) 101)) hr3 (RdS.le hs_s (Le.under (Le.under (Le.refl _) hb1) hb2)) hd3.none) hd3.le) ?_)
    rintro _ _ ⟨rfl, rfl⟩
    refine Ops_quiet _ rfl rfl (QO.bin rfl rfl rfl rfl) ?_
    refine Ops_nil ?_
    refine thenA_n ?_
    refine wpA_cond rfl (fun g2 => ?_) (fun g2 => ?_)
    ·replace ho1 := cond_t ho1 g2
     refine wpA_region ?_
     refine Ops_quiet _ rfl rfl (QO.loadRow (cs := sqC x2) (hr := (rdAll ((upd_ne _ _ n_b2_p0.ne).trans (upd_same _ _ _)))) rfl sz28 rfl rfl (sqC_length _)) ?_
     have hq := Option.bind_eq_some_iff.1 ho1; clear ho1; obtain ⟨r4, hr4, ho1⟩ := hq
     refine Ops_call _ _ rfl rfl (EO.fn rfl Try.func72 rfl rfl (Evs.cons rfl Evs.nil)) (QC.cc (c_spec_l01Opposite hr4 ) ?_)
     refine Ops_loud rfl (LO.storeAll (cs := sqC r4) rfl sz28 rfl rfl (sqC_one _) (sqC_length _) ((upd_ne _ _ n_b2_p0.ne).trans (upd_same _ _ _)) (sqC_length _) (Chg.there n_b2_p0.ne.symm Chg.here) rfl ?_)
     refine Ops_nil ?_
     refine thenA_n ?_
     refine wpA_any (upd (upd (h) b1 (.own 28 (sqC sq0) 101)) b2 (.own 28 (sqC r4) 101)) [3, 7, 11, 14] [14] (by kernel_rfl) (by kernel_rfl) (DW.start ?_)
     refine DW.readK' 0 _ rfl (by kernel_rfl) rfl (Le.upd_left (Le.upd_left (Le.under (Le.under (Le.under (Le.refl _) hb1) hb2) h_p0) ((upd_ne _ _ n_b1_p0.ne).trans ((upd_ne _ _ n_b2_b1.ne.symm).trans (upd_same _ _ _))) (by first | rfl | (simp; done))) ((upd_ne _ _ n_b2_p0.ne).trans (upd_same _ _ _)) (by first | rfl | (simp; done))) (QO.loadRow (cs := sqC r4) (hr := (rdAll (upd_same _ _ _))) rfl sz28 rfl rfl (sqC_length _)) ?_
     refine DW.pure' 1 _ rfl (by kernel_rfl) rfl (fun _ => QO.move rfl rfl) ?_
     refine DW.pure' 2 _ rfl (by kernel_rfl) rfl (fun _ => QO.move rfl rfl) ?_
     refine DW.pure' 5 _ rfl (by kernel_rfl) rfl (fun _ => QO.move rfl rfl) ?_
     refine DW.pure' 6 _ rfl (by kernel_rfl) rfl (fun _ => QO.move rfl rfl) ?_
     refine DW.pure' 9 _ rfl (by kernel_rfl) rfl (fun _ => QO.move rfl rfl) ?_
     refine DW.pure' 10 _ rfl (by kernel_rfl) rfl (fun _ => QO.move rfl rfl) ?_
     have hq := Option.bind_eq_some_iff.1 ho1; clear ho1; obtain ⟨r5, hr5, ho1⟩ := hq
     have hd4 : Del (upd (upd (upd (h) b1 (.own 28 (sqC sq0) 101)) b2 (.own 28 (sqC r4) 101)) p0 (.own 74 (srcC A_s l_s.length c_s r3.2) 3)) p0 (.own 74 (srcC A_s l_s.length c_s r3.2) 3) (upd (upd (h) b1 (.own 28 (sqC sq0) 101)) b2 (.own 28 (sqC r4) 101)) := (Del.here (none_upd n_b2_p0.ne.symm (none_upd n_b1_p0.ne.symm h_p0)))
     refine DW.call 3 _ _ rfl (by kernel_rfl) rfl rfl (EO.fn rfl Try.func54 rfl rfl (Evs.cons rfl (Evs.cons rfl Evs.nil))) (CC.mono (CC.atLe (c_spec_l01Next (h := upd (upd (h) b1 (.own 28 (sqC sq0) 101)) b2 (.own 28 (sqC r4) 101)) hr5 (RdS.le hs_s (Le.under (Le.under (Le.refl _) hb1) hb2)) hd4.none) hd4.le) ?_)
     rintro _ _ ⟨rfl, rfl⟩
     refine ⟨(fun _ => (Le.upd_left (Le.upd_left (Le.under (Le.under (Le.under (Le.refl _) hb1) hb2) h_p0) ((upd_ne _ _ n_b1_p0.ne).trans ((upd_ne _ _ n_b2_b1.ne.symm).trans (upd_same _ _ _))) (by first | rfl | (simp; done))) ((upd_ne _ _ n_b2_p0.ne).trans (upd_same _ _ _)) (by first | rfl | (simp; done)))), ?_⟩
     refine DW.pure' 4 _ rfl (by kernel_rfl) rfl (fun _ => QO.conv rfl sz2 sz5 rfl) ?_
     have hq := Option.bind_eq_some_iff.1 ho1; clear ho1; obtain ⟨r6, hr6, ho1⟩ := hq
     have hd5 : Del (upd (upd (upd (h) b1 (.own 28 (sqC sq0) 101)) b2 (.own 28 (sqC r4) 101)) p0 (.own 74 (srcC A_s l_s.length c_s r5.2) 3)) p0 (.own 74 (srcC A_s l_s.length c_s r5.2) 3) (upd (upd (h) b1 (.own 28 (sqC sq0) 101)) b2 (.own 28 (sqC r4) 101)) := (Del.here (none_upd n_b2_p0.ne.symm (none_upd n_b1_p0.ne.symm h_p0)))
     refine DW.call 7 _ _ rfl (by kernel_rfl) rfl rfl (EO.fn rfl Try.func54 rfl rfl (Evs.cons rfl (Evs.cons rfl Evs.nil))) (CC.mono (CC.atLe (c_spec_l01Next (h := upd (upd (h) b1 (.own 28 (sqC sq0) 101)) b2 (.own 28 (sqC r4) 101)) hr6 (RdS.le hs_s (Le.under (Le.under (Le.refl _) hb1) hb2)) hd5.none) hd5.le) ?_)
     rintro _ _ ⟨rfl, rfl⟩
     refine ⟨(fun _ => (Le.upd_left (Le.upd_left (Le.under (Le.under (Le.under (Le.refl _) hb1) hb2) h_p0) ((upd_ne _ _ n_b1_p0.ne).trans ((upd_ne _ _ n_b2_b1.ne.symm).trans (upd_same _ _ _))) (by first | rfl | (simp; done))) ((upd_ne _ _ n_b2_p0.ne).trans (upd_same _ _ _)) (by first | rfl | (simp; done)))), ?_⟩
     refine DW.pure' 8 _ rfl (by kernel_rfl) rfl (fun _ => QO.conv rfl sz2 sz5 rfl) ?_
     have hq := Option.bind_eq_some_iff.1 ho1; clear ho1; obtain ⟨r7, hr7, ho1⟩ := hq
     have hd6 : Del (upd (upd (upd (h) b1 (.own 28 (sqC sq0) 101)) b2 (.own 28 (sqC r4) 101)) p0 (.own 74 (srcC A_s l_s.length c_s r6.2) 3)) p0 (.own 74 (srcC A_s l_s.length c_s r6.2) 3) (upd (upd (h) b1 (.own 28 (sqC sq0) 101)) b2 (.own 28 (sqC r4) 101)) := (Del.here (none_upd n_b2_p0.ne.symm (none_upd n_b1_p0.ne.symm h_p0)))
     refine DW.call 11 _ _ rfl (by kernel_rfl) rfl rfl (EO.fn rfl Try.func54 rfl rfl (Evs.cons rfl (Evs.cons rfl Evs.nil))) (CC.mono (CC.atLe (c_spec_l01Next (h := upd (upd (h) b1 (.own 28 (sqC sq0) 101)) b2 (.own 28 (sqC r4) 101)) hr7 (RdS.le hs_s (Le.under (Le.under (Le.refl _) hb1) hb2)) hd6.none) hd6.le) ?_)
     rintro _ _ ⟨rfl, rfl⟩
     refine ⟨(fun _ => (Le.upd_left (Le.upd_left (Le.under (Le.under (Le.under (Le.refl _) hb1) hb2) h_p0) ((upd_ne _ _ n_b1_p0.ne).trans ((upd_ne _ _ n_b2_b1.ne.symm).trans (upd_same _ _ _))) (by first | rfl | (simp; done))) ((upd_ne _ _ n_b2_p0.ne).trans (upd_same _ _ _)) (by first | rfl | (simp; done)))), ?_⟩
     refine DW.pure' 12 _ rfl (by kernel_rfl) rfl (fun _ => QO.conv rfl sz2 sz5 rfl) ?_
     have hq := Option.bind_eq_some_iff.1 ho1; clear ho1; obtain ⟨r8, hr8, ho1⟩ := hq
     refine DW.qcall' 13 _ _ _ rfl (by kernel_rfl) rfl (EO.fn rfl Try.func73 rfl rfl (Evs.cons rfl (Evs.cons rfl (Evs.cons rfl (Evs.cons rfl Evs.nil))))) (c_spec_l01Switch hr8 ) ?_
     refine DW.loud 14 rfl (by kernel_rfl) rfl rfl (LO.storeAll (cs := sqC r8) rfl sz28 rfl rfl (sqC_one _) (sqC_length _) ((upd_ne _ _ n_b2_p0.ne).trans (upd_same _ _ _)) (sqC_length _) (Chg.there n_b2_p0.ne.symm Chg.here) rfl ?_)
     refine ⟨(fun e => absurd e (by decide)), ?_⟩
     refine DW.done (by kernel_rfl) ?_ _
     refine blockA_n ?_
     refine thenA_n ?_
     refine wpA_region ?_
     refine Ops_quiet _ rfl rfl (QO.move rfl rfl) ?_
     refine Ops_quiet _ rfl rfl (QO.bin rfl rfl rfl rfl) ?_
     refine Ops_quiet _ rfl rfl (QO.assign rfl rfl) ?_
     refine Ops_nil ?_
     obtain rfl := Option.some.inj ho1
     dsimp only at hk1
     exact thenA_n ⟨k1, Nat.lt_succ_self _, _, _, _, hk1, (Sub.cons rfl (Sub.cons rfl (Sub.cons rfl (Sub.cons rfl (Sub.cons rfl Sub.nil))))), (Le.upd_left (Le.upd_left (Le.upd_left (Le.under (Le.under (Le.under (Le.refl _) hb1) hb2) h_p0) ((upd_ne _ _ n_b1_p0.ne).trans ((upd_ne _ _ n_b2_b1.ne.symm).trans (upd_same _ _ _))) (by first | rfl | (simp; done))) ((upd_ne _ _ n_b2_p0.ne).trans (upd_same _ _ _)) (by first | rfl | (simp; done))) (upd_same _ _ _) (by first | rfl | (simp; done)))⟩
    ·replace ho1 := cond_f ho1 g2
     refine wpA_skip ?_
     refine thenA_n ?_
     refine wpA_any (upd (upd (h) b1 (.own 28 (sqC sq0) 101)) b2 (.own 28 (sqC x2) 101)) [3, 7, 11, 14] [14] (by kernel_rfl) (by kernel_rfl) (DW.start ?_)
     refine DW.readK' 0 _ rfl (by kernel_rfl) rfl (Le.upd_left (Le.upd_left (Le.under (Le.under (Le.under (Le.refl _) hb1) hb2) h_p0) ((upd_ne _ _ n_b1_p0.ne).trans ((upd_ne _ _ n_b2_b1.ne.symm).trans (upd_same _ _ _))) (by first | rfl | (simp; done))) ((upd_ne _ _ n_b2_p0.ne).trans (upd_same _ _ _)) (by first | rfl | (simp; done))) (QO.loadRow (cs := sqC x2) (hr := (rdAll (upd_same _ _ _))) rfl sz28 rfl rfl (sqC_length _)) ?_
     refine DW.pure' 1 _ rfl (by kernel_rfl) rfl (fun _ => QO.move rfl rfl) ?_
     refine DW.pure' 2 _ rfl (by kernel_rfl) rfl (fun _ => QO.move rfl rfl) ?_
     refine DW.pure' 5 _ rfl (by kernel_rfl) rfl (fun _ => QO.move rfl rfl) ?_
     refine DW.pure' 6 _ rfl (by kernel_rfl) rfl (fun _ => QO.move rfl rfl) ?_
     refine DW.pure' 9 _ rfl (by kernel_rfl) rfl (fun _ => QO.move rfl rfl) ?_
     refine DW.pure' 10 _ rfl (by kernel_rfl) rfl (fun _ => QO.move rfl rfl) ?_
     have hq := Option.bind_eq_some_iff.1 ho1; clear ho1; obtain ⟨r9, hr9, ho1⟩ := hq
     have hd7 : Del (upd (upd (upd (h) b1 (.own 28 (sqC sq0) 101)) b2 (.own 28 (sqC x2) 101)) p0 (.own 74 (srcC A_s l_s.length c_s r3.2) 3)) p0 (.own 74 (srcC A_s l_s.length c_s r3.2) 3) (upd (upd (h) b1 (.own 28 (sqC sq0) 101)) b2 (.own 28 (sqC x2) 101)) := (Del.here (none_upd n_b2_p0.ne.symm (none_upd n_b1_p0.ne.symm h_p0)))
     refine DW.call 3 _ _ rfl (by kernel_rfl) rfl rfl (EO.fn rfl Try.func54 rfl rfl (Evs.cons rfl (Evs.cons rfl Evs.nil))) (CC.mono (CC.atLe (c_spec_l01Next (h := upd (upd (h) b1 (.own 28 (sqC sq0) 101)) b2 (.own 28 (sqC x2) 101)) hr9 (RdS.le hs_s (Le.under (Le.under (Le.refl _) hb1) hb2)) hd7.none) hd7.le) ?_)
     rintro _ _ ⟨rfl, rfl⟩
     refine ⟨(fun _ => (Le.upd_left (Le.upd_left (Le.under (Le.under (Le.under (Le.refl _) hb1) hb2) h_p0) ((upd_ne _ _ n_b1_p0.ne).trans ((upd_ne _ _ n_b2_b1.ne.symm).trans (upd_same _ _ _))) (by first | rfl | (simp; done))) ((upd_ne _ _ n_b2_p0.ne).trans (upd_same _ _ _)) (by first | rfl | (simp; done)))), ?_⟩
     refine DW.pure' 4 _ rfl (by kernel_rfl) rfl (fun _ => QO.conv rfl sz2 sz5 rfl) ?_
     have hq := Option.bind_eq_some_iff.1 ho1; clear ho1; obtain ⟨r10, hr10, ho1⟩ := hq
     have hd8 : Del (upd (upd (upd (h) b1 (.own 28 (sqC sq0) 101)) b2 (.own 28 (sqC x2) 101)) p0 (.own 74 (srcC A_s l_s.length c_s r9.2) 3)) p0 (.own 74 (srcC A_s l_s.length c_s r9.2) 3) (upd (upd (h) b1 (.own 28 (sqC sq0) 101)) b2 (.own 28 (sqC x2) 101)) := (Del.here (none_upd n_b2_p0.ne.symm (none_upd n_b1_p0.ne.symm h_p0)))
     refine DW.call 7 _ _ rfl (by kernel_rfl) rfl rfl (EO.fn rfl Try.func54 rfl rfl (Evs.cons rfl (Evs.cons rfl Evs.nil))) (CC.mono (CC.atLe (c_spec_l01Next (h := upd (upd (h) b1 (.own 28 (sqC sq0) 101)) b2 (.own 28 (sqC x2) 101)) hr10 (RdS.le hs_s (Le.under (Le.under (Le.refl _) hb1) hb2)) hd8.none) hd8.le) ?_)
     rintro _ _ ⟨rfl, rfl⟩
     refine ⟨(fun _ => (Le.upd_left (Le.upd_left (Le.under (Le.under (Le.under (Le.refl _) hb1) hb2) h_p0) ((upd_ne _ _ n_b1_p0.ne).trans ((upd_ne _ _ n_b2_b1.ne.symm).trans (upd_same _ _ _))) (by first | rfl | (simp; done))) ((upd_ne _ _ n_b2_p0.ne).trans (upd_same _ _ _)) (by first | rfl | (simp; done)))), ?_⟩
     refine DW.pure' 8 _ rfl (by kernel_rfl) rfl (fun _ => QO.conv rfl sz2 sz5 rfl) ?_
     have hq := Option.bind_eq_some_iff.1 ho1; clear ho1; obtain ⟨r11, hr11, ho1⟩ := hq
     have hd9 : Del (upd (upd (upd (h) b1 (.own 28 (sqC sq0) 101)) b2 (.own 28 (sqC x2) 101)) p0 (.own 74 (srcC A_s l_s.length c_s r10.2) 3)) p0 (.own 74 (srcC A_s l_s.length c_s r10.2) 3) (upd (upd (h) b1 (.own 28 (sqC sq0) 101)) b2 (.own 28 (sqC x2) 101)) := (Del.here (none_upd n_b2_p0.ne.symm (none_upd n_b1_p0.ne.symm h_p0)))
     refine DW.call 11 _ _ rfl (by kernel_rfl) rfl rfl (EO.fn rfl Try.func54 rfl rfl (Evs.cons rfl (Evs.cons rfl Evs.nil))) (CC.mono (CC.atLe (c_spec_l01Next (h := upd (upd (h) b1 (.own 28 (sqC sq0) 101)) b2 (.own 28 (sqC x2) 101)) hr11 (RdS.le hs_s (Le.under (Le.under (Le.refl _) hb1) hb2)) hd9.none) hd9.le) ?_)
     rintro _ _ ⟨rfl, rfl⟩
     refine ⟨(fun _ => (Le.upd_left (Le.upd_left (Le.under (Le.under (Le.under (Le.refl _) hb1) hb2) h_p0) ((upd_ne _ _ n_b1_p0.ne).trans ((upd_ne _ _ n_b2_b1.ne.symm).trans (upd_same _ _ _))) (by first | rfl | (simp; done))) ((upd_ne _ _ n_b2_p0.ne).trans (upd_same _ _ _)) (by first | rfl | (simp; done)))), ?_⟩
     refine DW.pure' 12 _ rfl (by kernel_rfl) rfl (fun _ => QO.conv rfl sz2 sz5 rfl) ?_
     have hq := Option.bind_eq_some_iff.1 ho1; clear ho1; obtain ⟨r12, hr12, ho1⟩ := hq
     refine DW.qcall' 13 _ _ _ rfl (by kernel_rfl) rfl (EO.fn rfl Try.func73 rfl rfl (Evs.cons rfl (Evs.cons rfl (Evs.cons rfl (Evs.cons rfl Evs.nil))))) (c_spec_l01Switch hr12 ) ?_
     refine DW.loud 14 rfl (by kernel_rfl) rfl rfl (LO.storeAll (cs := sqC r12) rfl sz28 rfl rfl (sqC_one _) (sqC_length _) ((upd_ne _ _ n_b2_p0.ne).trans (upd_same _ _ _)) (sqC_length _) (Chg.there n_b2_p0.ne.symm Chg.here) rfl ?_)
     refine ⟨(fun e => absurd e (by decide)), ?_⟩
     refine DW.done (by kernel_rfl) ?_ _
     refine blockA_n ?_
     refine thenA_n ?_
     refine wpA_region ?_
     refine Ops_quiet _ rfl rfl (QO.move rfl rfl) ?_
     refine Ops_quiet _ rfl rfl (QO.bin rfl rfl rfl rfl) ?_
     refine Ops_quiet _ rfl rfl (QO.assign rfl rfl) ?_
     refine Ops_nil ?_
     obtain rfl := Option.some.inj ho1
     dsimp only at hk1
     exact thenA_n ⟨k1, Nat.lt_succ_self _, _, _, _, hk1, (Sub.cons rfl (Sub.cons rfl (Sub.cons rfl (Sub.cons rfl (Sub.cons rfl Sub.nil))))), (Le.upd_left (Le.upd_left (Le.upd_left (Le.under (Le.under (Le.under (Le.refl _) hb1) hb2) h_p0) ((upd_ne _ _ n_b1_p0.ne).trans ((upd_ne _ _ n_b2_b1.ne.symm).trans (upd_same _ _ _))) (by first | rfl | (simp; done))) ((upd_ne _ _ n_b2_p0.ne).trans (upd_same _ _ _)) (by first | rfl | (simp; done))) (upd_same _ _ _) (by first | rfl | (simp; done)))⟩
   ·replace ho1 := cond_f ho1 g1
    refine wpA_exit ?_
    refine thenA_e ?_
    refine thenA_e ?_
    obtain rfl := Option.some.inj ho1
    obtain rfl := Option.some.inj hk1
    exact ⟨rfl, _, _, _, rfl, (Sub.cons rfl (Sub.cons rfl (Sub.cons rfl (Sub.cons rfl (Sub.cons rfl Sub.nil))))), (Le.upd_left (Le.upd_left (Le.upd_left (Le.under (Le.under (Le.under (Le.refl _) hb1) hb2) h_p0) ((upd_ne _ _ n_b1_p0.ne).trans ((upd_ne _ _ n_b2_b1.ne.symm).trans (upd_same _ _ _))) (by first | rfl | (simp; done))) ((upd_ne _ _ n_b2_p0.ne).trans (upd_same _ _ _)) (by first | rfl | (simp; done))) (upd_same _ _ _) (by first | rfl | (simp; done)))⟩
 ·intro e s' h' hq
  cases R1 with
  | next x => exact hq.elim
  | ret r => exact hq.elim
  | stop x id =>
   obtain ⟨rfl, x4, x5, x6, rfl, hsub1, hle1⟩ := hq
   try dsimp only at hm
   by_cases hid1 : id = 0
   ·subst hid1
    rw [if_pos rfl] at hm
    refine blockA_s ?_
    refine thenA_n ?_
    refine wpA_weaken hsub1.ok hle1 ?_
    refine wpA_seq ?_
    refine wpA_seq ?_
    refine wpA_region ?_
    refine Ops_quiet _ rfl rfl (QO.move rfl rfl) ?_
    have hq := Option.bind_eq_some_iff.1 hm; clear hm; obtain ⟨r13, hr13, hm⟩ := hq
    have hd10 : Del (upd (upd (upd (h) b1 (.own 28 (sqC sq0) 101)) b2 (.own 28 (sqC x5) 101)) p0 (.own 74 (srcC A_s l_s.length c_s x6) 3)) p0 (.own 74 (srcC A_s l_s.length c_s x6) 3) (upd (upd (h) b1 (.own 28 (sqC sq0) 101)) b2 (.own 28 (sqC x5) 101)) := (Del.here (none_upd n_b2_p0.ne.symm (none_upd n_b1_p0.ne.symm h_p0)))
    refine Ops_call _ _ rfl rfl (EO.fn rfl Try.func54 rfl rfl (Evs.cons rfl (Evs.cons rfl Evs.nil))) (CC.mono (CC.atLe (c_spec_l01Next (h := upd (upd (h) b1 (.own 28 (sqC sq0) 101)) b2 (.own 28 (sqC x5) 101)) hr13 (RdS.le hs_s (Le.under (Le.under (Le.refl _) hb1) hb2)) hd10.none) hd10.le) ?_)
    rintro _ _ ⟨rfl, rfl⟩
    refine Ops_quiet _ rfl rfl (QO.bin rfl rfl rfl rfl) ?_
    refine Ops_nil ?_
    refine thenA_n ?_
    refine wpA_cond rfl (fun g3 => ?_) (fun g3 => ?_)
    ·replace hm := cond_t hm g3
     refine wpA_any (upd (upd (h) b1 (.own 28 (sqC sq0) 101)) b2 (.own 28 (sqC x5) 101)) [3, 6, 9, 11] [11] (by kernel_rfl) (by kernel_rfl) (DW.start ?_)
     refine DW.readK' 0 _ rfl (by kernel_rfl) rfl (Le.upd_left (Le.upd_left (Le.under (Le.under (Le.under (Le.refl _) hb1) hb2) h_p0) ((upd_ne _ _ n_b1_p0.ne).trans ((upd_ne _ _ n_b2_b1.ne.symm).trans (upd_same _ _ _))) (by first | rfl | (simp; done))) ((upd_ne _ _ n_b2_p0.ne).trans (upd_same _ _ _)) (by first | rfl | (simp; done))) (QO.loadRow (cs := sqC x5) (hr := (rdAll (upd_same _ _ _))) rfl sz28 rfl rfl (sqC_length _)) ?_
     refine DW.pure' 1 _ rfl (by kernel_rfl) rfl (fun _ => QO.move rfl rfl) ?_
     refine DW.pure' 2 _ rfl (by kernel_rfl) rfl (fun _ => QO.move rfl rfl) ?_
     refine DW.pure' 4 _ rfl (by kernel_rfl) rfl (fun _ => QO.move rfl rfl) ?_
     refine DW.pure' 5 _ rfl (by kernel_rfl) rfl (fun _ => QO.move rfl rfl) ?_
     refine DW.pure' 7 _ rfl (by kernel_rfl) rfl (fun _ => QO.move rfl rfl) ?_
     refine DW.pure' 8 _ rfl (by kernel_rfl) rfl (fun _ => QO.move rfl rfl) ?_
     have hq := Option.bind_eq_some_iff.1 hm; clear hm; obtain ⟨r14, hr14, hm⟩ := hq
     have hd11 : Del (upd (upd (upd (h) b1 (.own 28 (sqC sq0) 101)) b2 (.own 28 (sqC x5) 101)) p0 (.own 74 (srcC A_s l_s.length c_s r13.2) 3)) p0 (.own 74 (srcC A_s l_s.length c_s r13.2) 3) (upd (upd (h) b1 (.own 28 (sqC sq0) 101)) b2 (.own 28 (sqC x5) 101)) := (Del.here (none_upd n_b2_p0.ne.symm (none_upd n_b1_p0.ne.symm h_p0)))
     refine DW.call 3 _ _ rfl (by kernel_rfl) rfl rfl (EO.fn rfl Try.func67 rfl rfl (Evs.cons rfl (Evs.cons rfl Evs.nil))) (CC.mono (CC.atLe (c_spec_l01DrawPlaces (h := upd (upd (h) b1 (.own 28 (sqC sq0) 101)) b2 (.own 28 (sqC x5) 101)) hr14 (RdS.le hs_s (Le.under (Le.under (Le.refl _) hb1) hb2)) hd11.none) hd11.le) ?_)
     rintro _ _ ⟨rfl, rfl⟩
     refine ⟨(fun _ => (Le.upd_left (Le.upd_left (Le.under (Le.under (Le.under (Le.refl _) hb1) hb2) h_p0) ((upd_ne _ _ n_b1_p0.ne).trans ((upd_ne _ _ n_b2_b1.ne.symm).trans (upd_same _ _ _))) (by first | rfl | (simp; done))) ((upd_ne _ _ n_b2_p0.ne).trans (upd_same _ _ _)) (by first | rfl | (simp; done)))), ?_⟩
     have hq := Option.bind_eq_some_iff.1 hm; clear hm; obtain ⟨r15, hr15, hm⟩ := hq
     have hd12 : Del (upd (upd (upd (h) b1 (.own 28 (sqC sq0) 101)) b2 (.own 28 (sqC x5) 101)) p0 (.own 74 (srcC A_s l_s.length c_s r14.2) 3)) p0 (.own 74 (srcC A_s l_s.length c_s r14.2) 3) (upd (upd (h) b1 (.own 28 (sqC sq0) 101)) b2 (.own 28 (sqC x5) 101)) := (Del.here (none_upd n_b2_p0.ne.symm (none_upd n_b1_p0.ne.symm h_p0)))
     refine DW.call 6 _ _ rfl (by kernel_rfl) rfl rfl (EO.fn rfl Try.func67 rfl rfl (Evs.cons rfl (Evs.cons rfl Evs.nil))) (CC.mono (CC.atLe (c_spec_l01DrawPlaces (h := upd (upd (h) b1 (.own 28 (sqC sq0) 101)) b2 (.own 28 (sqC x5) 101)) hr15 (RdS.le hs_s (Le.under (Le.under (Le.refl _) hb1) hb2)) hd12.none) hd12.le) ?_)
     rintro _ _ ⟨rfl, rfl⟩
     refine ⟨(fun _ => (Le.upd_left (Le.upd_left (Le.under (Le.under (Le.under (Le.refl _) hb1) hb2) h_p0) ((upd_ne _ _ n_b1_p0.ne).trans ((upd_ne _ _ n_b2_b1.ne.symm).trans (upd_same _ _ _))) (by first | rfl | (simp; done))) ((upd_ne _ _ n_b2_p0.ne).trans (upd_same _ _ _)) (by first | rfl | (simp; done)))), ?_⟩
     have hq := Option.bind_eq_some_iff.1 hm; clear hm; obtain ⟨r16, hr16, hm⟩ := hq
     have hd13 : Del (upd (upd (upd (h) b1 (.own 28 (sqC sq0) 101)) b2 (.own 28 (sqC x5) 101)) p0 (.own 74 (srcC A_s l_s.length c_s r15.2) 3)) p0 (.own 74 (srcC A_s l_s.length c_s r15.2) 3) (upd (upd (h) b1 (.own 28 (sqC sq0) 101)) b2 (.own 28 (sqC x5) 101)) := (Del.here (none_upd n_b2_p0.ne.symm (none_upd n_b1_p0.ne.symm h_p0)))
     refine DW.call 9 _ _ rfl (by kernel_rfl) rfl rfl (EO.fn rfl Try.func67 rfl rfl (Evs.cons rfl (Evs.cons rfl Evs.nil))) (CC.mono (CC.atLe (c_spec_l01DrawPlaces (h := upd (upd (h) b1 (.own 28 (sqC sq0) 101)) b2 (.own 28 (sqC x5) 101)) hr16 (RdS.le hs_s (Le.under (Le.under (Le.refl _) hb1) hb2)) hd13.none) hd13.le) ?_)
     rintro _ _ ⟨rfl, rfl⟩
     refine ⟨(fun _ => (Le.upd_left (Le.upd_left (Le.under (Le.under (Le.under (Le.refl _) hb1) hb2) h_p0) ((upd_ne _ _ n_b1_p0.ne).trans ((upd_ne _ _ n_b2_b1.ne.symm).trans (upd_same _ _ _))) (by first | rfl | (simp; done))) ((upd_ne _ _ n_b2_p0.ne).trans (upd_same _ _ _)) (by first | rfl | (simp; done)))), ?_⟩
     have hq := Option.bind_eq_some_iff.1 hm; clear hm; obtain ⟨r17, hr17, hm⟩ := hq
     refine DW.qcall' 10 _ _ _ rfl (by kernel_rfl) rfl (EO.fn rfl Try.func66 rfl rfl (Evs.cons rfl (Evs.cons rfl (Evs.cons rfl (Evs.cons rfl Evs.nil))))) (c_spec_l01Moved hr17 ) ?_
     refine DW.loud 11 rfl (by kernel_rfl) rfl rfl (LO.storeAll (cs := sqC r17) rfl sz28 rfl rfl (sqC_one _) (sqC_length _) ((upd_ne _ _ n_b2_p0.ne).trans (upd_same _ _ _)) (sqC_length _) (Chg.there n_b2_p0.ne.symm Chg.here) rfl ?_)
     refine ⟨(fun e => absurd e (by decide)), ?_⟩
     refine DW.done (by kernel_rfl) ?_ _
     refine thenA_n ?_
     refine wpA_seq ?_
     refine wpA_region ?_
     refine Ops_quiet _ rfl rfl (QO.loadRow (cs := sqC r17) (hr := (rdAll ((upd_ne _ _ n_b2_p0.ne).trans (upd_same _ _ _)))) rfl sz28 rfl rfl (sqC_length _)) ?_
     have hq := Option.bind_eq_some_iff.1 hm; clear hm; obtain ⟨r18, hr18, hm⟩ := hq
     refine Ops_call _ _ rfl rfl (EO.fn rfl Try.func74 rfl rfl (Evs.cons rfl Evs.nil)) (QC.cc (c_spec_l01Ordered hr18 ) ?_)
     refine Ops_loud rfl (LO.storeAll (cs := sqC r18) rfl sz28 rfl rfl (sqC_one _) (sqC_length _) ((upd_ne _ _ n_b1_p0.ne).trans ((upd_ne _ _ n_b2_b1.ne.symm).trans (upd_same _ _ _))) (sqC_length _) (Chg.there n_b1_p0.ne.symm (Chg.there n_b2_b1.ne Chg.here)) rfl ?_)
     refine Ops_nil ?_
     refine thenA_n ?_
     refine wpA_ret ?_
     obtain rfl := Option.some.inj hm
     exact retA_r (h2 := upd (h) p0 (.own 74 (srcC A_s l_s.length c_s r16.2) 3)) (Res.one rfl (res1.row (cs := sqC r18) (hr := (rdAll ((upd_ne _ _ n_b1_p0.ne).trans ((upd_ne _ _ n_b2_b1.ne.symm).trans (upd_same _ _ _))))) sz28 rfl rfl (sqC_length _))) (Le.upd_left (Le.under (Le.under (Le.under (Le.refl _) hb1) hb2) h_p0) (upd_same _ _ _) (by first | rfl | (simp; done))) ⟨rfl, rfl⟩
    ·replace hm := cond_f hm g3
     refine wpA_skip ?_
     refine thenA_n ?_
     refine wpA_seq ?_
     refine wpA_region ?_
     refine Ops_quiet _ rfl rfl (QO.loadRow (cs := sqC x5) (hr := (rdAll ((upd_ne _ _ n_b2_p0.ne).trans (upd_same _ _ _)))) rfl sz28 rfl rfl (sqC_length _)) ?_
     have hq := Option.bind_eq_some_iff.1 hm; clear hm; obtain ⟨r19, hr19, hm⟩ := hq
     refine Ops_call _ _ rfl rfl (EO.fn rfl Try.func74 rfl rfl (Evs.cons rfl Evs.nil)) (QC.cc (c_spec_l01Ordered hr19 ) ?_)
     refine Ops_loud rfl (LO.storeAll (cs := sqC r19) rfl sz28 rfl rfl (sqC_one _) (sqC_length _) ((upd_ne _ _ n_b1_p0.ne).trans ((upd_ne _ _ n_b2_b1.ne.symm).trans (upd_same _ _ _))) (sqC_length _) (Chg.there n_b1_p0.ne.symm (Chg.there n_b2_b1.ne Chg.here)) rfl ?_)
     refine Ops_nil ?_
     refine thenA_n ?_
     refine wpA_ret ?_
     obtain rfl := Option.some.inj hm
     exact retA_r (h2 := upd (h) p0 (.own 74 (srcC A_s l_s.length c_s r13.2) 3)) (Res.one rfl (res1.row (cs := sqC r19) (hr := (rdAll ((upd_ne _ _ n_b1_p0.ne).trans ((upd_ne _ _ n_b2_b1.ne.symm).trans (upd_same _ _ _))))) sz28 rfl rfl (sqC_length _))) (Le.upd_left (Le.under (Le.under (Le.under (Le.refl _) hb1) hb2) h_p0) (upd_same _ _ _) (by first | rfl | (simp; done))) ⟨rfl, rfl⟩
   rw [if_neg hid1] at hm
   exact absurd hm (by simp)

/-! loop.example/g01195/spec.l01Broken -/
theorem c_spec_l01Broken {a0 : Rng} {p0 : Nat} {l_s : List Int} {A_s : Option Addr} {c_s : Nat} {a1 : Sq} {h : Hp} {r : Sq × Rng} (hm : m_spec_l01Broken a0 l_s a1 = some r) (hs_s : RdS h A_s (ints .u8 l_s)) (h_p0 : h p0 = none) :
    CC Try.prog 69 #[.pointer (some ⟨p0, 0, none⟩), .agg (sqC a1).toArray] (upd (h) p0 (.own 74 (srcC A_s l_s.length c_s a0) 3)) (fun v h' => v = .agg (sqC r.1).toArray ∧ h' = upd (h) p0 (.own 74 (srcC A_s l_s.length c_s r.2) 3)) := by
 unfold m_spec_l01Broken at hm
 refine CC.enter Try.func69 rfl Try.ntmps69 rfl ?_
 refine wpA_seq ?_
 refine wpA_region ?_
 refine Ops_loud rfl (LO.boxAgg rfl rfl rfl (fun b1 hb1 => ?_))
 simp only [upd_noneA] at hb1
 obtain ⟨n_b1_p0, hb1⟩ := hb1
 refine Ops_loud rfl (LO.alloc rfl zr28 rfl (fun b2 hb2 => ?_))
 simp only [upd_noneA] at hb2
 obtain ⟨n_b2_b1, n_b2_p0, hb2⟩ := hb2
 refine Ops_nil ?_
 refine thenA_n ?_
 refine wpA_seq ?_
 refine wpA_seq ?_
 refine wpA_region ?_
 refine Ops_quiet _ rfl rfl (QO.move rfl rfl) ?_
 have hq := Option.bind_eq_some_iff.1 hm; clear hm; obtain ⟨r1, hr1, hm⟩ := hq
 have hd1 : Del (upd (upd (upd (h) p0 (.own 74 (srcC A_s l_s.length c_s a0) 3)) b1 (.own 28 (sqC a1) 101)) b2 (.own 28 (sqC sq0) 101)) p0 (.own 74 (srcC A_s l_s.length c_s a0) 3) (upd (upd (h) b1 (.own 28 (sqC a1) 101)) b2 (.own 28 (sqC sq0) 101)) := (Del.there n_b2_p0.ne.symm (Del.there n_b1_p0.ne.symm (Del.here h_p0)))
 refine Ops_call _ _ rfl rfl (EO.fn rfl Try.func54 rfl rfl (Evs.cons rfl (Evs.cons rfl Evs.nil))) (CC.mono (CC.atLe (c_spec_l01Next (h := upd (upd (h) b1 (.own 28 (sqC a1) 101)) b2 (.own 28 (sqC sq0) 101)) hr1 (RdS.le hs_s (Le.under (Le.under (Le.refl _) hb1) hb2)) hd1.none) hd1.le) ?_)
 rintro _ _ ⟨rfl, rfl⟩
 refine Ops_nil ?_
 refine thenA_n ?_
 refine wpA_block ?_
 refine wpA_seq ?_
 refine wpA_region ?_
 refine Ops_quiet _ rfl rfl (QO.bin rfl rfl rfl rfl) ?_
 refine Ops_quiet _ rfl rfl (QO.assign rfl rfl) ?_
 refine Ops_nil ?_
 refine thenA_n ?_
 refine wpA_cond rfl (fun g1 => ?_) (fun g1 => ?_)
 ·replace hm := cond_t hm g1
  refine wpA_region ?_
  refine Ops_quiet _ rfl rfl (QO.fieldAt (fo := 1) rfl sz28 rfl rfl sz26 rfl rfl) ?_
  refine Ops_quiet _ rfl rfl (QO.idxArr rfl sz26 sz24 rfl rfl (by decide) (by decide)) ?_
  refine Ops_quiet _ rfl rfl (QO.idxArr rfl sz24 sz5 rfl rfl (by decide) (by decide)) ?_
  refine Ops_quiet _ rfl rfl (QO.load rfl sz5 rfl rfl (by (refine (rd_own ((upd_ne _ _ n_b1_p0.ne).trans ((upd_ne _ _ n_b2_b1.ne.symm).trans (upd_same _ _ _))) _).trans ?_); exact sqC_get (by omega) (by omega))) ?_
  refine Ops_quiet _ rfl rfl (QO.bin rfl rfl rfl rfl) ?_
  refine Ops_quiet _ rfl rfl (QO.fieldAt (fo := 1) rfl sz28 rfl rfl sz26 rfl rfl) ?_
  refine Ops_quiet _ rfl rfl (QO.idxArr rfl sz26 sz24 rfl rfl (by decide) (by decide)) ?_
  refine Ops_quiet _ rfl rfl (QO.idxArr rfl sz24 sz5 rfl rfl (by decide) (by decide)) ?_
  refine Ops_loud rfl (LO.store' (xs' := sqC (⟨a1.order, (tset a1.t 0 0 (IntKind.u8.wrap ((a1.t 0 0) + 1)))⟩ : Sq)) rfl sz5 rfl rfl rfl ((upd_ne _ _ n_b1_p0.ne).trans ((upd_ne _ _ n_b2_b1.ne.symm).trans (upd_same _ _ _))) (by first | ((try simp only [rowsC_length, rowsA_length, mpC_length, sqC_length, tbC_length, tabI_length, tabB_length, ints_length, plsC_length, trC_length, sqsC_length, strsC_length, boolsC_length, tbB_length, List.length_append, List.length_cons, List.length_nil, List.length_set, List.length_replicate, rep_length]); first | omega | decide) | exact Nat.le_of_ble_eq_true rfl) (sqC_set (by omega) (by omega)) (Chg.there n_b1_p0.ne.symm (Chg.there n_b2_b1.ne Chg.here)) rfl ?_)
  refine Ops_nil ?_
  refine blockA_n ?_
  refine thenA_n ?_
  refine wpA_seq ?_
  refine wpA_region ?_
  refine Ops_quiet _ rfl rfl (QO.loadRow (cs := sqC (⟨a1.order, (tset a1.t 0 0 (IntKind.u8.wrap ((a1.t 0 0) + 1)))⟩ : Sq)) (hr := (rdAll ((upd_ne _ _ n_b1_p0.ne).trans ((upd_ne _ _ n_b2_b1.ne.symm).trans (upd_same _ _ _))))) rfl sz28 rfl rfl (sqC_length _)) ?_
  refine Ops_loud rfl (LO.storeAll (cs := sqC (⟨a1.order, (tset a1.t 0 0 (IntKind.u8.wrap ((a1.t 0 0) + 1)))⟩ : Sq)) rfl sz28 rfl rfl (sqC_one _) (sqC_length _) ((upd_ne _ _ n_b2_p0.ne).trans (upd_same _ _ _)) (sqC_length _) (Chg.there n_b2_p0.ne.symm Chg.here) rfl ?_)
  refine Ops_nil ?_
  refine thenA_n ?_
  refine wpA_ret ?_
  obtain rfl := Option.some.inj hm
  exact retA_r (h2 := upd (h) p0 (.own 74 (srcC A_s l_s.length c_s r1.2) 3)) (Res.one rfl (res1.row (cs := sqC (⟨a1.order, (tset a1.t 0 0 (IntKind.u8.wrap ((a1.t 0 0) + 1)))⟩ : Sq)) (hr := (rdAll ((upd_ne _ _ n_b2_p0.ne).trans (upd_same _ _ _)))) sz28 rfl rfl (sqC_length _))) (Le.upd_left (Le.under (Le.under (Le.under (Le.refl _) hb1) hb2) h_p0) (upd_same _ _ _) (by first | rfl | (simp; done))) ⟨rfl, rfl⟩
 ·replace hm := cond_f hm g1
  refine wpA_seq ?_
  refine wpA_region ?_
  refine Ops_quiet _ rfl rfl (QO.bin rfl rfl rfl rfl) ?_
  refine Ops_quiet _ rfl rfl (QO.assign rfl rfl) ?_
  refine Ops_nil ?_
  refine thenA_n ?_
  refine wpA_cond rfl (fun g2 => ?_) (fun g2 => ?_)
  ·replace hm := cond_t hm g2
   refine wpA_region ?_
   refine Ops_quiet _ rfl rfl (QO.move rfl rfl) ?_
   refine Ops_quiet _ rfl rfl (QO.fieldAt (fo := 0) rfl sz28 rfl rfl sz2 rfl rfl) ?_
   refine Ops_quiet _ rfl rfl (QO.load rfl sz2 rfl rfl (by (refine (rd_own ((upd_ne _ _ n_b1_p0.ne).trans ((upd_ne _ _ n_b2_b1.ne.symm).trans (upd_same _ _ _))) _).trans ?_); exact rfl)) ?_
   refine Ops_quiet _ rfl rfl (QO.bin rfl rfl rfl rfl) ?_
   refine Ops_quiet _ rfl rfl (QO.fieldAt (fo := 0) rfl sz28 rfl rfl sz2 rfl rfl) ?_
   refine Ops_quiet _ rfl rfl (QO.load rfl sz2 rfl rfl (by (refine (rd_own ((upd_ne _ _ n_b1_p0.ne).trans ((upd_ne _ _ n_b2_b1.ne.symm).trans (upd_same _ _ _))) _).trans ?_); exact rfl)) ?_
   refine Ops_quiet _ rfl rfl (QO.bin rfl rfl rfl rfl) ?_
   refine Ops_loud rfl (LO.slice' [(0, .int .i64 0), (1, .int .i64 11), (2, .int .i64 (-1)), (3, .int .i64 (IntKind.i64.wrap (a1.order + 1))), (4, .int .i64 (IntKind.i64.wrap (a1.order - 1)))] (r := ints .i64 [0, 11, (-1), (IntKind.i64.wrap (a1.order + 1)), (IntKind.i64.wrap (a1.order - 1))]) rfl sz57 sz2 zr2 (by first | rfl | (simp [rowsC_length, rowsA_length, mpC_length, sqC_length, tbC_length, tabI_length, tabB_length, ints_length, plsC_length, trC_length, sqsC_length, strsC_length, boolsC_length, tbB_length, List.length_append, List.length_cons, List.length_nil, List.length_set, List.length_replicate, rep_length]; done)) (by decide) (by decide) (by decide) rfl rfl (by first | rfl | (simp [rowsC_length, rowsA_length, mpC_length, sqC_length, tbC_length, tabI_length, tabB_length, ints_length, plsC_length, trC_length, sqsC_length, strsC_length, boolsC_length, tbB_length, List.length_append, List.length_cons, List.length_nil, List.length_set, List.length_replicate, rep_length]; done)) rfl (fun b3 hb3 => ?_))
   simp only [upd_noneA] at hb3
   obtain ⟨n_b3_p0, n_b3_b2, n_b3_b1, hb3⟩ := hb3
   have hq := Option.bind_eq_some_iff.1 hm; clear hm; obtain ⟨r2, hr2, hm⟩ := hq
   have hd2 : Del (upd (upd (upd (upd (h) b1 (.own 28 (sqC a1) 101)) b2 (.own 28 (sqC sq0) 101)) p0 (.own 74 (srcC A_s l_s.length c_s r1.2) 3)) b3 (.own 2 (ints .i64 [0, 11, (-1), (IntKind.i64.wrap (a1.order + 1)), (IntKind.i64.wrap (a1.order - 1))]) (5 * 1))) p0 (.own 74 (srcC A_s l_s.length c_s r1.2) 3) (upd (upd (upd (h) b1 (.own 28 (sqC a1) 101)) b2 (.own 28 (sqC sq0) 101)) b3 (.own 2 (ints .i64 [0, 11, (-1), (IntKind.i64.wrap (a1.order + 1)), (IntKind.i64.wrap (a1.order - 1))]) (5 * 1))) := (Del.there n_b3_p0.ne.symm (Del.here (none_upd n_b2_p0.ne.symm (none_upd n_b1_p0.ne.symm h_p0))))
   refine Ops_call _ _ rfl rfl (EO.fn rfl Try.func55 rfl rfl (Evs.cons rfl (Evs.cons rfl Evs.nil))) (CC.mono (CC.atLe (c_spec_l01Pick (l1 := [0, 11, (-1), (IntKind.i64.wrap (a1.order + 1)), (IntKind.i64.wrap (a1.order - 1))]) (A1 := some ⟨b3, 0, none⟩) (c1 := 5) (h := upd (upd (upd (h) b1 (.own 28 (sqC a1) 101)) b2 (.own 28 (sqC sq0) 101)) b3 (.own 2 (ints .i64 [0, 11, (-1), (IntKind.i64.wrap (a1.order + 1)), (IntKind.i64.wrap (a1.order - 1))]) (5 * 1))) hr2 (RdS.le hs_s (Le.under (Le.under (Le.under (Le.refl _) hb1) hb2) hb3)) (RdS.own (upd_same _ _ _)) hd2.none) hd2.le) ?_)
   rintro _ _ ⟨rfl, rfl⟩
   refine Ops_quiet _ rfl rfl (QO.fieldAt (fo := 0) rfl sz28 rfl rfl sz2 rfl rfl) ?_
   refine Ops_loud rfl (LO.store' (xs' := sqC (⟨r2.1, a1.t⟩ : Sq)) rfl sz2 rfl rfl rfl ((upd_ne _ _ n_b1_p0.ne).trans ((upd_ne _ _ n_b3_b1.ne.symm).trans ((upd_ne _ _ n_b2_b1.ne.symm).trans (upd_same _ _ _)))) (by first | ((try simp only [rowsC_length, rowsA_length, mpC_length, sqC_length, tbC_length, tabI_length, tabB_length, ints_length, plsC_length, trC_length, sqsC_length, strsC_length, boolsC_length, tbB_length, List.length_append, List.length_cons, List.length_nil, List.length_set, List.length_replicate, rep_length]); first | omega | decide) | exact Nat.le_of_ble_eq_true rfl) sqC_setOrd (Chg.there n_b1_p0.ne.symm (Chg.there n_b3_b1.ne (Chg.there n_b2_b1.ne Chg.here))) rfl ?_)
   refine Ops_nil ?_
   refine blockA_n ?_
   refine thenA_n ?_
   refine wpA_seq ?_
   refine wpA_region ?_
   refine Ops_quiet _ rfl rfl (QO.loadRow (cs := sqC (⟨r2.1, a1.t⟩ : Sq)) (hr := (rdAll ((upd_ne _ _ n_b1_p0.ne).trans ((upd_ne _ _ n_b3_b1.ne.symm).trans ((upd_ne _ _ n_b2_b1.ne.symm).trans (upd_same _ _ _)))))) rfl sz28 rfl rfl (sqC_length _)) ?_
   refine Ops_loud rfl (LO.storeAll (cs := sqC (⟨r2.1, a1.t⟩ : Sq)) rfl sz28 rfl rfl (sqC_one _) (sqC_length _) ((upd_ne _ _ n_b2_p0.ne).trans ((upd_ne _ _ n_b3_b2.ne.symm).trans (upd_same _ _ _))) (sqC_length _) (Chg.there n_b2_p0.ne.symm (Chg.there n_b3_b2.ne Chg.here)) rfl ?_)
   refine Ops_nil ?_
   refine thenA_n ?_
   refine wpA_ret ?_
   obtain rfl := Option.some.inj hm
   exact retA_r (h2 := upd (h) p0 (.own 74 (srcC A_s l_s.length c_s r2.2) 3)) (Res.one rfl (res1.row (cs := sqC (⟨r2.1, a1.t⟩ : Sq)) (hr := (rdAll ((upd_ne _ _ n_b2_p0.ne).trans ((upd_ne _ _ n_b3_b2.ne.symm).trans (upd_same _ _ _))))) sz28 rfl rfl (sqC_length _))) (Le.upd_left (Le.under (Le.under (Le.under (Le.under (Le.refl _) hb1) hb2) hb3) h_p0) (upd_same _ _ _) (by first | rfl | (simp; done))) ⟨rfl, rfl⟩
  ·replace hm := cond_f hm g2
   refine wpA_seq ?_
   refine wpA_region ?_
   refine Ops_quiet _ rfl rfl (QO.bin rfl rfl rfl rfl) ?_
   refine Ops_quiet _ rfl rfl (QO.assign rfl rfl) ?_
   refine Ops_nil ?_
   refine thenA_n ?_
   refine wpA_cond rfl (fun g3 => ?_) (fun g3 => ?_)
   ·replace hm := cond_t hm g3
    refine wpA_region ?_
    refine Ops_quiet _ rfl rfl (QO.move rfl rfl) ?_
    refine Ops_loud rfl (LO.slice' [(0, .int .i64 1), (1, .int .i64 255)] (r := ints .i64 [1, 255]) rfl sz57 sz2 zr2 (by first | rfl | (simp [rowsC_length, rowsA_length, mpC_length, sqC_length, tbC_length, tabI_length, tabB_length, ints_length, plsC_length, trC_length, sqsC_length, strsC_length, boolsC_length, tbB_length, List.length_append, List.length_cons, List.length_nil, List.length_set, List.length_replicate, rep_length]; done)) (by decide) (by decide) (by decide) rfl rfl (by first | rfl | (simp [rowsC_length, rowsA_length, mpC_length, sqC_length, tbC_length, tabI_length, tabB_length, ints_length, plsC_length, trC_length, sqsC_length, strsC_length, boolsC_length, tbB_length, List.length_append, List.length_cons, List.length_nil, List.length_set, List.length_replicate, rep_length]; done)) rfl (fun b4 hb4 => ?_))
    simp only [upd_noneA] at hb4
    obtain ⟨n_b4_p0, n_b4_b2, n_b4_b1, hb4⟩ := hb4
    have hq := Option.bind_eq_some_iff.1 hm; clear hm; obtain ⟨r3, hr3, hm⟩ := hq
    have hd3 : Del (upd (upd (upd (upd (h) b1 (.own 28 (sqC a1) 101)) b2 (.own 28 (sqC sq0) 101)) p0 (.own 74 (srcC A_s l_s.length c_s r1.2) 3)) b4 (.own 2 (ints .i64 [1, 255]) (2 * 1))) p0 (.own 74 (srcC A_s l_s.length c_s r1.2) 3) (upd (upd (upd (h) b1 (.own 28 (sqC a1) 101)) b2 (.own 28 (sqC sq0) 101)) b4 (.own 2 (ints .i64 [1, 255]) (2 * 1))) := (Del.there n_b4_p0.ne.symm (Del.here (none_upd n_b2_p0.ne.symm (none_upd n_b1_p0.ne.symm h_p0))))
    refine Ops_call _ _ rfl rfl (EO.fn rfl Try.func55 rfl rfl (Evs.cons rfl (Evs.cons rfl Evs.nil))) (CC.mono (CC.atLe (c_spec_l01Pick (l1 := [1, 255]) (A1 := some ⟨b4, 0, none⟩) (c1 := 2) (h := upd (upd (upd (h) b1 (.own 28 (sqC a1) 101)) b2 (.own 28 (sqC sq0) 101)) b4 (.own 2 (ints .i64 [1, 255]) (2 * 1))) hr3 (RdS.le hs_s (Le.under (Le.under (Le.under (Le.refl _) hb1) hb2) hb4)) (RdS.own (upd_same _ _ _)) hd3.none) hd3.le) ?_)
    rintro _ _ ⟨rfl, rfl⟩
    refine Ops_quiet _ rfl rfl (QO.conv rfl sz2 sz5 rfl) ?_
    refine Ops_quiet _ rfl rfl (QO.fieldAt (fo := 1) rfl sz28 rfl rfl sz26 rfl rfl) ?_
    refine Ops_quiet _ rfl rfl (QO.idxArr rfl sz26 sz24 rfl rfl (by decide) (by decide)) ?_
    refine Ops_quiet _ rfl rfl (QO.idxArr rfl sz24 sz5 rfl rfl (by decide) (by decide)) ?_
    refine Ops_loud rfl (LO.store' (xs' := sqC (⟨a1.order, (tset a1.t 9 9 (IntKind.u8.wrap r3.1))⟩ : Sq)) rfl sz5 rfl rfl rfl ((upd_ne _ _ n_b1_p0.ne).trans ((upd_ne _ _ n_b4_b1.ne.symm).trans ((upd_ne _ _ n_b2_b1.ne.symm).trans (upd_same _ _ _)))) (by first | ((try simp only [rowsC_length, rowsA_length, mpC_length, sqC_length, tbC_length, tabI_length, tabB_length, ints_length, plsC_length, trC_length, sqsC_length, strsC_length, boolsC_length, tbB_length, List.length_append, List.length_cons, List.length_nil, List.length_set, List.length_replicate, rep_length]); first | omega | decide) | exact Nat.le_of_ble_eq_true rfl) (sqC_set (by omega) (by omega)) (Chg.there n_b1_p0.ne.symm (Chg.there n_b4_b1.ne (Chg.there n_b2_b1.ne Chg.here))) rfl ?_)
    refine Ops_nil ?_
    refine blockA_n ?_
    refine thenA_n ?_
    refine wpA_seq ?_
    refine wpA_region ?_
    refine Ops_quiet _ rfl rfl (QO.loadRow (cs := sqC (⟨a1.order, (tset a1.t 9 9 (IntKind.u8.wrap r3.1))⟩ : Sq)) (hr := (rdAll ((upd_ne _ _ n_b1_p0.ne).trans ((upd_ne _ _ n_b4_b1.ne.symm).trans ((upd_ne _ _ n_b2_b1.ne.symm).trans (upd_same _ _ _)))))) rfl sz28 rfl rfl (sqC_length _)) ?_
    refine Ops_loud rfl (LO.storeAll (cs := sqC (⟨a1.order, (tset a1.t 9 9 (IntKind.u8.wrap r3.1))⟩ : Sq)) rfl sz28 rfl rfl (sqC_one _) (sqC_length _) ((upd_ne _ _ n_b2_p0.ne).trans ((upd_ne _ _ n_b4_b2.ne.symm).trans (upd_same _ _ _))) (sqC_length _) (Chg.there n_b2_p0.ne.symm (Chg.there n_b4_b2.ne Chg.here)) rfl ?_)
    refine Ops_nil ?_
    refine thenA_n ?_
    refine wpA_ret ?_
    obtain rfl := Option.some.inj hm
    exact retA_r (h2 := upd (h) p0 (.own 74 (srcC A_s l_s.length c_s r3.2) 3)) (Res.one rfl (res1.row (cs := sqC (⟨a1.order, (tset a1.t 9 9 (IntKind.u8.wrap r3.1))⟩ : Sq)) (hr := (rdAll ((upd_ne _ _ n_b2_p0.ne).trans ((upd_ne _ _ n_b4_b2.ne.symm).trans (upd_same _ _ _))))) sz28 rfl rfl (sqC_length _))) (Le.upd_left (Le.under (Le.under (Le.under (Le.under (Le.refl _) hb1) hb2) hb4) h_p0) (upd_same _ _ _) (by first | rfl | (simp; done))) ⟨rfl, rfl⟩
   ·replace hm := cond_f hm g3
    refine wpA_skip ?_
    refine blockA_n ?_
    refine thenA_n ?_
    refine wpA_seq ?_
    refine wpA_region ?_
    refine Ops_quiet _ rfl rfl (QO.loadRow (cs := sqC a1) (hr := (rdAll ((upd_ne _ _ n_b1_p0.ne).trans ((upd_ne _ _ n_b2_b1.ne.symm).trans (upd_same _ _ _))))) rfl sz28 rfl rfl (sqC_length _)) ?_
    refine Ops_loud rfl (LO.storeAll (cs := sqC a1) rfl sz28 rfl rfl (sqC_one _) (sqC_length _) ((upd_ne _ _ n_b2_p0.ne).trans (upd_same _ _ _)) (sqC_length _) (Chg.there n_b2_p0.ne.symm Chg.here) rfl ?_)
    refine Ops_nil ?_
    refine thenA_n ?_
    refine wpA_ret ?_
    obtain rfl := Option.some.inj hm
    exact retA_r (h2 := upd (h) p0 (.own 74 (srcC A_s l_s.length c_s r1.2) 3)) (Res.one rfl (res1.row (cs := sqC a1) (hr := (rdAll ((upd_ne _ _ n_b2_p0.ne).trans (upd_same _ _ _)))) sz28 rfl rfl (sqC_length _))) (Le.upd_left (Le.under (Le.under (Le.under (Le.refl _) hb1) hb2) h_p0) (upd_same _ _ _) (by first | rfl | (simp; done))) ⟨rfl, rfl⟩

/-! loop.example/g01195/spec.l01DrawSquare -/
theorem c_spec_l01DrawSquare {a0 : Rng} {p0 : Nat} {l_s : List Int} {A_s : Option Addr} {c_s : Nat} {h : Hp} {r : Sq × Rng} (hm : m_spec_l01DrawSquare a0 l_s = some r) (hs_s : RdS h A_s (ints .u8 l_s)) (h_p0 : h p0 = none) :
    CC Try.prog 52 #[.pointer (some ⟨p0, 0, none⟩)] (upd (h) p0 (.own 74 (srcC A_s l_s.length c_s a0) 3)) (fun v h' => v = .agg (sqC r.1).toArray ∧ h' = upd (h) p0 (.own 74 (srcC A_s l_s.length c_s r.2) 3)) := by
 unfold m_spec_l01DrawSquare at hm
 refine CC.enter Try.func52 rfl Try.ntmps52 rfl ?_
 refine wpA_seq ?_
 refine wpA_region ?_
 refine Ops_loud rfl (LO.alloc rfl zr28 rfl (fun b1 hb1 => ?_))
 simp only [upd_noneA] at hb1
 obtain ⟨n_b1_p0, hb1⟩ := hb1
 refine Ops_nil ?_
 refine thenA_n ?_
 refine wpA_seq ?_
 refine wpA_region ?_
 refine Ops_quiet _ rfl rfl (QO.move rfl rfl) ?_
 have hq := Option.bind_eq_some_iff.1 hm; clear hm; obtain ⟨r1, hr1, hm⟩ := hq
 have hd1 : Del (upd (upd (h) p0 (.own 74 (srcC A_s l_s.length c_s a0) 3)) b1 (.own 28 (sqC sq0) 101)) p0 (.own 74 (srcC A_s l_s.length c_s a0) 3) (upd (h) b1 (.own 28 (sqC sq0) 101)) := (Del.there n_b1_p0.ne.symm (Del.here h_p0))
 refine Ops_call _ _ rfl rfl (EO.fn rfl Try.func65 rfl rfl (Evs.cons rfl Evs.nil)) (CC.mono (CC.atLe (c_spec_l01Draw (h := upd (h) b1 (.own 28 (sqC sq0) 101)) hr1 (RdS.le hs_s (Le.under (Le.refl _) hb1)) hd1.none) hd1.le) ?_)
 rintro _ _ ⟨rfl, rfl⟩
 refine Ops_loud rfl (LO.alloc rfl zr28 rfl (fun b2 hb2 => ?_))
 simp only [upd_noneA] at hb2
 obtain ⟨n_b2_p0, n_b2_b1, hb2⟩ := hb2
 refine Ops_loud rfl (LO.storeAll (cs := sqC r1.1) rfl sz28 rfl rfl (sqC_one _) (sqC_length _) (upd_same _ _ _) (sqC_length _) Chg.here rfl ?_)
 refine Ops_nil ?_
 refine thenA_n ?_
 refine wpA_seq ?_
 refine wpA_region ?_
 refine Ops_quiet _ rfl rfl (QO.fieldAt (fo := 0) rfl sz28 rfl rfl sz2 rfl rfl) ?_
 refine Ops_quiet _ rfl rfl (QO.load rfl sz2 rfl rfl (by (refine (rd_own (upd_same _ _ _) _).trans ?_); exact rfl)) ?_
 refine Ops_quiet _ rfl rfl (QO.assign rfl rfl) ?_
 refine Ops_nil ?_
 refine thenA_n ?_
 refine wpA_seq ?_
 refine wpA_seq ?_
 refine wpA_region ?_
 refine Ops_quiet _ rfl rfl (QO.move rfl rfl) ?_
 have hq := Option.bind_eq_some_iff.1 hm; clear hm; obtain ⟨r2, hr2, hm⟩ := hq
 have hd2 : Del (upd (upd (upd (h) b1 (.own 28 (sqC sq0) 101)) p0 (.own 74 (srcC A_s l_s.length c_s r1.2) 3)) b2 (.own 28 (sqC r1.1) 101)) p0 (.own 74 (srcC A_s l_s.length c_s r1.2) 3) (upd (upd (h) b1 (.own 28 (sqC sq0) 101)) b2 (.own 28 (sqC r1.1) 101)) := (Del.there n_b2_p0.ne.symm (Del.here (none_upd n_b1_p0.ne.symm h_p0)))
 refine Ops_call _ _ rfl rfl (EO.fn rfl Try.func54 rfl rfl (Evs.cons rfl (Evs.cons rfl Evs.nil))) (CC.mono (CC.atLe (c_spec_l01Next (h := upd (upd (h) b1 (.own 28 (sqC sq0) 101)) b2 (.own 28 (sqC r1.1) 101)) hr2 (RdS.le hs_s (Le.under (Le.under (Le.refl _) hb1) hb2)) hd2.none) hd2.le) ?_)
 rintro _ _ ⟨rfl, rfl⟩
 refine Ops_quiet _ rfl rfl (QO.bin rfl rfl rfl rfl) ?_
 refine Ops_nil ?_
 refine thenA_n ?_
 refine wpA_cond rfl (fun g1 => ?_) (fun g1 => ?_)
 ·replace hm := cond_t hm g1
  refine wpA_seq ?_
  refine wpA_region ?_
  refine Ops_quiet _ rfl rfl (QO.loadRow (cs := sqC r1.1) (hr := (rdAll ((upd_ne _ _ n_b2_p0.ne).trans (upd_same _ _ _)))) rfl sz28 rfl rfl (sqC_length _)) ?_
  refine Ops_loud rfl (LO.storeAll (cs := sqC r1.1) rfl sz28 rfl rfl (sqC_one _) (sqC_length _) ((upd_ne _ _ n_b1_p0.ne).trans ((upd_ne _ _ n_b2_b1.ne.symm).trans (upd_same _ _ _))) (sqC_length _) (Chg.there n_b1_p0.ne.symm (Chg.there n_b2_b1.ne Chg.here)) rfl ?_)
  refine Ops_nil ?_
  refine thenA_n ?_
  refine wpA_ret ?_
  refine thenA_r ?_
  obtain rfl := Option.some.inj hm
  exact retA_r (h2 := upd (h) p0 (.own 74 (srcC A_s l_s.length c_s r2.2) 3)) (Res.one rfl (res1.row (cs := sqC r1.1) (hr := (rdAll ((upd_ne _ _ n_b1_p0.ne).trans ((upd_ne _ _ n_b2_b1.ne.symm).trans (upd_same _ _ _))))) sz28 rfl rfl (sqC_length _))) (Le.upd_left (Le.under (Le.under (Le.under (Le.refl _) hb1) hb2) h_p0) (upd_same _ _ _) (by first | rfl | (simp; done))) ⟨rfl, rfl⟩
 ·replace hm := cond_f hm g1
  refine wpA_skip ?_
  refine thenA_n ?_
  refine wpA_seq ?_
  refine wpA_any (upd (upd (h) b1 (.own 28 (sqC sq0) 101)) b2 (.own 28 (sqC r1.1) 101)) [3, 6, 9, 11] [11] (by kernel_rfl) (by kernel_rfl) (DW.start ?_)
  refine DW.readK' 0 _ rfl (by kernel_rfl) rfl (Le.upd_left (Le.upd_left (Le.under (Le.under (Le.under (Le.refl _) hb1) hb2) h_p0) ((upd_ne _ _ n_b1_p0.ne).trans ((upd_ne _ _ n_b2_b1.ne.symm).trans (upd_same _ _ _))) (by first | rfl | (simp; done))) ((upd_ne _ _ n_b2_p0.ne).trans (upd_same _ _ _)) (by first | rfl | (simp; done))) (QO.loadRow (cs := sqC r1.1) (hr := (rdAll (upd_same _ _ _))) rfl sz28 rfl rfl (sqC_length _)) ?_
  refine DW.pure' 1 _ rfl (by kernel_rfl) rfl (fun _ => QO.move rfl rfl) ?_
  refine DW.pure' 2 _ rfl (by kernel_rfl) rfl (fun _ => QO.move rfl rfl) ?_
  refine DW.pure' 4 _ rfl (by kernel_rfl) rfl (fun _ => QO.move rfl rfl) ?_
  refine DW.pure' 5 _ rfl (by kernel_rfl) rfl (fun _ => QO.move rfl rfl) ?_
  refine DW.pure' 7 _ rfl (by kernel_rfl) rfl (fun _ => QO.move rfl rfl) ?_
  refine DW.pure' 8 _ rfl (by kernel_rfl) rfl (fun _ => QO.move rfl rfl) ?_
  have hq := Option.bind_eq_some_iff.1 hm; clear hm; obtain ⟨r3, hr3, hm⟩ := hq
  have hd3 : Del (upd (upd (upd (h) b1 (.own 28 (sqC sq0) 101)) b2 (.own 28 (sqC r1.1) 101)) p0 (.own 74 (srcC A_s l_s.length c_s r2.2) 3)) p0 (.own 74 (srcC A_s l_s.length c_s r2.2) 3) (upd (upd (h) b1 (.own 28 (sqC sq0) 101)) b2 (.own 28 (sqC r1.1) 101)) := (Del.here (none_upd n_b2_p0.ne.symm (none_upd n_b1_p0.ne.symm h_p0)))
  refine DW.call 3 _ _ rfl (by kernel_rfl) rfl rfl (EO.fn rfl Try.func67 rfl rfl (Evs.cons rfl (Evs.cons rfl Evs.nil))) (CC.mono (CC.atLe (c_spec_l01DrawPlaces (h := upd (upd (h) b1 (.own 28 (sqC sq0) 101)) b2 (.own 28 (sqC r1.1) 101)) hr3 (RdS.le hs_s (Le.under (Le.under (Le.refl _) hb1) hb2)) hd3.none) hd3.le) ?_)
  rintro _ _ ⟨rfl, rfl⟩
  refine ⟨(fun _ => (Le.upd_left (Le.upd_left (Le.under (Le.under (Le.under (Le.refl _) hb1) hb2) h_p0) ((upd_ne _ _ n_b1_p0.ne).trans ((upd_ne _ _ n_b2_b1.ne.symm).trans (upd_same _ _ _))) (by first | rfl | (simp; done))) ((upd_ne _ _ n_b2_p0.ne).trans (upd_same _ _ _)) (by first | rfl | (simp; done)))), ?_⟩
  have hq := Option.bind_eq_some_iff.1 hm; clear hm; obtain ⟨r4, hr4, hm⟩ := hq
  have hd4 : Del (upd (upd (upd (h) b1 (.own 28 (sqC sq0) 101)) b2 (.own 28 (sqC r1.1) 101)) p0 (.own 74 (srcC A_s l_s.length c_s r3.2) 3)) p0 (.own 74 (srcC A_s l_s.length c_s r3.2) 3) (upd (upd (h) b1 (.own 28 (sqC sq0) 101)) b2 (.own 28 (sqC r1.1) 101)) := (Del.here (none_upd n_b2_p0.ne.symm (none_upd n_b1_p0.ne.symm h_p0)))
  refine DW.call 6 _ _ rfl (by kernel_rfl) rfl rfl (EO.fn rfl Try.func67 rfl rfl (Evs.cons rfl (Evs.cons rfl Evs.nil))) (CC.mono (CC.atLe (c_spec_l01DrawPlaces (h := upd (upd (h) b1 (.own 28 (sqC sq0) 101)) b2 (.own 28 (sqC r1.1) 101)) hr4 (RdS.le hs_s (Le.under (Le.under (Le.refl _) hb1) hb2)) hd4.none) hd4.le) ?_)
  rintro _ _ ⟨rfl, rfl⟩
  refine ⟨(fun _ => (Le.upd_left (Le.upd_left (Le.under (Le.under (Le.under (Le.refl _) hb1) hb2) h_p0) ((upd_ne _ _ n_b1_p0.ne).trans ((upd_ne _ _ n_b2_b1.ne.symm).trans (upd_same _ _ _))) (by first | rfl | (simp; done))) ((upd_ne _ _ n_b2_p0.ne).trans (upd_same _ _ _)) (by first | rfl | (simp; done)))), ?_⟩
  have hq := Option.bind_eq_some_iff.1 hm; clear hm; obtain ⟨r5, hr5, hm⟩ := hq
  have hd5 : Del (upd (upd (upd (h) b1 (.own 28 (sqC sq0) 101)) b2 (.own 28 (sqC r1.1) 101)) p0 (.own 74 (srcC A_s l_s.length c_s r4.2) 3)) p0 (.own 74 (srcC A_s l_s.length c_s r4.2) 3) (upd (upd (h) b1 (.own 28 (sqC sq0) 101)) b2 (.own 28 (sqC r1.1) 101)) := (Del.here (none_upd n_b2_p0.ne.symm (none_upd n_b1_p0.ne.symm h_p0)))
  refine DW.call 9 _ _ rfl (by kernel_rfl) rfl rfl (EO.fn rfl Try.func67 rfl rfl (Evs.cons rfl (Evs.cons rfl Evs.nil))) (CC.mono (CC.atLe (c_spec_l01DrawPlaces (h := upd (upd (h) b1 (.own 28 (sqC sq0) 101)) b2 (.own 28 (sqC r1.1) 101)) hr5 (RdS.le hs_s (Le.under (Le.under (Le.refl _) hb1) hb2)) hd5.none) hd5.le) ?_)
  rintro _ _ ⟨rfl, rfl⟩
  refine ⟨(fun _ => (Le.upd_left (Le.upd_left (Le.under (Le.under (Le.under (Le.refl _) hb1) hb2) h_p0) ((upd_ne _ _ n_b1_p0.ne).trans ((upd_ne _ _ n_b2_b1.ne.symm).trans (upd_same _ _ _))) (by first | rfl | (simp; done))) ((upd_ne _ _ n_b2_p0.ne).trans (upd_same _ _ _)) (by first | rfl | (simp; done)))), ?_⟩
  have hq := Option.bind_eq_some_iff.1 hm; clear hm; obtain ⟨r6, hr6, hm⟩ := hq
  refine DW.qcall' 10 _ _ _ rfl (by kernel_rfl) rfl (EO.fn rfl Try.func66 rfl rfl (Evs.cons rfl (Evs.cons rfl (Evs.cons rfl (Evs.cons rfl Evs.nil))))) (c_spec_l01Moved hr6 ) ?_
  refine DW.loud 11 rfl (by kernel_rfl) rfl rfl (LO.storeAll (cs := sqC r6) rfl sz28 rfl rfl (sqC_one _) (sqC_length _) ((upd_ne _ _ n_b1_p0.ne).trans ((upd_ne _ _ n_b2_b1.ne.symm).trans (upd_same _ _ _))) (sqC_length _) (Chg.there n_b1_p0.ne.symm (Chg.there n_b2_b1.ne Chg.here)) rfl ?_)
  refine ⟨(fun e => absurd e (by decide)), ?_⟩
  refine DW.done (by kernel_rfl) ?_ _
  refine thenA_n ?_
  refine wpA_ret ?_
  obtain rfl := Option.some.inj hm
  exact retA_r (h2 := upd (h) p0 (.own 74 (srcC A_s l_s.length c_s r5.2) 3)) (Res.one rfl (res1.row (cs := sqC r6) (hr := (rdAll ((upd_ne _ _ n_b1_p0.ne).trans ((upd_ne _ _ n_b2_b1.ne.symm).trans (upd_same _ _ _))))) sz28 rfl rfl (sqC_length _))) (Le.upd_left (Le.under (Le.under (Le.under (Le.refl _) hb1) hb2) h_p0) (upd_same _ _ _) (by first | rfl | (simp; done))) ⟨rfl, rfl⟩

/-! loop.example/g01195/spec.l01Spoil -/
theorem c_spec_l01Spoil {a0 : Rng} {p0 : Nat} {l_s : List Int} {A_s : Option Addr} {c_s : Nat} {h : Hp} {r : Sq × Rng} (hm : m_spec_l01Spoil a0 l_s = some r) (hs_s : RdS h A_s (ints .u8 l_s)) (h_p0 : h p0 = none) :
    CC Try.prog 60 #[.pointer (some ⟨p0, 0, none⟩)] (upd (h) p0 (.own 74 (srcC A_s l_s.length c_s a0) 3)) (fun v h' => v = .agg (sqC r.1).toArray ∧ h' = upd (h) p0 (.own 74 (srcC A_s l_s.length c_s r.2) 3)) := by
 unfold m_spec_l01Spoil at hm
 refine CC.enter Try.func60 rfl Try.ntmps60 rfl ?_
 refine wpA_seq ?_
 refine wpA_region ?_
 refine Ops_loud rfl (LO.alloc rfl zr28 rfl (fun b1 hb1 => ?_))
 simp only [upd_noneA] at hb1
 obtain ⟨n_b1_p0, hb1⟩ := hb1
 refine Ops_nil ?_
 refine thenA_n ?_
 refine wpA_seq ?_
 refine wpA_seq ?_
 refine wpA_region ?_
 refine Ops_quiet _ rfl rfl (QO.move rfl rfl) ?_
 have hq := Option.bind_eq_some_iff.1 hm; clear hm; obtain ⟨r1, hr1, hm⟩ := hq
 have hd1 : Del (upd (upd (h) p0 (.own 74 (srcC A_s l_s.length c_s a0) 3)) b1 (.own 28 (sqC sq0) 101)) p0 (.own 74 (srcC A_s l_s.length c_s a0) 3) (upd (h) b1 (.own 28 (sqC sq0) 101)) := (Del.there n_b1_p0.ne.symm (Del.here h_p0))
 refine Ops_call _ _ rfl rfl (EO.fn rfl Try.func54 rfl rfl (Evs.cons rfl (Evs.cons rfl Evs.nil))) (CC.mono (CC.atLe (c_spec_l01Next (h := upd (h) b1 (.own 28 (sqC sq0) 101)) hr1 (RdS.le hs_s (Le.under (Le.refl _) hb1)) hd1.none) hd1.le) ?_)
 rintro _ _ ⟨rfl, rfl⟩
 refine Ops_quiet _ rfl rfl (QO.bin rfl rfl rfl rfl) ?_
 refine Ops_nil ?_
 refine thenA_n ?_
 refine wpA_cond rfl (fun g1 => ?_) (fun g1 => ?_)
 ·replace hm := cond_t hm g1
  refine wpA_seq ?_
  refine wpA_region ?_
  refine Ops_quiet _ rfl rfl (QO.move rfl rfl) ?_
  refine Ops_quiet _ rfl rfl (QO.move rfl rfl) ?_
  have hq := Option.bind_eq_some_iff.1 hm; clear hm; obtain ⟨r2, hr2, hm⟩ := hq
  have hd2 : Del (upd (upd (h) b1 (.own 28 (sqC sq0) 101)) p0 (.own 74 (srcC A_s l_s.length c_s r1.2) 3)) p0 (.own 74 (srcC A_s l_s.length c_s r1.2) 3) (upd (h) b1 (.own 28 (sqC sq0) 101)) := (Del.here (none_upd n_b1_p0.ne.symm h_p0))
  refine Ops_call _ _ rfl rfl (EO.fn rfl Try.func65 rfl rfl (Evs.cons rfl Evs.nil)) (CC.mono (CC.atLe (c_spec_l01Draw (h := upd (h) b1 (.own 28 (sqC sq0) 101)) hr2 (RdS.le hs_s (Le.under (Le.refl _) hb1)) hd2.none) hd2.le) ?_)
  rintro _ _ ⟨rfl, rfl⟩
  have hq := Option.bind_eq_some_iff.1 hm; clear hm; obtain ⟨r3, hr3, hm⟩ := hq
  have hd3 : Del (upd (upd (h) b1 (.own 28 (sqC sq0) 101)) p0 (.own 74 (srcC A_s l_s.length c_s r2.2) 3)) p0 (.own 74 (srcC A_s l_s.length c_s r2.2) 3) (upd (h) b1 (.own 28 (sqC sq0) 101)) := (Del.here (none_upd n_b1_p0.ne.symm h_p0))
  refine Ops_call _ _ rfl rfl (EO.fn rfl Try.func69 rfl rfl (Evs.cons rfl (Evs.cons rfl Evs.nil))) (CC.mono (CC.atLe (c_spec_l01Broken (h := upd (h) b1 (.own 28 (sqC sq0) 101)) hr3 (RdS.le hs_s (Le.under (Le.refl _) hb1)) hd3.none) hd3.le) ?_)
  rintro _ _ ⟨rfl, rfl⟩
  refine Ops_loud rfl (LO.storeAll (cs := sqC r3.1) rfl sz28 rfl rfl (sqC_one _) (sqC_length _) ((upd_ne _ _ n_b1_p0.ne).trans (upd_same _ _ _)) (sqC_length _) (Chg.there n_b1_p0.ne.symm Chg.here) rfl ?_)
  refine Ops_nil ?_
  refine thenA_n ?_
  refine wpA_ret ?_
  refine thenA_r ?_
  obtain rfl := Option.some.inj hm
  exact retA_r (h2 := upd (h) p0 (.own 74 (srcC A_s l_s.length c_s r3.2) 3)) (Res.one rfl (res1.row (cs := sqC r3.1) (hr := (rdAll ((upd_ne _ _ n_b1_p0.ne).trans (upd_same _ _ _)))) sz28 rfl rfl (sqC_length _))) (Le.upd_left (Le.under (Le.under (Le.refl _) hb1) h_p0) (upd_same _ _ _) (by first | rfl | (simp; done))) ⟨rfl, rfl⟩
 ·replace hm := cond_f hm g1
  refine wpA_skip ?_
  refine thenA_n ?_
  refine wpA_seq ?_
  refine wpA_region ?_
  refine Ops_quiet _ rfl rfl (QO.move rfl rfl) ?_
  refine Ops_quiet _ rfl rfl (QO.move rfl rfl) ?_
  have hq := Option.bind_eq_some_iff.1 hm; clear hm; obtain ⟨r4, hr4, hm⟩ := hq
  have hd4 : Del (upd (upd (h) b1 (.own 28 (sqC sq0) 101)) p0 (.own 74 (srcC A_s l_s.length c_s r1.2) 3)) p0 (.own 74 (srcC A_s l_s.length c_s r1.2) 3) (upd (h) b1 (.own 28 (sqC sq0) 101)) := (Del.here (none_upd n_b1_p0.ne.symm h_p0))
  refine Ops_call _ _ rfl rfl (EO.fn rfl Try.func52 rfl rfl (Evs.cons rfl Evs.nil)) (CC.mono (CC.atLe (c_spec_l01DrawSquare (h := upd (h) b1 (.own 28 (sqC sq0) 101)) hr4 (RdS.le hs_s (Le.under (Le.refl _) hb1)) hd4.none) hd4.le) ?_)
  rintro _ _ ⟨rfl, rfl⟩
  have hq := Option.bind_eq_some_iff.1 hm; clear hm; obtain ⟨r5, hr5, hm⟩ := hq
  have hd5 : Del (upd (upd (h) b1 (.own 28 (sqC sq0) 101)) p0 (.own 74 (srcC A_s l_s.length c_s r4.2) 3)) p0 (.own 74 (srcC A_s l_s.length c_s r4.2) 3) (upd (h) b1 (.own 28 (sqC sq0) 101)) := (Del.here (none_upd n_b1_p0.ne.symm h_p0))
  refine Ops_call _ _ rfl rfl (EO.fn rfl Try.func69 rfl rfl (Evs.cons rfl (Evs.cons rfl Evs.nil))) (CC.mono (CC.atLe (c_spec_l01Broken (h := upd (h) b1 (.own 28 (sqC sq0) 101)) hr5 (RdS.le hs_s (Le.under (Le.refl _) hb1)) hd5.none) hd5.le) ?_)
  rintro _ _ ⟨rfl, rfl⟩
  refine Ops_loud rfl (LO.storeAll (cs := sqC r5.1) rfl sz28 rfl rfl (sqC_one _) (sqC_length _) ((upd_ne _ _ n_b1_p0.ne).trans (upd_same _ _ _)) (sqC_length _) (Chg.there n_b1_p0.ne.symm Chg.here) rfl ?_)
  refine Ops_nil ?_
  refine thenA_n ?_
  refine wpA_ret ?_
  obtain rfl := Option.some.inj hm
  exact retA_r (h2 := upd (h) p0 (.own 74 (srcC A_s l_s.length c_s r5.2) 3)) (Res.one rfl (res1.row (cs := sqC r5.1) (hr := (rdAll ((upd_ne _ _ n_b1_p0.ne).trans (upd_same _ _ _)))) sz28 rfl rfl (sqC_length _))) (Le.upd_left (Le.under (Le.under (Le.refl _) hb1) h_p0) (upd_same _ _ _) (by first | rfl | (simp; done))) ⟨rfl, rfl⟩

/-! loop.example/g01195/spec.l01Pair -/
theorem c_spec_l01Pair {l0 : (List Int)} {A0 : Option Addr} {c0 : Nat} {h : Hp} {r : Sq × Int × Int} (hm : m_spec_l01Pair l0 = some r) (hs0 : RdS h A0 (ints .u8 l0)) :
    QC Try.prog 30 #[.slice A0 l0.length c0] h (.tuple #[.agg (sqC r.1).toArray, .int .u8 r.2.1, .int .u8 r.2.2]) := by
 unfold m_spec_l01Pair at hm
 refine CC.enter Try.func30 rfl Try.ntmps30 rfl ?_
 refine wpA_seq ?_
 refine wpA_region ?_
 refine Ops_loud rfl (LO.alloc rfl zr28 rfl (fun b1 hb1 => ?_))
 refine Ops_quiet _ rfl rfl (QO.assign rfl rfl) ?_
 refine Ops_quiet _ rfl rfl (QO.assign rfl rfl) ?_
 refine Ops_nil ?_
 refine thenA_n ?_
 refine wpA_seq ?_
 refine wpA_region ?_
 refine Ops_quiet _ rfl rfl (QO.move rfl rfl) ?_
 have hq := Option.bind_eq_some_iff.1 hm; clear hm; obtain ⟨r1, hr1, hm⟩ := hq
 refine Ops_call _ _ rfl rfl (EO.fn rfl Try.func51 rfl rfl (Evs.cons rfl Evs.nil)) (CC.mono (c_spec_l01From (l0 := l0) (A0 := A0) (c0 := c0) hr1 (RdS.le hs0 (Le.under (Le.refl _) hb1))) ?_)
 rintro _ _ ⟨b2, hb2, rfl, rfl⟩
 simp only [upd_noneA] at hb2
 obtain ⟨n_b2_b1, hb2⟩ := hb2
 refine Ops_quiet _ rfl rfl (QO.assign rfl rfl) ?_
 refine Ops_nil ?_
 refine thenA_n ?_
 refine wpA_seq ?_
 refine wpA_region ?_
 refine Ops_quiet _ rfl rfl (QO.move rfl rfl) ?_
 have hq := Option.bind_eq_some_iff.1 hm; clear hm; obtain ⟨r2, hr2, hm⟩ := hq
 have hd1 : Del (upd (upd (h) b1 (.own 28 (sqC sq0) 101)) b2 (.own 74 (srcC A0 l0.length c0 r1) 3)) b2 (.own 74 (srcC A0 l0.length c0 r1) 3) (upd (h) b1 (.own 28 (sqC sq0) 101)) := (Del.here (none_upd n_b2_b1.ne hb2))
 refine Ops_call _ _ rfl rfl (EO.fn rfl Try.func60 rfl rfl (Evs.cons rfl Evs.nil)) (CC.mono (CC.atLe (c_spec_l01Spoil (h := upd (h) b1 (.own 28 (sqC sq0) 101)) hr2 (RdS.le hs0 (Le.under (Le.refl _) hb1)) hd1.none) hd1.le) ?_)
 rintro _ _ ⟨rfl, rfl⟩
 refine Ops_loud rfl (LO.alloc rfl zr28 rfl (fun b3 hb3 => ?_))
 simp only [upd_noneA] at hb3
 obtain ⟨n_b3_b2, n_b3_b1, hb3⟩ := hb3
 refine Ops_loud rfl (LO.storeAll (cs := sqC r2.1) rfl sz28 rfl rfl (sqC_one _) (sqC_length _) (upd_same _ _ _) (sqC_length _) Chg.here rfl ?_)
 refine Ops_nil ?_
 refine thenA_n ?_
 refine wpA_seq ?_
 refine wpA_any (upd (h) b3 (.own 28 (sqC r2.1) 101)) [5, 8, 14, 17, 19] [] (by kernel_rfl) (by kernel_rfl) (DW.start ?_)
 refine DW.readK' 0 _ rfl (by kernel_rfl) rfl (Le.upd_left (Le.under (Le.under (Le.under (Le.refl _) hb1) hb2) hb3) (upd_same _ _ _) (by first | rfl | (simp; done))) (QO.loadRow (cs := sqC r2.1) (hr := (rdAll (upd_same _ _ _))) rfl sz28 rfl rfl (sqC_length _)) ?_
 refine DW.pure' 1 _ rfl (by kernel_rfl) rfl (fun _ => QO.move rfl rfl) ?_
 refine DW.pure' 2 _ rfl (by kernel_rfl) rfl (fun _ => QO.fieldAt (fo := 0) rfl sz28 rfl rfl sz2 rfl rfl) ?_
 refine DW.readK' 3 _ rfl (by kernel_rfl) rfl (Le.upd_left (Le.under (Le.under (Le.under (Le.refl _) hb1) hb2) hb3) (upd_same _ _ _) (by first | rfl | (simp; done))) (QO.load rfl sz2 rfl rfl (by (refine (rd_own (upd_same _ _ _) _).trans ?_); exact rfl)) ?_
 refine DW.pure' 4 _ rfl (by kernel_rfl) rfl (fun _ => QO.move rfl rfl) ?_
 refine DW.pure' 10 _ rfl (by kernel_rfl) rfl (fun _ => QO.move rfl rfl) ?_
 refine DW.pure' 11 _ rfl (by kernel_rfl) rfl (fun _ => QO.fieldAt (fo := 0) rfl sz28 rfl rfl sz2 rfl rfl) ?_
 refine DW.readK' 12 _ rfl (by kernel_rfl) rfl (Le.upd_left (Le.under (Le.under (Le.under (Le.refl _) hb1) hb2) hb3) (upd_same _ _ _) (by first | rfl | (simp; done))) (QO.load rfl sz2 rfl rfl (by (refine (rd_own (upd_same _ _ _) _).trans ?_); exact rfl)) ?_
 refine DW.pure' 13 _ rfl (by kernel_rfl) rfl (fun _ => QO.move rfl rfl) ?_
 have hq := Option.bind_eq_some_iff.1 hm; clear hm; obtain ⟨r3, hr3, hm⟩ := hq
 have hd2 : Del (upd (upd (upd (h) b1 (.own 28 (sqC sq0) 101)) b2 (.own 74 (srcC A0 l0.length c0 r2.2) 3)) b3 (.own 28 (sqC r2.1) 101)) b2 (.own 74 (srcC A0 l0.length c0 r2.2) 3) (upd (upd (h) b1 (.own 28 (sqC sq0) 101)) b3 (.own 28 (sqC r2.1) 101)) := (Del.there n_b3_b2.ne.symm (Del.here (none_upd n_b2_b1.ne hb2)))
 refine DW.call 5 _ _ rfl (by kernel_rfl) rfl rfl (EO.fn rfl Try.func54 rfl rfl (Evs.cons rfl (Evs.cons rfl Evs.nil))) (CC.mono (CC.atLe (c_spec_l01Next (h := upd (upd (h) b1 (.own 28 (sqC sq0) 101)) b3 (.own 28 (sqC r2.1) 101)) hr3 (RdS.le hs0 (Le.under (Le.under (Le.refl _) hb1) hb3)) hd2.none) hd2.le) ?_)
 rintro _ _ ⟨rfl, rfl⟩
 refine ⟨(fun _ => (Le.upd_left (Le.under (Le.under (Le.under (Le.refl _) hb1) hb3) hb2) ((upd_ne _ _ n_b3_b2.ne).trans (upd_same _ _ _)) (by first | rfl | (simp; done)))), ?_⟩
 refine DW.pure' 6 _ rfl (by kernel_rfl) rfl (fun _ => QO.quo rfl rfl rfl (by decide)) ?_
 refine DW.pure' 7 _ rfl (by kernel_rfl) rfl (fun _ => QO.bin rfl rfl rfl rfl) ?_
 have hq := Option.bind_eq_some_iff.1 hm; clear hm; obtain ⟨r4, hr4, hm⟩ := hq
 have hd3 : Del (upd (upd (upd (h) b1 (.own 28 (sqC sq0) 101)) b3 (.own 28 (sqC r2.1) 101)) b2 (.own 74 (srcC A0 l0.length c0 r3.2) 3)) b2 (.own 74 (srcC A0 l0.length c0 r3.2) 3) (upd (upd (h) b1 (.own 28 (sqC sq0) 101)) b3 (.own 28 (sqC r2.1) 101)) := (Del.here (none_upd n_b3_b2.ne.symm (none_upd n_b2_b1.ne hb2)))
 refine DW.call 8 _ _ rfl (by kernel_rfl) rfl rfl (EO.fn rfl Try.func54 rfl rfl (Evs.cons rfl (Evs.cons rfl Evs.nil))) (CC.mono (CC.atLe (c_spec_l01Next (h := upd (upd (h) b1 (.own 28 (sqC sq0) 101)) b3 (.own 28 (sqC r2.1) 101)) hr4 (RdS.le hs0 (Le.under (Le.under (Le.refl _) hb1) hb3)) hd3.none) hd3.le) ?_)
 rintro _ _ ⟨rfl, rfl⟩
 refine ⟨(fun _ => (Le.upd_left (Le.under (Le.under (Le.under (Le.refl _) hb1) hb3) hb2) ((upd_ne _ _ n_b3_b2.ne).trans (upd_same _ _ _)) (by first | rfl | (simp; done)))), ?_⟩
 refine DW.pure' 9 _ rfl (by kernel_rfl) rfl (fun _ => QO.conv rfl sz2 sz5 rfl) ?_
 have hq := Option.bind_eq_some_iff.1 hm; clear hm; obtain ⟨r5, hr5, hm⟩ := hq
 have hd4 : Del (upd (upd (upd (h) b1 (.own 28 (sqC sq0) 101)) b3 (.own 28 (sqC r2.1) 101)) b2 (.own 74 (srcC A0 l0.length c0 r4.2) 3)) b2 (.own 74 (srcC A0 l0.length c0 r4.2) 3) (upd (upd (h) b1 (.own 28 (sqC sq0) 101)) b3 (.own 28 (sqC r2.1) 101)) := (Del.here (none_upd n_b3_b2.ne.symm (none_upd n_b2_b1.ne hb2)))
 refine DW.call 14 _ _ rfl (by kernel_rfl) rfl rfl (EO.fn rfl Try.func54 rfl rfl (Evs.cons rfl (Evs.cons rfl Evs.nil))) (CC.mono (CC.atLe (c_spec_l01Next (h := upd (upd (h) b1 (.own 28 (sqC sq0) 101)) b3 (.own 28 (sqC r2.1) 101)) hr5 (RdS.le hs0 (Le.under (Le.under (Le.refl _) hb1) hb3)) hd4.none) hd4.le) ?_)
 rintro _ _ ⟨rfl, rfl⟩
 refine ⟨(fun _ => (Le.upd_left (Le.under (Le.under (Le.under (Le.refl _) hb1) hb3) hb2) ((upd_ne _ _ n_b3_b2.ne).trans (upd_same _ _ _)) (by first | rfl | (simp; done)))), ?_⟩
 refine DW.pure' 15 _ rfl (by kernel_rfl) rfl (fun _ => QO.quo rfl rfl rfl (by decide)) ?_
 refine DW.pure' 16 _ rfl (by kernel_rfl) rfl (fun _ => QO.bin rfl rfl rfl rfl) ?_
 have hq := Option.bind_eq_some_iff.1 hm; clear hm; obtain ⟨r6, hr6, hm⟩ := hq
 have hd5 : Del (upd (upd (upd (h) b1 (.own 28 (sqC sq0) 101)) b3 (.own 28 (sqC r2.1) 101)) b2 (.own 74 (srcC A0 l0.length c0 r5.2) 3)) b2 (.own 74 (srcC A0 l0.length c0 r5.2) 3) (upd (upd (h) b1 (.own 28 (sqC sq0) 101)) b3 (.own 28 (sqC r2.1) 101)) := (Del.here (none_upd n_b3_b2.ne.symm (none_upd n_b2_b1.ne hb2)))
 refine DW.call 17 _ _ rfl (by kernel_rfl) rfl rfl (EO.fn rfl Try.func54 rfl rfl (Evs.cons rfl (Evs.cons rfl Evs.nil))) (CC.mono (CC.atLe (c_spec_l01Next (h := upd (upd (h) b1 (.own 28 (sqC sq0) 101)) b3 (.own 28 (sqC r2.1) 101)) hr6 (RdS.le hs0 (Le.under (Le.under (Le.refl _) hb1) hb3)) hd5.none) hd5.le) ?_)
 rintro _ _ ⟨rfl, rfl⟩
 refine ⟨(fun _ => (Le.upd_left (Le.under (Le.under (Le.under (Le.refl _) hb1) hb3) hb2) ((upd_ne _ _ n_b3_b2.ne).trans (upd_same _ _ _)) (by first | rfl | (simp; done)))), ?_⟩
 refine DW.pure' 18 _ rfl (by kernel_rfl) rfl (fun _ => QO.conv rfl sz2 sz5 rfl) ?_
 refine DW.loud 19 rfl (by kernel_rfl) rfl rfl (LO.storeAll (cs := sqC r2.1) rfl sz28 rfl rfl (sqC_one _) (sqC_length _) ((upd_ne _ _ n_b2_b1.ne.symm).trans ((upd_ne _ _ n_b3_b1.ne.symm).trans (upd_same _ _ _))) (sqC_length _) (Chg.there n_b2_b1.ne (Chg.there n_b3_b1.ne Chg.here)) rfl ?_)
 refine ⟨(fun _ => (Le.upd_left (Le.under (Le.under (Le.under (Le.refl _) hb1) hb3) hb2) ((upd_ne _ _ n_b3_b2.ne).trans (upd_same _ _ _)) (by first | rfl | (simp; done)))), ?_⟩
 refine DW.pure' 20 _ rfl (by kernel_rfl) rfl (fun _ => QO.assign rfl rfl) ?_
 refine DW.pure' 21 _ rfl (by kernel_rfl) rfl (fun _ => QO.assign rfl rfl) ?_
 refine DW.done (by kernel_rfl) ?_ _
 refine thenA_n ?_
 refine wpA_ret ?_
 obtain rfl := Option.some.inj hm
 exact retA_r (h2 := h) (Res.three rfl (res1.row (cs := sqC r2.1) (hr := (rdAll ((upd_ne _ _ n_b2_b1.ne.symm).trans ((upd_ne _ _ n_b3_b1.ne.symm).trans (upd_same _ _ _))))) sz28 rfl rfl (sqC_length _)) (rfl) (rfl)) (Le.under (Le.under (Le.under (Le.refl _) hb1) hb3) hb2) ⟨rfl, rfl⟩

/-! loop.example/g01195/spec.DrawProductIn -/
theorem c_spec_DrawProductIn {l0 : (List Int)} {A0 : Option Addr} {c0 : Nat} {h : Hp} {r : Sq × Int × Int} (hm : m_spec_DrawProductIn l0 = some r) (hs0 : RdS h A0 (ints .u8 l0)) :
    QC Try.prog 5 #[.slice A0 l0.length c0] h (.tuple #[.agg (sqC r.1).toArray, .int .u8 r.2.1, .int .u8 r.2.2]) := by
 unfold m_spec_DrawProductIn at hm
 refine CC.enter Try.func5 rfl Try.ntmps5 rfl ?_
 refine wpA_seq ?_
 refine wpA_region ?_
 refine Ops_loud rfl (LO.alloc rfl zr28 rfl (fun b1 hb1 => ?_))
 refine Ops_quiet _ rfl rfl (QO.assign rfl rfl) ?_
 refine Ops_quiet _ rfl rfl (QO.assign rfl rfl) ?_
 refine Ops_nil ?_
 refine thenA_n ?_
 refine wpA_seq ?_
 refine wpA_region ?_
 refine Ops_quiet _ rfl rfl (QO.move rfl rfl) ?_
 have hq := Option.bind_eq_some_iff.1 hm; clear hm; obtain ⟨r1, hr1, hm⟩ := hq
 refine Ops_call _ _ rfl rfl (EO.fn rfl Try.func30 rfl rfl (Evs.cons rfl Evs.nil)) (QC.cc (c_spec_l01Pair (l0 := l0) (A0 := A0) (c0 := c0) hr1 (RdS.le hs0 (Le.under (Le.refl _) hb1))) ?_)
 refine Ops_quiet _ rfl rfl (QO.move rfl rfl) ?_
 refine Ops_quiet _ rfl rfl (QO.extract rfl rfl rfl) ?_
 refine Ops_quiet _ rfl rfl (QO.extract rfl rfl rfl) ?_
 refine Ops_quiet _ rfl rfl (QO.extract rfl rfl rfl) ?_
 refine Ops_loud rfl (LO.alloc rfl zr28 rfl (fun b2 hb2 => ?_))
 simp only [upd_noneA] at hb2
 obtain ⟨n_b2_b1, hb2⟩ := hb2
 refine Ops_loud rfl (LO.storeAll (cs := sqC r1.1) rfl sz28 rfl rfl (sqC_one _) (sqC_length _) (upd_same _ _ _) (sqC_length _) Chg.here rfl ?_)
 refine Ops_quiet _ rfl rfl (QO.assign rfl rfl) ?_
 refine Ops_quiet _ rfl rfl (QO.assign rfl rfl) ?_
 refine Ops_nil ?_
 refine thenA_n ?_
 refine wpA_seq ?_
 refine wpA_region ?_
 refine Ops_quiet _ rfl rfl (QO.loadRow (cs := sqC r1.1) (hr := (rdAll (upd_same _ _ _))) rfl sz28 rfl rfl (sqC_length _)) ?_
 refine Ops_quiet _ rfl rfl (QO.move rfl rfl) ?_
 refine Ops_quiet _ rfl rfl (QO.move rfl rfl) ?_
 refine Ops_loud rfl (LO.storeAll (cs := sqC r1.1) rfl sz28 rfl rfl (sqC_one _) (sqC_length _) ((upd_ne _ _ n_b2_b1.ne.symm).trans (upd_same _ _ _)) (sqC_length _) (Chg.there n_b2_b1.ne Chg.here) rfl ?_)
 refine Ops_quiet _ rfl rfl (QO.assign rfl rfl) ?_
 refine Ops_quiet _ rfl rfl (QO.assign rfl rfl) ?_
 refine Ops_nil ?_
 refine thenA_n ?_
 refine wpA_ret ?_
 obtain rfl := Option.some.inj hm
 exact retA_r (h2 := h) (Res.three rfl (res1.row (cs := sqC r1.1) (hr := (rdAll ((upd_ne _ _ n_b2_b1.ne.symm).trans (upd_same _ _ _)))) sz28 rfl rfl (sqC_length _)) (rfl) (rfl)) (Le.under (Le.under (Le.refl _) hb1) hb2) ⟨rfl, rfl⟩

/-! loop.example/g01195/impl.within -/
theorem c_impl_within {a0 : Int} {a1 : Int} {a2 : Int} {h : Hp} {r : Bool} (hm : m_impl_within a0 a1 a2 = some r)  :
    QC Try.prog 33 #[.int .i64 a0, .int .i64 a1, .int .i64 a2] h (.bool r) := by
 unfold m_impl_within at hm
 refine CC.enter Try.func33 rfl Try.ntmps33 rfl ?_
 refine wpA_seq ?_
 refine wpA_region ?_
 refine Ops_quiet _ rfl rfl (QO.assign rfl rfl) ?_
 refine Ops_nil ?_
 refine thenA_n ?_
 refine wpA_seq ?_
 refine wpA_region ?_
 refine Ops_quiet _ rfl rfl (QO.move rfl rfl) ?_
 refine Ops_quiet _ rfl rfl (QO.move rfl rfl) ?_
 refine Ops_quiet _ rfl rfl (QO.bin rfl rfl rfl rfl) ?_
 refine Ops_quiet _ rfl rfl (QO.move rfl rfl) ?_
 refine Ops_case 10 rfl (fun g1 => ?_) (fun g1 => ?_)
 ·replace hm := cond_t hm g1
  refine Ops_quiet _ rfl rfl (QO.move rfl rfl) ?_
  refine Ops_quiet _ rfl rfl (QO.move rfl rfl) ?_
  refine Ops_quiet _ rfl rfl (QO.bin rfl rfl rfl rfl) ?_
  refine Ops_quiet _ rfl rfl (QO.pick_t rfl rfl rfl) ?_
  refine Ops_quiet _ rfl rfl (QO.assign rfl rfl) ?_
  refine Ops_nil ?_
  refine thenA_n ?_
  refine wpA_ret ?_
  obtain rfl := Option.some.inj hm
  exact retA_r (h2 := h) (Res.one rfl (rfl)) (Le.refl _) ⟨rfl, rfl⟩
 ·replace hm := cond_f hm g1
  refine Ops_skip rfl rfl ?_
  refine Ops_skip rfl rfl ?_
  refine Ops_skip rfl rfl ?_
  refine Ops_quiet _ rfl rfl (QO.pick_f rfl rfl rfl) ?_
  refine Ops_quiet _ rfl rfl (QO.assign rfl rfl) ?_
  refine Ops_nil ?_
  refine thenA_n ?_
  refine wpA_ret ?_
  obtain rfl := Option.some.inj hm
  exact retA_r (h2 := h) (Res.one rfl (rfl)) (Le.refl _) ⟨rfl, rfl⟩

/-! loop.example/g01195/impl.IsSquare -/
theorem c_impl_IsSquare {a0 : Sq} {h : Hp} {r : Bool} (hm : m_impl_IsSquare a0 = some r)  :
    QC Try.prog 8 #[.agg (sqC a0).toArray] h (.bool r) := by
 unfold m_impl_IsSquare at hm
 refine CC.enter Try.func8 rfl Try.ntmps8 rfl ?_
 refine wpA_seq ?_
 refine wpA_region ?_
 refine Ops_loud rfl (LO.boxAgg rfl rfl rfl (fun b1 hb1 => ?_))
 refine Ops_quiet _ rfl rfl (QO.assign rfl rfl) ?_
 refine Ops_nil ?_
 refine thenA_n ?_
 refine wpA_seq ?_
 refine wpA_seq ?_
 refine wpA_region ?_
 refine Ops_quiet _ rfl rfl (QO.fieldAt (fo := 0) rfl sz28 rfl rfl sz2 rfl rfl) ?_
 refine Ops_quiet _ rfl rfl (QO.load rfl sz2 rfl rfl (by (refine (rd_own (upd_same _ _ _) _).trans ?_); exact rfl)) ?_
 have hq := Option.bind_eq_some_iff.1 hm; clear hm; obtain ⟨r1, hr1, hm⟩ := hq
 refine Ops_call _ _ rfl rfl (EO.fn rfl Try.func33 rfl rfl (Evs.cons rfl (Evs.cons rfl (Evs.cons rfl Evs.nil)))) (QC.cc (c_impl_within hr1 ) ?_)
 refine Ops_quiet _ rfl rfl (QO.not rfl rfl) ?_
 refine Ops_nil ?_
 refine thenA_n ?_
 refine wpA_cond rfl (fun g1 => ?_) (fun g1 => ?_)
 ·replace hm := cond_t hm g1
  refine wpA_seq ?_
  refine wpA_region ?_
  refine Ops_quiet _ rfl rfl (QO.assign rfl rfl) ?_
  refine Ops_nil ?_
  refine thenA_n ?_
  refine wpA_ret ?_
  refine thenA_r ?_
  obtain rfl := Option.some.inj hm
  exact retA_r (h2 := h) (Res.one rfl (rfl)) (Le.under (Le.refl _) hb1) ⟨rfl, rfl⟩
 ·replace hm := cond_f hm g1
  refine wpA_skip ?_
  refine thenA_n ?_
  refine wpA_seq ?_
  refine wpA_region ?_
  refine Ops_quiet _ rfl rfl (QO.fieldAt (fo := 0) rfl sz28 rfl rfl sz2 rfl rfl) ?_
  refine Ops_quiet _ rfl rfl (QO.load rfl sz2 rfl rfl (by (refine (rd_own (upd_same _ _ _) _).trans ?_); exact rfl)) ?_
  refine Ops_quiet _ rfl rfl (QO.assign rfl rfl) ?_
  refine Ops_nil ?_
  refine thenA_n ?_
  refine wpA_seq ?_
  refine wpA_seq ?_
  refine wpA_region ?_
  refine Ops_quiet _ rfl rfl (QO.move rfl rfl) ?_
  refine Ops_nil ?_
  refine thenA_n ?_
  refine wpA_block ?_
  obtain ⟨R1, hR, hm⟩ := Option.bind_eq_some_iff.1 hm
  obtain ⟨k1, hk1⟩ := loopV_some hR
  clear hR
  refine wpA_mono (Q := fun e s' h' => match (generalizing := false) R1 with | .stop x id => e = .exit id ∧ ∃ (x1 : Int), x1 = x ∧ Sub s' [(1, .pointer (some ⟨b1, 0, none⟩)), (3, .int .i64 a0.order), (14, .int .i64 x1)] ∧ Le (upd (h) b1 (.own 28 (sqC a0) 101)) h' | .ret r => e = .ret ∧ Sub s' [(2, .bool r)] ∧ Le (h) h' | .next _ => False) ?_ ?_
  ·refine wpA_loop (fun k s' h' => ∃ (x1 : Int), loopW (m_impl_IsSquare_l0 a0) k x1 = some R1 ∧ Sub s' [(1, .pointer (some ⟨b1, 0, none⟩)), (3, .int .i64 a0.order), (14, .int .i64 x1)] ∧ Le (upd (h) b1 (.own 28 (sqC a0) 101)) h') (m := k1) ⟨0, hk1, (Sub.cons rfl (Sub.cons rfl (Sub.cons rfl Sub.nil))), (Le.upd_left (Le.under (Le.refl _) hb1) (upd_same _ _ _) (by first | rfl | (simp; done)))⟩ ?_
   rintro k1 s' h' ⟨x1, hk1, hsub, hle⟩
   refine wpA_weaken hsub.ok hle ?_
   clear hsub hle s' h'
   cases k1 with
   | zero => exact absurd hk1 (by simp [loopW])
   | succ k1 =>
    obtain ⟨o1, ho1, hk1⟩ := loopW_succ hk1
    unfold m_impl_IsSquare_l0 at ho1
    try dsimp only at ho1
    refine wpA_seq ?_
    refine wpA_region ?_
    refine Ops_quiet _ rfl rfl (QO.bin rfl rfl rfl rfl) ?_
    refine Ops_nil ?_
    refine thenA_n ?_
    refine wpA_seq ?_
    refine wpA_cond rfl (fun g2 => ?_) (fun g2 => ?_)
    ·replace ho1 := cond_t ho1 g2
     refine wpA_skip ?_
     refine thenA_n ?_
     refine wpA_seq ?_
     refine wpA_block ?_
     refine wpA_seq ?_
     refine wpA_region ?_
     refine Ops_quiet _ rfl rfl (QO.move rfl rfl) ?_
     refine Ops_quiet _ rfl rfl (QO.assign rfl rfl) ?_
     refine Ops_nil ?_
     refine thenA_n ?_
     refine wpA_seq ?_
     refine wpA_region ?_
     refine Ops_quiet _ rfl rfl (QO.assign rfl rfl) ?_
     refine Ops_quiet _ rfl rfl (QO.assign rfl rfl) ?_
     refine Ops_nil ?_
     refine thenA_n ?_
     refine wpA_seq ?_
     refine wpA_seq ?_
     refine wpA_region ?_
     refine Ops_quiet _ rfl rfl (QO.move rfl rfl) ?_
     refine Ops_nil ?_
     refine thenA_n ?_
     refine wpA_block ?_
     obtain ⟨R2, hR, ho1⟩ := Option.bind_eq_some_iff.1 ho1
     obtain ⟨k2, hk2⟩ := loopV_some hR
     clear hR
     refine wpA_mono (Q := fun e s' h' => match (generalizing := false) R2 with | .stop x id => e = .exit id ∧ ∃ (x2 : Int) (x3 : Int) (x4 : Int), (x2, x3, x4) = x ∧ Sub s' [(1, .pointer (some ⟨b1, 0, none⟩)), (3, .int .i64 a0.order), (4, .int .i64 x1), (5, .int .i64 x2), (6, .int .i64 x3), (14, .int .i64 x1), (17, .int .i64 x4)] ∧ Le (upd (h) b1 (.own 28 (sqC a0) 101)) h' | .ret r => e = .ret ∧ Sub s' [(2, .bool r)] ∧ Le (h) h' | .next _ => False) ?_ ?_
     ·refine wpA_loop (fun k s' h' => ∃ (x2 : Int) (x3 : Int) (x4 : Int), loopW (m_impl_IsSquare_l1 a0 x1) k (x2, x3, x4) = some R2 ∧ Sub s' [(1, .pointer (some ⟨b1, 0, none⟩)), (3, .int .i64 a0.order), (4, .int .i64 x1), (5, .int .i64 x2), (6, .int .i64 x3), (14, .int .i64 x1), (17, .int .i64 x4)] ∧ Le (upd (h) b1 (.own 28 (sqC a0) 101)) h') (m := k2) ⟨0, 0, 0, hk2, (Sub.cons rfl (Sub.cons rfl (Sub.cons rfl (Sub.cons rfl (Sub.cons rfl (Sub.cons rfl (Sub.cons rfl Sub.nil))))))), (Le.upd_left (Le.under (Le.refl _) hb1) (upd_same _ _ _) (by first | rfl | (simp; done)))⟩ ?_
      rintro k2 s' h' ⟨x2, x3, x4, hk2, hsub, hle⟩
      refine wpA_weaken hsub.ok hle ?_
      clear hsub hle s' h'
      cases k2 with
      | zero => exact absurd hk2 (by simp [loopW])
      | succ k2 =>
       obtain ⟨o2, ho2, hk2⟩ := loopW_succ hk2
       unfold m_impl_IsSquare_l1 at ho2
       try dsimp only at ho2
       refine wpA_seq ?_
       refine wpA_region ?_
       refine Ops_quiet _ rfl rfl (QO.bin rfl rfl rfl rfl) ?_
       refine Ops_nil ?_
       refine thenA_n ?_
       refine wpA_seq ?_
       refine wpA_cond rfl (fun g3 => ?_) (fun g3 => ?_)
       ·replace ho2 := cond_t ho2 g3
        refine wpA_skip ?_
        refine thenA_n ?_
        refine wpA_seq ?_
        refine wpA_block ?_
        refine wpA_seq ?_
        refine wpA_region ?_
        refine Ops_quiet _ rfl rfl (QO.move rfl rfl) ?_
        refine Ops_quiet _ rfl rfl (QO.assign rfl rfl) ?_
        refine Ops_nil ?_
        refine thenA_n ?_
        refine wpA_seq ?_
        refine wpA_seq ?_
        refine wpA_region ?_
        refine Ops_quiet _ rfl rfl (QO.move rfl rfl) ?_
        refine Ops_quiet _ rfl rfl (QO.move rfl rfl) ?_
        refine Ops_quiet _ rfl rfl (QO.bin rfl rfl rfl rfl) ?_
        refine Ops_quiet _ rfl rfl (QO.move rfl rfl) ?_
        refine Ops_case 23 rfl (fun g4 => ?_) (fun g4 => ?_)
        ·replace ho2 := cond_t ho2 g4
         refine Ops_skip rfl rfl ?_
         refine Ops_skip rfl rfl ?_
         refine Ops_skip rfl rfl ?_
         refine Ops_quiet _ rfl rfl (QO.pick_t rfl rfl rfl) ?_
         refine Ops_quiet _ rfl rfl (QO.move rfl rfl) ?_
         refine Ops_quiet _ rfl rfl (QO.move rfl rfl) ?_
         refine Ops_quiet _ rfl rfl (QO.move rfl rfl) ?_
         refine Ops_quiet _ rfl rfl (QO.fieldAt (fo := 1) rfl sz28 rfl rfl sz26 rfl rfl) ?_
         have hq := chk ho2; clear ho2; obtain ⟨ck1, ho2⟩ := hq
         refine Ops_quiet _ rfl rfl (QO.idxArr rfl sz26 sz24 rfl rfl (by omega) (by omega)) ?_
         have hq := chk ho2; clear ho2; obtain ⟨ck2, ho2⟩ := hq
         refine Ops_quiet _ rfl rfl (QO.idxArr rfl sz24 sz5 rfl rfl (by omega) (by omega)) ?_
         refine Ops_quiet _ rfl rfl (QO.load rfl sz5 rfl rfl (by (refine (rd_own (upd_same _ _ _) _).trans ?_); exact sqC_get (by omega) (by omega))) ?_
         refine Ops_quiet _ rfl rfl (QO.bin rfl rfl rfl rfl) ?_
         refine Ops_quiet _ rfl rfl (QO.pick_t rfl rfl rfl) ?_
         refine Ops_nil ?_
         refine thenA_n ?_
         refine wpA_cond rfl (fun g5 => ?_) (fun g5 => ?_)
         ·replace ho2 := cond_t ho2 g5
          refine wpA_seq ?_
          refine wpA_region ?_
          refine Ops_quiet _ rfl rfl (QO.assign rfl rfl) ?_
          refine Ops_nil ?_
          refine thenA_n ?_
          refine wpA_ret ?_
          refine thenA_r ?_
          refine blockA_r ?_
          refine thenA_r ?_
          refine thenA_r ?_
          obtain rfl := Option.some.inj ho2
          obtain rfl := Option.some.inj hk2
          exact ⟨rfl, (Sub.cons rfl Sub.nil), (Le.under (Le.refl _) hb1)⟩
         ·replace ho2 := cond_f ho2 g5
          refine wpA_skip ?_
          refine thenA_n ?_
          refine wpA_seq ?_
          refine wpA_region ?_
          refine Ops_quiet _ rfl rfl (QO.move rfl rfl) ?_
          refine Ops_quiet _ rfl rfl (QO.move rfl rfl) ?_
          refine Ops_quiet _ rfl rfl (QO.bin rfl rfl rfl rfl) ?_
          refine Ops_quiet _ rfl rfl (QO.move rfl rfl) ?_
          refine Ops_case 40 rfl (fun g6 => ?_) (fun g6 => ?_)
          ·replace ho2 := cond_t ho2 g6
           refine Ops_quiet _ rfl rfl (QO.move rfl rfl) ?_
           refine Ops_quiet _ rfl rfl (QO.move rfl rfl) ?_
           refine Ops_quiet _ rfl rfl (QO.bin rfl rfl rfl rfl) ?_
           refine Ops_quiet _ rfl rfl (QO.pick_t rfl rfl rfl) ?_
           refine Ops_nil ?_
           refine thenA_n ?_
           refine wpA_cond rfl (fun g7 => ?_) (fun g7 => ?_)
           ·replace ho2 := cond_t ho2 g7
            refine wpA_seq ?_
            refine wpA_seq ?_
            refine wpA_region ?_
            refine Ops_quiet _ rfl rfl (QO.move rfl rfl) ?_
            refine Ops_quiet _ rfl rfl (QO.move rfl rfl) ?_
            refine Ops_quiet _ rfl rfl (QO.fieldAt (fo := 1) rfl sz28 rfl rfl sz26 rfl rfl) ?_
            have hq := chk ho2; clear ho2; obtain ⟨ck3, ho2⟩ := hq
            refine Ops_quiet _ rfl rfl (QO.idxArr rfl sz26 sz24 rfl rfl (by omega) (by omega)) ?_
            have hq := chk ho2; clear ho2; obtain ⟨ck4, ho2⟩ := hq
            refine Ops_quiet _ rfl rfl (QO.idxArr rfl sz24 sz5 rfl rfl (by omega) (by omega)) ?_
            refine Ops_quiet _ rfl rfl (QO.load rfl sz5 rfl rfl (by (refine (rd_own (upd_same _ _ _) _).trans ?_); exact sqC_get (by omega) (by omega))) ?_
            refine Ops_quiet _ rfl rfl (QO.conv rfl sz5 sz3 rfl) ?_
            refine Ops_quiet _ rfl rfl (QO.move rfl rfl) ?_
            refine Ops_quiet _ rfl rfl (QO.bin rfl rfl rfl rfl) ?_
            refine Ops_quiet _ rfl rfl (QO.move rfl rfl) ?_
            refine Ops_case 54 rfl (fun g8 => ?_) (fun g8 => ?_)
            ·replace ho2 := cond_t ho2 g8
             refine Ops_skip rfl rfl ?_
             refine Ops_skip rfl rfl ?_
             refine Ops_skip rfl rfl ?_
             refine Ops_skip rfl rfl ?_
             refine Ops_skip rfl rfl ?_
             refine Ops_skip rfl rfl ?_
             refine Ops_skip rfl rfl ?_
             refine Ops_skip rfl rfl ?_
             refine Ops_skip rfl rfl ?_
             refine Ops_quiet _ rfl rfl (QO.pick_t rfl rfl rfl) ?_
             refine Ops_nil ?_
             refine thenA_n ?_
             refine wpA_cond_t rfl ?_
             refine wpA_seq ?_
             refine wpA_region ?_
             refine Ops_quiet _ rfl rfl (QO.assign rfl rfl) ?_
             refine Ops_nil ?_
             refine thenA_n ?_
             refine wpA_ret ?_
             refine thenA_r ?_
             refine blockA_r ?_
             refine thenA_r ?_
             refine thenA_r ?_
             obtain rfl := Option.some.inj ho2
             obtain rfl := Option.some.inj hk2
             exact ⟨rfl, (Sub.cons rfl Sub.nil), (Le.under (Le.refl _) hb1)⟩
            ·replace ho2 := cond_f ho2 g8
             refine Ops_quiet _ rfl rfl (QO.move rfl rfl) ?_
             refine Ops_quiet _ rfl rfl (QO.move rfl rfl) ?_
             refine Ops_quiet _ rfl rfl (QO.fieldAt (fo := 1) rfl sz28 rfl rfl sz26 rfl rfl) ?_
             have hq := chk ho2; clear ho2; obtain ⟨ck5, ho2⟩ := hq
             refine Ops_quiet _ rfl rfl (QO.idxArr rfl sz26 sz24 rfl rfl (by omega) (by omega)) ?_
             have hq := chk ho2; clear ho2; obtain ⟨ck6, ho2⟩ := hq
             refine Ops_quiet _ rfl rfl (QO.idxArr rfl sz24 sz5 rfl rfl (by omega) (by omega)) ?_
             refine Ops_quiet _ rfl rfl (QO.load rfl sz5 rfl rfl (by (refine (rd_own (upd_same _ _ _) _).trans ?_); exact sqC_get (by omega) (by omega))) ?_
             refine Ops_quiet _ rfl rfl (QO.conv rfl sz5 sz3 rfl) ?_
             refine Ops_quiet _ rfl rfl (QO.move rfl rfl) ?_
             refine Ops_quiet _ rfl rfl (QO.bin rfl rfl rfl rfl) ?_
             refine Ops_quiet _ rfl rfl (QO.pick_f rfl rfl rfl) ?_
             refine Ops_nil ?_
             refine thenA_n ?_
             refine wpA_cond rfl (fun g9 => ?_) (fun g9 => ?_)
             ·replace ho2 := cond_t ho2 g9
              refine wpA_seq ?_
              refine wpA_region ?_
              refine Ops_quiet _ rfl rfl (QO.assign rfl rfl) ?_
              refine Ops_nil ?_
              refine thenA_n ?_
              refine wpA_ret ?_
              refine thenA_r ?_
              refine blockA_r ?_
              refine thenA_r ?_
              refine thenA_r ?_
              obtain rfl := Option.some.inj ho2
              obtain rfl := Option.some.inj hk2
              exact ⟨rfl, (Sub.cons rfl Sub.nil), (Le.under (Le.refl _) hb1)⟩
             ·replace ho2 := cond_f ho2 g9
              refine wpA_skip ?_
              refine thenA_n ?_
              refine wpA_seq ?_
              refine wpA_region ?_
              refine Ops_quiet _ rfl rfl (QO.move rfl rfl) ?_
              refine Ops_quiet _ rfl rfl (QO.move rfl rfl) ?_
              refine Ops_quiet _ rfl rfl (QO.move rfl rfl) ?_
              refine Ops_quiet _ rfl rfl (QO.fieldAt (fo := 1) rfl sz28 rfl rfl sz26 rfl rfl) ?_
              have hq := chk ho2; clear ho2; obtain ⟨ck7, ho2⟩ := hq
              refine Ops_quiet _ rfl rfl (QO.idxArr rfl sz26 sz24 rfl rfl (by omega) (by omega)) ?_
              have hq := chk ho2; clear ho2; obtain ⟨ck8, ho2⟩ := hq
              refine Ops_quiet _ rfl rfl (QO.idxArr rfl sz24 sz5 rfl rfl (by omega) (by omega)) ?_
              refine Ops_quiet _ rfl rfl (QO.load rfl sz5 rfl rfl (by (refine (rd_own (upd_same _ _ _) _).trans ?_); exact sqC_get (by omega) (by omega))) ?_
              have hq := chk ho2; clear ho2; obtain ⟨ck9, ho2⟩ := hq
              refine Ops_quiet _ rfl rfl (QO.shl rfl rfl rfl (by first | assumption | omega)) ?_
              refine Ops_quiet _ rfl rfl (QO.bin rfl rfl rfl rfl) ?_
              refine Ops_quiet _ rfl rfl (QO.assign rfl rfl) ?_
              refine Ops_nil ?_
              refine thenA_n ?_
              refine wpA_region ?_
              refine Ops_quiet _ rfl rfl (QO.move rfl rfl) ?_
              refine Ops_quiet _ rfl rfl (QO.move rfl rfl) ?_
              refine Ops_quiet _ rfl rfl (QO.move rfl rfl) ?_
              refine Ops_quiet _ rfl rfl (QO.fieldAt (fo := 1) rfl sz28 rfl rfl sz26 rfl rfl) ?_
              have hq := chk ho2; clear ho2; obtain ⟨ck10, ho2⟩ := hq
              refine Ops_quiet _ rfl rfl (QO.idxArr rfl sz26 sz24 rfl rfl (by omega) (by omega)) ?_
              have hq := chk ho2; clear ho2; obtain ⟨ck11, ho2⟩ := hq
              refine Ops_quiet _ rfl rfl (QO.idxArr rfl sz24 sz5 rfl rfl (by omega) (by omega)) ?_
              refine Ops_quiet _ rfl rfl (QO.load rfl sz5 rfl rfl (by (refine (rd_own (upd_same _ _ _) _).trans ?_); exact sqC_get (by omega) (by omega))) ?_
              have hq := chk ho2; clear ho2; obtain ⟨ck12, ho2⟩ := hq
              refine Ops_quiet _ rfl rfl (QO.shl rfl rfl rfl (by first | assumption | omega)) ?_
              refine Ops_quiet _ rfl rfl (QO.bin rfl rfl rfl rfl) ?_
              refine Ops_quiet _ rfl rfl (QO.assign rfl rfl) ?_
              refine Ops_nil ?_
              refine blockA_n ?_
              refine thenA_n ?_
              refine wpA_region ?_
              refine Ops_quiet _ rfl rfl (QO.bin rfl rfl rfl rfl) ?_
              refine Ops_quiet _ rfl rfl (QO.move rfl rfl) ?_
              refine Ops_nil ?_
              obtain rfl := Option.some.inj ho2
              dsimp only at hk2
              exact thenA_n ⟨k2, Nat.lt_succ_self _, _, _, _, hk2, (Sub.cons rfl (Sub.cons rfl (Sub.cons rfl (Sub.cons rfl (Sub.cons rfl (Sub.cons rfl (Sub.cons rfl Sub.nil))))))), (Le.upd_left (Le.under (Le.refl _) hb1) (upd_same _ _ _) (by first | rfl | (simp; done)))⟩
           ·replace ho2 := cond_f ho2 g7
            refine wpA_skip ?_
            refine blockA_n ?_
            refine thenA_n ?_
            refine wpA_region ?_
            refine Ops_quiet _ rfl rfl (QO.bin rfl rfl rfl rfl) ?_
            refine Ops_quiet _ rfl rfl (QO.move rfl rfl) ?_
            refine Ops_nil ?_
            obtain rfl := Option.some.inj ho2
            dsimp only at hk2
            exact thenA_n ⟨k2, Nat.lt_succ_self _, _, _, _, hk2, (Sub.cons rfl (Sub.cons rfl (Sub.cons rfl (Sub.cons rfl (Sub.cons rfl (Sub.cons rfl (Sub.cons rfl Sub.nil))))))), (Le.upd_left (Le.under (Le.refl _) hb1) (upd_same _ _ _) (by first | rfl | (simp; done)))⟩
          ·replace ho2 := cond_f ho2 g6
           refine Ops_skip rfl rfl ?_
           refine Ops_skip rfl rfl ?_
           refine Ops_skip rfl rfl ?_
           refine Ops_quiet _ rfl rfl (QO.pick_f rfl rfl rfl) ?_
           refine Ops_nil ?_
           refine thenA_n ?_
           refine wpA_cond_f rfl ?_
           refine wpA_skip ?_
           refine blockA_n ?_
           refine thenA_n ?_
           refine wpA_region ?_
           refine Ops_quiet _ rfl rfl (QO.bin rfl rfl rfl rfl) ?_
           refine Ops_quiet _ rfl rfl (QO.move rfl rfl) ?_
           refine Ops_nil ?_
           obtain rfl := Option.some.inj ho2
           dsimp only at hk2
           exact thenA_n ⟨k2, Nat.lt_succ_self _, _, _, _, hk2, (Sub.cons rfl (Sub.cons rfl (Sub.cons rfl (Sub.cons rfl (Sub.cons rfl (Sub.cons rfl (Sub.cons rfl Sub.nil))))))), (Le.upd_left (Le.under (Le.refl _) hb1) (upd_same _ _ _) (by first | rfl | (simp; done)))⟩
        ·replace ho2 := cond_f ho2 g4
         refine Ops_quiet _ rfl rfl (QO.move rfl rfl) ?_
         refine Ops_quiet _ rfl rfl (QO.move rfl rfl) ?_
         refine Ops_quiet _ rfl rfl (QO.bin rfl rfl rfl rfl) ?_
         refine Ops_quiet _ rfl rfl (QO.pick_f rfl rfl rfl) ?_
         refine Ops_quiet _ rfl rfl (QO.move rfl rfl) ?_
         refine Ops_case 28 rfl (fun g10 => ?_) (fun g10 => ?_)
         ·replace ho2 := cond_t ho2 g10
          refine Ops_quiet _ rfl rfl (QO.move rfl rfl) ?_
          refine Ops_quiet _ rfl rfl (QO.move rfl rfl) ?_
          refine Ops_quiet _ rfl rfl (QO.fieldAt (fo := 1) rfl sz28 rfl rfl sz26 rfl rfl) ?_
          have hq := chk ho2; clear ho2; obtain ⟨ck13, ho2⟩ := hq
          refine Ops_quiet _ rfl rfl (QO.idxArr rfl sz26 sz24 rfl rfl (by omega) (by omega)) ?_
          have hq := chk ho2; clear ho2; obtain ⟨ck14, ho2⟩ := hq
          refine Ops_quiet _ rfl rfl (QO.idxArr rfl sz24 sz5 rfl rfl (by omega) (by omega)) ?_
          refine Ops_quiet _ rfl rfl (QO.load rfl sz5 rfl rfl (by (refine (rd_own (upd_same _ _ _) _).trans ?_); exact sqC_get (by omega) (by omega))) ?_
          refine Ops_quiet _ rfl rfl (QO.bin rfl rfl rfl rfl) ?_
          refine Ops_quiet _ rfl rfl (QO.pick_t rfl rfl rfl) ?_
          refine Ops_nil ?_
          refine thenA_n ?_
          refine wpA_cond rfl (fun g11 => ?_) (fun g11 => ?_)
          ·replace ho2 := cond_t ho2 g11
           refine wpA_seq ?_
           refine wpA_region ?_
           refine Ops_quiet _ rfl rfl (QO.assign rfl rfl) ?_
           refine Ops_nil ?_
           refine thenA_n ?_
           refine wpA_ret ?_
           refine thenA_r ?_
           refine blockA_r ?_
           refine thenA_r ?_
           refine thenA_r ?_
           obtain rfl := Option.some.inj ho2
           obtain rfl := Option.some.inj hk2
           exact ⟨rfl, (Sub.cons rfl Sub.nil), (Le.under (Le.refl _) hb1)⟩
          ·replace ho2 := cond_f ho2 g11
           refine wpA_skip ?_
           refine thenA_n ?_
           refine wpA_seq ?_
           refine wpA_region ?_
           refine Ops_quiet _ rfl rfl (QO.move rfl rfl) ?_
           refine Ops_quiet _ rfl rfl (QO.move rfl rfl) ?_
           refine Ops_quiet _ rfl rfl (QO.bin rfl rfl rfl rfl) ?_
           refine Ops_quiet _ rfl rfl (QO.move rfl rfl) ?_
           refine Ops_case 40 rfl (fun g12 => ?_) (fun g12 => ?_)
           ·replace ho2 := cond_t ho2 g12
            refine Ops_quiet _ rfl rfl (QO.move rfl rfl) ?_
            refine Ops_quiet _ rfl rfl (QO.move rfl rfl) ?_
            refine Ops_quiet _ rfl rfl (QO.bin rfl rfl rfl rfl) ?_
            refine Ops_quiet _ rfl rfl (QO.pick_t rfl rfl rfl) ?_
            refine Ops_nil ?_
            refine thenA_n ?_
            refine wpA_cond rfl (fun g13 => ?_) (fun g13 => ?_)
            ·replace ho2 := cond_t ho2 g13
             refine wpA_seq ?_
             refine wpA_seq ?_
             refine wpA_region ?_
             refine Ops_quiet _ rfl rfl (QO.move rfl rfl) ?_
             refine Ops_quiet _ rfl rfl (QO.move rfl rfl) ?_
             refine Ops_quiet _ rfl rfl (QO.fieldAt (fo := 1) rfl sz28 rfl rfl sz26 rfl rfl) ?_
             have hq := chk ho2; clear ho2; obtain ⟨ck15, ho2⟩ := hq
             refine Ops_quiet _ rfl rfl (QO.idxArr rfl sz26 sz24 rfl rfl (by omega) (by omega)) ?_
             have hq := chk ho2; clear ho2; obtain ⟨ck16, ho2⟩ := hq
             refine Ops_quiet _ rfl rfl (QO.idxArr rfl sz24 sz5 rfl rfl (by omega) (by omega)) ?_
             refine Ops_quiet _ rfl rfl (QO.load rfl sz5 rfl rfl (by (refine (rd_own (upd_same _ _ _) _).trans ?_); exact sqC_get (by omega) (by omega))) ?_
             refine Ops_quiet _ rfl rfl (QO.conv rfl sz5 sz3 rfl) ?_
             refine Ops_quiet _ rfl rfl (QO.move rfl rfl) ?_
             refine Ops_quiet _ rfl rfl (QO.bin rfl rfl rfl rfl) ?_
             refine Ops_quiet _ rfl rfl (QO.move rfl rfl) ?_
             refine Ops_case 54 rfl (fun g14 => ?_) (fun g14 => ?_)
             ·replace ho2 := cond_t ho2 g14
              refine Ops_skip rfl rfl ?_
              refine Ops_skip rfl rfl ?_
              refine Ops_skip rfl rfl ?_
              refine Ops_skip rfl rfl ?_
              refine Ops_skip rfl rfl ?_
              refine Ops_skip rfl rfl ?_
              refine Ops_skip rfl rfl ?_
              refine Ops_skip rfl rfl ?_
              refine Ops_skip rfl rfl ?_
              refine Ops_quiet _ rfl rfl (QO.pick_t rfl rfl rfl) ?_
              refine Ops_nil ?_
              refine thenA_n ?_
              refine wpA_cond_t rfl ?_
              refine wpA_seq ?_
              refine wpA_region ?_
              refine Ops_quiet _ rfl rfl (QO.assign rfl rfl) ?_
              refine Ops_nil ?_
              refine thenA_n ?_
              refine wpA_ret ?_
              refine thenA_r ?_
              refine blockA_r ?_
              refine thenA_r ?_
              refine thenA_r ?_
              obtain rfl := Option.some.inj ho2
              obtain rfl := Option.some.inj hk2
              exact ⟨rfl, (Sub.cons rfl Sub.nil), (Le.under (Le.refl _) hb1)⟩
             ·replace ho2 := cond_f ho2 g14
              refine Ops_quiet _ rfl rfl (QO.move rfl rfl) ?_
              refine Ops_quiet _ rfl rfl (QO.move rfl rfl) ?_
              refine Ops_quiet _ rfl rfl (QO.fieldAt (fo := 1) rfl sz28 rfl rfl sz26 rfl rfl) ?_
              have hq := chk ho2; clear ho2; obtain ⟨ck17, ho2⟩ := hq
              refine Ops_quiet _ rfl rfl (QO.idxArr rfl sz26 sz24 rfl rfl (by omega) (by omega)) ?_
              have hq := chk ho2; clear ho2; obtain ⟨ck18, ho2⟩ := hq
              refine Ops_quiet _ rfl rfl (QO.idxArr rfl sz24 sz5 rfl rfl (by omega) (by omega)) ?_
              refine Ops_quiet _ rfl rfl (QO.load rfl sz5 rfl rfl (by (refine (rd_own (upd_same _ _ _) _).trans ?_); exact sqC_get (by omega) (by omega))) ?_
              refine Ops_quiet _ rfl rfl (QO.conv rfl sz5 sz3 rfl) ?_
              refine Ops_quiet _ rfl rfl (QO.move rfl rfl) ?_
              refine Ops_quiet _ rfl rfl (QO.bin rfl rfl rfl rfl) ?_
              refine Ops_quiet _ rfl rfl (QO.pick_f rfl rfl rfl) ?_
              refine Ops_nil ?_
              refine thenA_n ?_
              refine wpA_cond rfl (fun g15 => ?_) (fun g15 => ?_)
              ·replace ho2 := cond_t ho2 g15
               refine wpA_seq ?_
               refine wpA_region ?_
               refine Ops_quiet _ rfl rfl (QO.assign rfl rfl) ?_
               refine Ops_nil ?_
               refine thenA_n ?_
               refine wpA_ret ?_
               refine thenA_r ?_
               refine blockA_r ?_
               refine thenA_r ?_
               refine thenA_r ?_
               obtain rfl := Option.some.inj ho2
               obtain rfl := Option.some.inj hk2
               exact ⟨rfl, (Sub.cons rfl Sub.nil), (Le.under (Le.refl _) hb1)⟩
              ·replace ho2 := cond_f ho2 g15
               refine wpA_skip ?_
               refine thenA_n ?_
               refine wpA_seq ?_
               refine wpA_region ?_
               refine Ops_quiet _ rfl rfl (QO.move rfl rfl) ?_
               refine Ops_quiet _ rfl rfl (QO.move rfl rfl) ?_
               refine Ops_quiet _ rfl rfl (QO.move rfl rfl) ?_
               refine Ops_quiet _ rfl rfl (QO.fieldAt (fo := 1) rfl sz28 rfl rfl sz26 rfl rfl) ?_
               have hq := chk ho2; clear ho2; obtain ⟨ck19, ho2⟩ := hq
               refine Ops_quiet _ rfl rfl (QO.idxArr rfl sz26 sz24 rfl rfl (by omega) (by omega)) ?_
               have hq := chk ho2; clear ho2; obtain ⟨ck20, ho2⟩ := hq
               refine Ops_quiet _ rfl rfl (QO.idxArr rfl sz24 sz5 rfl rfl (by omega) (by omega)) ?_
               refine Ops_quiet _ rfl rfl (QO.load rfl sz5 rfl rfl (by (refine (rd_own (upd_same _ _ _) _).trans ?_); exact sqC_get (by omega) (by omega))) ?_
               have hq := chk ho2; clear ho2; obtain ⟨ck21, ho2⟩ := hq
               refine Ops_quiet _ rfl rfl (QO.shl rfl rfl rfl (by first | assumption | omega)) ?_
               refine Ops_quiet _ rfl rfl (QO.bin rfl rfl rfl rfl) ?_
               refine Ops_quiet _ rfl rfl (QO.assign rfl rfl) ?_
               refine Ops_nil ?_
               refine thenA_n ?_
               refine wpA_region ?_
               refine Ops_quiet _ rfl rfl (QO.move rfl rfl) ?_
               refine Ops_quiet _ rfl rfl (QO.move rfl rfl) ?_
               refine Ops_quiet _ rfl rfl (QO.move rfl rfl) ?_
               refine Ops_quiet _ rfl rfl (QO.fieldAt (fo := 1) rfl sz28 rfl rfl sz26 rfl rfl) ?_
               have hq := chk ho2; clear ho2; obtain ⟨ck22, ho2⟩ := hq
               refine Ops_quiet _ rfl rfl (QO.idxArr rfl sz26 sz24 rfl rfl (by omega) (by omega)) ?_
               have hq := chk ho2; clear ho2; obtain ⟨ck23, ho2⟩ := hq
               refine Ops_quiet _ rfl rfl (QO.idxArr rfl sz24 sz5 rfl rfl (by omega) (by omega)) ?_
               refine Ops_quiet _ rfl rfl (QO.load rfl sz5 rfl rfl (by (refine (rd_own (upd_same _ _ _) _).trans ?_); exact sqC_get (by omega) (by omega))) ?_
               have hq := chk ho2; clear ho2; obtain ⟨ck24, ho2⟩ := hq
               refine Ops_quiet _ rfl rfl (QO.shl rfl rfl rfl (by first | assumption | omega)) ?_
               refine Ops_quiet _ rfl rfl (QO.bin rfl rfl rfl rfl) ?_
               refine Ops_quiet _ rfl rfl (QO.assign rfl rfl) ?_
               refine Ops_nil ?_
               refine blockA_n ?_
               refine thenA_n ?_
               refine wpA_region ?_
               refine Ops_quiet _ rfl rfl (QO.bin rfl rfl rfl rfl) ?_
               refine Ops_quiet _ rfl rfl (QO.move rfl rfl) ?_
               refine Ops_nil ?_
               obtain rfl := Option.some.inj ho2
               dsimp only at hk2
               exact thenA_n ⟨k2, Nat.lt_succ_self _, _, _, _, hk2, (Sub.cons rfl (Sub.cons rfl (Sub.cons rfl (Sub.cons rfl (Sub.cons rfl (Sub.cons rfl (Sub.cons rfl Sub.nil))))))), (Le.upd_left (Le.under (Le.refl _) hb1) (upd_same _ _ _) (by first | rfl | (simp; done)))⟩
            ·replace ho2 := cond_f ho2 g13
             refine wpA_skip ?_
             refine blockA_n ?_
             refine thenA_n ?_
             refine wpA_region ?_
             refine Ops_quiet _ rfl rfl (QO.bin rfl rfl rfl rfl) ?_
             refine Ops_quiet _ rfl rfl (QO.move rfl rfl) ?_
             refine Ops_nil ?_
             obtain rfl := Option.some.inj ho2
             dsimp only at hk2
             exact thenA_n ⟨k2, Nat.lt_succ_self _, _, _, _, hk2, (Sub.cons rfl (Sub.cons rfl (Sub.cons rfl (Sub.cons rfl (Sub.cons rfl (Sub.cons rfl (Sub.cons rfl Sub.nil))))))), (Le.upd_left (Le.under (Le.refl _) hb1) (upd_same _ _ _) (by first | rfl | (simp; done)))⟩
           ·replace ho2 := cond_f ho2 g12
            refine Ops_skip rfl rfl ?_
            refine Ops_skip rfl rfl ?_
            refine Ops_skip rfl rfl ?_
            refine Ops_quiet _ rfl rfl (QO.pick_f rfl rfl rfl) ?_
            refine Ops_nil ?_
            refine thenA_n ?_
            refine wpA_cond_f rfl ?_
            refine wpA_skip ?_
            refine blockA_n ?_
            refine thenA_n ?_
            refine wpA_region ?_
            refine Ops_quiet _ rfl rfl (QO.bin rfl rfl rfl rfl) ?_
            refine Ops_quiet _ rfl rfl (QO.move rfl rfl) ?_
            refine Ops_nil ?_
            obtain rfl := Option.some.inj ho2
            dsimp only at hk2
            exact thenA_n ⟨k2, Nat.lt_succ_self _, _, _, _, hk2, (Sub.cons rfl (Sub.cons rfl (Sub.cons rfl (Sub.cons rfl (Sub.cons rfl (Sub.cons rfl (Sub.cons rfl Sub.nil))))))), (Le.upd_left (Le.under (Le.refl _) hb1) (upd_same _ _ _) (by first | rfl | (simp; done)))⟩
         ·replace ho2 := cond_f ho2 g10
          refine Ops_skip rfl rfl ?_
          refine Ops_skip rfl rfl ?_
          refine Ops_skip rfl rfl ?_
          refine Ops_skip rfl rfl ?_
          refine Ops_skip rfl rfl ?_
          refine Ops_skip rfl rfl ?_
          refine Ops_skip rfl rfl ?_
          refine Ops_quiet _ rfl rfl (QO.pick_f rfl rfl rfl) ?_
          refine Ops_nil ?_
          refine thenA_n ?_
          refine wpA_cond_f rfl ?_
          refine wpA_skip ?_
          refine thenA_n ?_
          refine wpA_seq ?_
          refine wpA_region ?_
          refine Ops_quiet _ rfl rfl (QO.move rfl rfl) ?_
          refine Ops_quiet _ rfl rfl (QO.move rfl rfl) ?_
          refine Ops_quiet _ rfl rfl (QO.bin rfl rfl rfl rfl) ?_
          refine Ops_quiet _ rfl rfl (QO.move rfl rfl) ?_
          refine Ops_case 40 rfl (fun g16 => ?_) (fun g16 => ?_)
          ·replace ho2 := cond_t ho2 g16
           refine Ops_quiet _ rfl rfl (QO.move rfl rfl) ?_
           refine Ops_quiet _ rfl rfl (QO.move rfl rfl) ?_
           refine Ops_quiet _ rfl rfl (QO.bin rfl rfl rfl rfl) ?_
           refine Ops_quiet _ rfl rfl (QO.pick_t rfl rfl rfl) ?_
           refine Ops_nil ?_
           refine thenA_n ?_
           refine wpA_cond rfl (fun g17 => ?_) (fun g17 => ?_)
           ·replace ho2 := cond_t ho2 g17
            refine wpA_seq ?_
            refine wpA_seq ?_
            refine wpA_region ?_
            refine Ops_quiet _ rfl rfl (QO.move rfl rfl) ?_
            refine Ops_quiet _ rfl rfl (QO.move rfl rfl) ?_
            refine Ops_quiet _ rfl rfl (QO.fieldAt (fo := 1) rfl sz28 rfl rfl sz26 rfl rfl) ?_
            have hq := chk ho2; clear ho2; obtain ⟨ck25, ho2⟩ := hq
            refine Ops_quiet _ rfl rfl (QO.idxArr rfl sz26 sz24 rfl rfl (by omega) (by omega)) ?_
            have hq := chk ho2; clear ho2; obtain ⟨ck26, ho2⟩ := hq
            refine Ops_quiet _ rfl rfl (QO.idxArr rfl sz24 sz5 rfl rfl (by omega) (by omega)) ?_
            refine Ops_quiet _ rfl rfl (QO.load rfl sz5 rfl rfl (by (refine (rd_own (upd_same _ _ _) _).trans ?_); exact sqC_get (by omega) (by omega))) ?_
            refine Ops_quiet _ rfl rfl (QO.conv rfl sz5 sz3 rfl) ?_
            refine Ops_quiet _ rfl rfl (QO.move rfl rfl) ?_
            refine Ops_quiet _ rfl rfl (QO.bin rfl rfl rfl rfl) ?_
            refine Ops_quiet _ rfl rfl (QO.move rfl rfl) ?_
            refine Ops_case 54 rfl (fun g18 => ?_) (fun g18 => ?_)
            ·replace ho2 := cond_t ho2 g18
             refine Ops_skip rfl rfl ?_
             refine Ops_skip rfl rfl ?_
             refine Ops_skip rfl rfl ?_
             refine Ops_skip rfl rfl ?_
             refine Ops_skip rfl rfl ?_
             refine Ops_skip rfl rfl ?_
             refine Ops_skip rfl rfl ?_
             refine Ops_skip rfl rfl ?_
             refine Ops_skip rfl rfl ?_
             refine Ops_quiet _ rfl rfl (QO.pick_t rfl rfl rfl) ?_
             refine Ops_nil ?_
             refine thenA_n ?_
             refine wpA_cond_t rfl ?_
             refine wpA_seq ?_
             refine wpA_region ?_
             refine Ops_quiet _ rfl rfl (QO.assign rfl rfl) ?_
             refine Ops_nil ?_
             refine thenA_n ?_
             refine wpA_ret ?_
             refine thenA_r ?_
             refine blockA_r ?_
             refine thenA_r ?_
             refine thenA_r ?_
             obtain rfl := Option.some.inj ho2
             obtain rfl := Option.some.inj hk2
             exact ⟨rfl, (Sub.cons rfl Sub.nil), (Le.under (Le.refl _) hb1)⟩
            ·replace ho2 := cond_f ho2 g18
             refine Ops_quiet _ rfl rfl (QO.move rfl rfl) ?_
             refine Ops_quiet _ rfl rfl (QO.move rfl rfl) ?_
             refine Ops_quiet _ rfl rfl (QO.fieldAt (fo := 1) rfl sz28 rfl rfl sz26 rfl rfl) ?_
             have hq := chk ho2; clear ho2; obtain ⟨ck27, ho2⟩ := hq
             refine Ops_quiet _ rfl rfl (QO.idxArr rfl sz26 sz24 rfl rfl (by omega) (by omega)) ?_
             have hq := chk ho2; clear ho2; obtain ⟨ck28, ho2⟩ := hq
             refine Ops_quiet _ rfl rfl (QO.idxArr rfl sz24 sz5 rfl rfl (by omega) (by omega)) ?_
             refine Ops_quiet _ rfl rfl (QO.load rfl sz5 rfl rfl (by (refine (rd_own (upd_same _ _ _) _).trans ?_); exact sqC_get (by omega) (by omega))) ?_
             refine Ops_quiet _ rfl rfl (QO.conv rfl sz5 sz3 rfl) ?_
             refine Ops_quiet _ rfl rfl (QO.move rfl rfl) ?_
             refine Ops_quiet _ rfl rfl (QO.bin rfl rfl rfl rfl) ?_
             refine Ops_quiet _ rfl rfl (QO.pick_f rfl rfl rfl) ?_
             refine Ops_nil ?_
             refine thenA_n ?_
             refine wpA_cond rfl (fun g19 => ?_) (fun g19 => ?_)
             ·replace ho2 := cond_t ho2 g19
              refine wpA_seq ?_
              refine wpA_region ?_
              refine Ops_quiet _ rfl rfl (QO.assign rfl rfl) ?_
              refine Ops_nil ?_
              refine thenA_n ?_
              refine wpA_ret ?_
              refine thenA_r ?_
              refine blockA_r ?_
              refine thenA_r ?_
              refine thenA_r ?_
              obtain rfl := Option.some.inj ho2
              obtain rfl := Option.some.inj hk2
              exact ⟨rfl, (Sub.cons rfl Sub.nil), (Le.under (Le.refl _) hb1)⟩
             ·replace ho2 := cond_f ho2 g19
              refine wpA_skip ?_
              refine thenA_n ?_
              refine wpA_seq ?_
              refine wpA_region ?_
              refine Ops_quiet _ rfl rfl (QO.move rfl rfl) ?_
              refine Ops_quiet _ rfl rfl (QO.move rfl rfl) ?_
              refine Ops_quiet _ rfl rfl (QO.move rfl rfl) ?_
              refine Ops_quiet _ rfl rfl (QO.fieldAt (fo := 1) rfl sz28 rfl rfl sz26 rfl rfl) ?_
              have hq := chk ho2; clear ho2; obtain ⟨ck29, ho2⟩ := hq
              refine Ops_quiet _ rfl rfl (QO.idxArr rfl sz26 sz24 rfl rfl (by omega) (by omega)) ?_
              have hq := chk ho2; clear ho2; obtain ⟨ck30, ho2⟩ := hq
              refine Ops_quiet _ rfl rfl (QO.idxArr rfl sz24 sz5 rfl rfl (by omega) (by omega)) ?_
              refine Ops_quiet _ rfl rfl (QO.load rfl sz5 rfl rfl (by (refine (rd_own (upd_same _ _ _) _).trans ?_); exact sqC_get (by omega) (by omega))) ?_
              have hq := chk ho2; clear ho2; obtain ⟨ck31, ho2⟩ := hq
              refine Ops_quiet _ rfl rfl (QO.shl rfl rfl rfl (by first | assumption | omega)) ?_
              refine Ops_quiet _ rfl rfl (QO.bin rfl rfl rfl rfl) ?_
              refine Ops_quiet _ rfl rfl (QO.assign rfl rfl) ?_
              refine Ops_nil ?_
              refine thenA_n ?_
              refine wpA_region ?_
              refine Ops_quiet _ rfl rfl (QO.move rfl rfl) ?_
              refine Ops_quiet _ rfl rfl (QO.move rfl rfl) ?_
              refine Ops_quiet _ rfl rfl (QO.move rfl rfl) ?_
              refine Ops_quiet _ rfl rfl (QO.fieldAt (fo := 1) rfl sz28 rfl rfl sz26 rfl rfl) ?_
              have hq := chk ho2; clear ho2; obtain ⟨ck32, ho2⟩ := hq
              refine Ops_quiet _ rfl rfl (QO.idxArr rfl sz26 sz24 rfl rfl (by omega) (by omega)) ?_
              have hq := chk ho2; clear ho2; obtain ⟨ck33, ho2⟩ := hq
              refine Ops_quiet _ rfl rfl (QO.idxArr rfl sz24 sz5 rfl rfl (by omega) (by omega)) ?_
              refine Ops_quiet _ rfl rfl (QO.load rfl sz5 rfl rfl (by (refine (rd_own (upd_same _ _ _) _).trans ?_); exact sqC_get (by omega) (by omega))) ?_
              have hq := chk ho2; clear ho2; obtain ⟨ck34, ho2⟩ := hq
              refine Ops_quiet _ rfl rfl (QO.shl rfl rfl rfl (by first | assumption | omega)) ?_
              refine Ops_quiet _ rfl rfl (QO.bin rfl rfl rfl rfl) ?_
              refine Ops_quiet _ rfl rfl (QO.assign rfl rfl) ?_
              refine Ops_nil ?_
              refine blockA_n ?_
              refine thenA_n ?_
              refine wpA_region ?_
              refine Ops_quiet _ rfl rfl (QO.bin rfl rfl rfl rfl) ?_
              refine Ops_quiet _ rfl rfl (QO.move rfl rfl) ?_
              refine Ops_nil ?_
              obtain rfl := Option.some.inj ho2
              dsimp only at hk2
              exact thenA_n ⟨k2, Nat.lt_succ_self _, _, _, _, hk2, (Sub.cons rfl (Sub.cons rfl (Sub.cons rfl (Sub.cons rfl (Sub.cons rfl (Sub.cons rfl (Sub.cons rfl Sub.nil))))))), (Le.upd_left (Le.under (Le.refl _) hb1) (upd_same _ _ _) (by first | rfl | (simp; done)))⟩
           ·replace ho2 := cond_f ho2 g17
            refine wpA_skip ?_
            refine blockA_n ?_
            refine thenA_n ?_
            refine wpA_region ?_
            refine Ops_quiet _ rfl rfl (QO.bin rfl rfl rfl rfl) ?_
            refine Ops_quiet _ rfl rfl (QO.move rfl rfl) ?_
            refine Ops_nil ?_
            obtain rfl := Option.some.inj ho2
            dsimp only at hk2
            exact thenA_n ⟨k2, Nat.lt_succ_self _, _, _, _, hk2, (Sub.cons rfl (Sub.cons rfl (Sub.cons rfl (Sub.cons rfl (Sub.cons rfl (Sub.cons rfl (Sub.cons rfl Sub.nil))))))), (Le.upd_left (Le.under (Le.refl _) hb1) (upd_same _ _ _) (by first | rfl | (simp; done)))⟩
          ·replace ho2 := cond_f ho2 g16
           refine Ops_skip rfl rfl ?_
           refine Ops_skip rfl rfl ?_
           refine Ops_skip rfl rfl ?_
           refine Ops_quiet _ rfl rfl (QO.pick_f rfl rfl rfl) ?_
           refine Ops_nil ?_
           refine thenA_n ?_
           refine wpA_cond_f rfl ?_
           refine wpA_skip ?_
           refine blockA_n ?_
           refine thenA_n ?_
           refine wpA_region ?_
           refine Ops_quiet _ rfl rfl (QO.bin rfl rfl rfl rfl) ?_
           refine Ops_quiet _ rfl rfl (QO.move rfl rfl) ?_
           refine Ops_nil ?_
           obtain rfl := Option.some.inj ho2
           dsimp only at hk2
           exact thenA_n ⟨k2, Nat.lt_succ_self _, _, _, _, hk2, (Sub.cons rfl (Sub.cons rfl (Sub.cons rfl (Sub.cons rfl (Sub.cons rfl (Sub.cons rfl (Sub.cons rfl Sub.nil))))))), (Le.upd_left (Le.under (Le.refl _) hb1) (upd_same _ _ _) (by first | rfl | (simp; done)))⟩
       ·replace ho2 := cond_f ho2 g3
        refine wpA_exit ?_
        refine thenA_e ?_
        refine thenA_e ?_
        obtain rfl := Option.some.inj ho2
        obtain rfl := Option.some.inj hk2
        exact ⟨rfl, _, _, _, rfl, (Sub.cons rfl (Sub.cons rfl (Sub.cons rfl (Sub.cons rfl (Sub.cons rfl (Sub.cons rfl (Sub.cons rfl Sub.nil))))))), (Le.upd_left (Le.under (Le.refl _) hb1) (upd_same _ _ _) (by first | rfl | (simp; done)))⟩
     ·intro e s' h' hq
      cases R2 with
      | next x => exact hq.elim
      | ret r =>
       obtain ⟨rfl, hsub1, hle1⟩ := hq
       try dsimp only at ho1
       refine blockA_r ?_
       refine thenA_r ?_
       refine blockA_r ?_
       refine thenA_r ?_
       refine thenA_r ?_
       obtain rfl := Option.some.inj ho1
       obtain rfl := Option.some.inj hk1
       exact ⟨rfl, (Sub.trans hsub1 (Sub.cons rfl Sub.nil)), (Le.trans (Le.refl _) hle1)⟩
      | stop x id =>
       obtain ⟨rfl, x5, x6, x7, rfl, hsub2, hle2⟩ := hq
       try dsimp only at ho1
       by_cases hid1 : id = 2
       ·subst hid1
        rw [if_pos rfl] at ho1
        refine blockA_s ?_
        refine thenA_n ?_
        refine wpA_weaken hsub2.ok hle2 ?_
        refine wpA_seq ?_
        refine wpA_region ?_
        refine Ops_quiet _ rfl rfl (QO.move rfl rfl) ?_
        refine Ops_quiet _ rfl rfl (QO.move rfl rfl) ?_
        refine Ops_quiet _ rfl rfl (QO.bin rfl rfl rfl rfl) ?_
        refine Ops_quiet _ rfl rfl (QO.move rfl rfl) ?_
        refine Ops_case 87 rfl (fun g20 => ?_) (fun g20 => ?_)
        ·replace ho1 := cond_t ho1 g20
         refine Ops_quiet _ rfl rfl (QO.move rfl rfl) ?_
         refine Ops_quiet _ rfl rfl (QO.move rfl rfl) ?_
         have hq := chk ho1; clear ho1; obtain ⟨ck35, ho1⟩ := hq
         refine Ops_quiet _ rfl rfl (QO.shl rfl rfl rfl (by first | assumption | omega)) ?_
         refine Ops_quiet _ rfl rfl (QO.bin rfl rfl rfl rfl) ?_
         refine Ops_quiet _ rfl rfl (QO.bin rfl rfl rfl rfl) ?_
         refine Ops_quiet _ rfl rfl (QO.move rfl rfl) ?_
         refine Ops_case 93 rfl (fun g21 => ?_) (fun g21 => ?_)
         ·replace ho1 := cond_t ho1 g21
          refine Ops_skip rfl rfl ?_
          refine Ops_skip rfl rfl ?_
          refine Ops_skip rfl rfl ?_
          refine Ops_skip rfl rfl ?_
          refine Ops_skip rfl rfl ?_
          refine Ops_quiet _ rfl rfl (QO.pick_t rfl rfl rfl) ?_
          refine Ops_quiet _ rfl rfl (QO.pick_t rfl rfl rfl) ?_
          refine Ops_nil ?_
          refine thenA_n ?_
          refine wpA_cond_t rfl ?_
          refine wpA_seq ?_
          refine wpA_region ?_
          refine Ops_quiet _ rfl rfl (QO.assign rfl rfl) ?_
          refine Ops_nil ?_
          refine thenA_n ?_
          refine wpA_ret ?_
          refine blockA_r ?_
          refine thenA_r ?_
          refine thenA_r ?_
          obtain rfl := Option.some.inj ho1
          obtain rfl := Option.some.inj hk1
          exact ⟨rfl, (Sub.cons rfl Sub.nil), (Le.under (Le.refl _) hb1)⟩
         ·replace ho1 := cond_f ho1 g21
          refine Ops_quiet _ rfl rfl (QO.move rfl rfl) ?_
          refine Ops_quiet _ rfl rfl (QO.move rfl rfl) ?_
          have hq := chk ho1; clear ho1; obtain ⟨ck36, ho1⟩ := hq
          refine Ops_quiet _ rfl rfl (QO.shl rfl rfl rfl (by first | assumption | omega)) ?_
          refine Ops_quiet _ rfl rfl (QO.bin rfl rfl rfl rfl) ?_
          refine Ops_quiet _ rfl rfl (QO.bin rfl rfl rfl rfl) ?_
          refine Ops_quiet _ rfl rfl (QO.pick_f rfl rfl rfl) ?_
          refine Ops_quiet _ rfl rfl (QO.pick_t rfl rfl rfl) ?_
          refine Ops_nil ?_
          refine thenA_n ?_
          refine wpA_cond rfl (fun g22 => ?_) (fun g22 => ?_)
          ·replace ho1 := cond_t ho1 g22
           refine wpA_seq ?_
           refine wpA_region ?_
           refine Ops_quiet _ rfl rfl (QO.assign rfl rfl) ?_
           refine Ops_nil ?_
           refine thenA_n ?_
           refine wpA_ret ?_
           refine blockA_r ?_
           refine thenA_r ?_
           refine thenA_r ?_
           obtain rfl := Option.some.inj ho1
           obtain rfl := Option.some.inj hk1
           exact ⟨rfl, (Sub.cons rfl Sub.nil), (Le.under (Le.refl _) hb1)⟩
          ·replace ho1 := cond_f ho1 g22
           refine wpA_skip ?_
           refine blockA_n ?_
           refine thenA_n ?_
           refine wpA_region ?_
           refine Ops_quiet _ rfl rfl (QO.bin rfl rfl rfl rfl) ?_
           refine Ops_quiet _ rfl rfl (QO.move rfl rfl) ?_
           refine Ops_nil ?_
           obtain rfl := Option.some.inj ho1
           dsimp only at hk1
           exact thenA_n ⟨k1, Nat.lt_succ_self _, _, hk1, (Sub.cons rfl (Sub.cons rfl (Sub.cons rfl Sub.nil))), (Le.upd_left (Le.under (Le.refl _) hb1) (upd_same _ _ _) (by first | rfl | (simp; done)))⟩
        ·replace ho1 := cond_f ho1 g20
         refine Ops_skip rfl rfl ?_
         refine Ops_skip rfl rfl ?_
         refine Ops_skip rfl rfl ?_
         refine Ops_skip rfl rfl ?_
         refine Ops_skip rfl rfl ?_
         refine Ops_skip rfl rfl ?_
         refine Ops_skip rfl rfl ?_
         refine Ops_skip rfl rfl ?_
         refine Ops_skip rfl rfl ?_
         refine Ops_skip rfl rfl ?_
         refine Ops_skip rfl rfl ?_
         refine Ops_skip rfl rfl ?_
         refine Ops_quiet _ rfl rfl (QO.pick_f rfl rfl rfl) ?_
         refine Ops_nil ?_
         refine thenA_n ?_
         refine wpA_cond_f rfl ?_
         refine wpA_skip ?_
         refine blockA_n ?_
         refine thenA_n ?_
         refine wpA_region ?_
         refine Ops_quiet _ rfl rfl (QO.bin rfl rfl rfl rfl) ?_
         refine Ops_quiet _ rfl rfl (QO.move rfl rfl) ?_
         refine Ops_nil ?_
         obtain rfl := Option.some.inj ho1
         dsimp only at hk1
         exact thenA_n ⟨k1, Nat.lt_succ_self _, _, hk1, (Sub.cons rfl (Sub.cons rfl (Sub.cons rfl Sub.nil))), (Le.upd_left (Le.under (Le.refl _) hb1) (upd_same _ _ _) (by first | rfl | (simp; done)))⟩
       rw [if_neg hid1] at ho1
       exact absurd ho1 (by simp)
    ·replace ho1 := cond_f ho1 g2
     refine wpA_exit ?_
     refine thenA_e ?_
     refine thenA_e ?_
     obtain rfl := Option.some.inj ho1
     obtain rfl := Option.some.inj hk1
     exact ⟨rfl, _, rfl, (Sub.cons rfl (Sub.cons rfl (Sub.cons rfl Sub.nil))), (Le.upd_left (Le.under (Le.refl _) hb1) (upd_same _ _ _) (by first | rfl | (simp; done)))⟩
  ·intro e s' h' hq
   cases R1 with
   | next x => exact hq.elim
   | ret r =>
    obtain ⟨rfl, hsub3, hle3⟩ := hq
    try dsimp only at hm
    refine blockA_r ?_
    refine thenA_r ?_
    obtain rfl := Option.some.inj hm
    refine retA_sub hsub3.ok hle3 ?_
    exact retA_r (h2 := h) (Res.one rfl (rfl)) (Le.refl _) ⟨rfl, rfl⟩
   | stop x id =>
    obtain ⟨rfl, x8, rfl, hsub4, hle4⟩ := hq
    try dsimp only at hm
    by_cases hid2 : id = 0
    ·subst hid2
     rw [if_pos rfl] at hm
     refine blockA_s ?_
     refine thenA_n ?_
     refine wpA_weaken hsub4.ok hle4 ?_
     refine wpA_seq ?_
     refine wpA_region ?_
     refine Ops_quiet _ rfl rfl (QO.assign rfl rfl) ?_
     refine Ops_nil ?_
     refine thenA_n ?_
     refine wpA_ret ?_
     obtain rfl := Option.some.inj hm
     exact retA_r (h2 := h) (Res.one rfl (rfl)) (Le.under (Le.refl _) hb1) ⟨rfl, rfl⟩
    rw [if_neg hid2] at hm
    exact absurd hm (by simp)

/-! (loop.example/g01195/impl.Square).has -/
theorem c_impl_Square_has {a0 : Sq} {l1 : (List Int)} {A1 : Option Addr} {c1 : Nat} {h : Hp} {r : Bool} (hm : m_impl_Square_has a0 l1 = some r) (hs1 : RdS h A1 (ints .u8 l1)) :
    QC Try.prog 61 #[.agg (sqC a0).toArray, .slice A1 l1.length c1] h (.bool r) := by
 unfold m_impl_Square_has at hm
 refine CC.enter Try.func61 rfl Try.ntmps61 rfl ?_
 refine wpA_seq ?_
 refine wpA_region ?_
 refine Ops_loud rfl (LO.boxAgg rfl rfl rfl (fun b1 hb1 => ?_))
 refine Ops_quiet _ rfl rfl (QO.assign rfl rfl) ?_
 refine Ops_nil ?_
 refine thenA_n ?_
 refine wpA_seq ?_
 refine wpA_seq ?_
 refine wpA_region ?_
 refine Ops_quiet _ rfl rfl (QO.move rfl rfl) ?_
 refine Ops_quiet _ rfl rfl (QO.lenSl rfl sz22 rfl) ?_
 refine Ops_quiet _ rfl rfl (QO.move rfl rfl) ?_
 refine Ops_nil ?_
 refine thenA_n ?_
 refine wpA_block ?_
 obtain ⟨R1, hR, hm⟩ := Option.bind_eq_some_iff.1 hm
 obtain ⟨k1, hk1⟩ := loopV_some hR
 clear hR
 refine wpA_mono (Q := fun e s' h' => match (generalizing := false) R1 with | .stop x id => e = .exit id ∧ ∃ (x1 : Int), x1 = x ∧ Sub s' [(2, .pointer (some ⟨b1, 0, none⟩)), (7, .slice A1 l1.length c1), (8, .int .i64 ((l1.length : Nat) : Int)), (9, .int .i64 x1)] ∧ Le (upd (h) b1 (.own 28 (sqC a0) 101)) h' | .ret r => e = .ret ∧ Sub s' [(4, .bool r)] ∧ Le (h) h' | .next _ => False) ?_ ?_
 ·refine wpA_loop (fun k s' h' => ∃ (x1 : Int), loopW (m_impl_Square_has_l0 a0 l1) k x1 = some R1 ∧ Sub s' [(2, .pointer (some ⟨b1, 0, none⟩)), (7, .slice A1 l1.length c1), (8, .int .i64 ((l1.length : Nat) : Int)), (9, .int .i64 x1)] ∧ Le (upd (h) b1 (.own 28 (sqC a0) 101)) h') (m := k1) ⟨0, hk1, (Sub.cons rfl (Sub.cons rfl (Sub.cons rfl (Sub.cons rfl Sub.nil)))), (Le.upd_left (Le.under (Le.refl _) hb1) (upd_same _ _ _) (by first | rfl | (simp; done)))⟩ ?_
  rintro k1 s' h' ⟨x1, hk1, hsub, hle⟩
  refine wpA_weaken hsub.ok hle ?_
  clear hsub hle s' h'
  cases k1 with
  | zero => exact absurd hk1 (by simp [loopW])
  | succ k1 =>
   obtain ⟨o1, ho1, hk1⟩ := loopW_succ hk1
   unfold m_impl_Square_has_l0 at ho1
   try dsimp only at ho1
   refine wpA_seq ?_
   refine wpA_region ?_
   refine Ops_quiet _ rfl rfl (QO.bin rfl rfl rfl rfl) ?_
   refine Ops_nil ?_
   refine thenA_n ?_
   refine wpA_seq ?_
   refine wpA_cond rfl (fun g1 => ?_) (fun g1 => ?_)
   ·replace ho1 := cond_t ho1 g1
    refine wpA_skip ?_
    refine thenA_n ?_
    refine wpA_seq ?_
    refine wpA_block ?_
    refine wpA_seq ?_
    refine wpA_region ?_
    have hq := chk ho1; clear ho1; obtain ⟨ck1, ho1⟩ := hq
    refine Ops_quiet _ rfl rfl (QO.idxRd2 rfl sz22 sz5 rfl rfl (by omega) (by omega) hs1 (by simp [rowsC_length, rowsA_length, mpC_length, sqC_length, tbC_length, tabI_length, tabB_length, ints_length, plsC_length, trC_length, sqsC_length, strsC_length, boolsC_length, tbB_length, List.length_append, List.length_cons, List.length_nil, List.length_set, List.length_replicate, rep_length]) (by decide)) ?_
    refine Ops_quiet _ rfl rfl (QO.load rfl sz5 rfl rfl (by first | exact (RdS.rd (RdS.le hs1 (Le.under (Le.refl _) hb1)) (by first | rfl | exact sqC_get (by omega) (by omega) | exact tbC_get (by omega) (by omega) | exact tbB_get (by omega) (by omega) | exact tabI_get01 (by omega) | exact tabB_get01 (by omega) | exact ints_get01 (by omega) | exact boolsC_get01 (by omega) | exact tabI_get (by omega) | exact tabB_get (by omega) | exact ints_get1 (by omega) | exact strsC_get01 (by omega) | exact strsC_get1 (by omega) | exact plsC_get (by omega) (by omega) | exact trC_a (by omega) | exact trC_b (by omega) | exact trC_c (by omega) | exact sqsC_ord (by omega) | exact sqsC_get (by omega) (by omega) (by omega))) | exact (RdS.rd2 (RdS.le hs1 (Le.under (Le.refl _) hb1)) (by first | rfl | exact sqC_get (by omega) (by omega) | exact tbC_get (by omega) (by omega) | exact tbB_get (by omega) (by omega) | exact tabI_get01 (by omega) | exact tabB_get01 (by omega) | exact ints_get01 (by omega) | exact boolsC_get01 (by omega) | exact tabI_get (by omega) | exact tabB_get (by omega) | exact ints_get1 (by omega) | exact strsC_get01 (by omega) | exact strsC_get1 (by omega) | exact plsC_get (by omega) (by omega) | exact trC_a (by omega) | exact trC_b (by omega) | exact trC_c (by omega) | exact sqsC_ord (by omega) | exact sqsC_get (by omega) (by omega) (by omega))) | exact (RdS.rd3 (RdS.le hs1 (Le.under (Le.refl _) hb1)) (by first | rfl | exact sqC_get (by omega) (by omega) | exact tbC_get (by omega) (by omega) | exact tbB_get (by omega) (by omega) | exact tabI_get01 (by omega) | exact tabB_get01 (by omega) | exact ints_get01 (by omega) | exact boolsC_get01 (by omega) | exact tabI_get (by omega) | exact tabB_get (by omega) | exact ints_get1 (by omega) | exact strsC_get01 (by omega) | exact strsC_get1 (by omega) | exact plsC_get (by omega) (by omega) | exact trC_a (by omega) | exact trC_b (by omega) | exact trC_c (by omega) | exact sqsC_ord (by omega) | exact sqsC_get (by omega) (by omega) (by omega))))) ?_
    refine Ops_quiet _ rfl rfl (QO.assign rfl rfl) ?_
    refine Ops_nil ?_
    refine thenA_n ?_
    refine wpA_seq ?_
    refine wpA_region ?_
    refine Ops_quiet _ rfl rfl (QO.move rfl rfl) ?_
    refine Ops_quiet _ rfl rfl (QO.conv rfl sz5 sz2 rfl) ?_
    refine Ops_quiet _ rfl rfl (QO.fieldAt (fo := 0) rfl sz28 rfl rfl sz2 rfl rfl) ?_
    refine Ops_quiet _ rfl rfl (QO.load rfl sz2 rfl rfl (by (refine (rd_own (upd_same _ _ _) _).trans ?_); exact rfl)) ?_
    refine Ops_quiet _ rfl rfl (QO.bin rfl rfl rfl rfl) ?_
    refine Ops_nil ?_
    refine thenA_n ?_
    refine wpA_cond rfl (fun g2 => ?_) (fun g2 => ?_)
    ·replace ho1 := cond_t ho1 g2
     refine wpA_seq ?_
     refine wpA_region ?_
     refine Ops_quiet _ rfl rfl (QO.assign rfl rfl) ?_
     refine Ops_nil ?_
     refine thenA_n ?_
     refine wpA_ret ?_
     refine blockA_r ?_
     refine thenA_r ?_
     refine thenA_r ?_
     obtain rfl := Option.some.inj ho1
     obtain rfl := Option.some.inj hk1
     exact ⟨rfl, (Sub.cons rfl Sub.nil), (Le.under (Le.refl _) hb1)⟩
    ·replace ho1 := cond_f ho1 g2
     refine wpA_skip ?_
     refine blockA_n ?_
     refine thenA_n ?_
     refine wpA_region ?_
     refine Ops_quiet _ rfl rfl (QO.bin rfl rfl rfl rfl) ?_
     refine Ops_quiet _ rfl rfl (QO.move rfl rfl) ?_
     refine Ops_nil ?_
     obtain rfl := Option.some.inj ho1
     dsimp only at hk1
     exact thenA_n ⟨k1, Nat.lt_succ_self _, _, hk1, (Sub.cons rfl (Sub.cons rfl (Sub.cons rfl (Sub.cons rfl Sub.nil)))), (Le.upd_left (Le.under (Le.refl _) hb1) (upd_same _ _ _) (by first | rfl | (simp; done)))⟩
   ·replace ho1 := cond_f ho1 g1
    refine wpA_exit ?_
    refine thenA_e ?_
    refine thenA_e ?_
    obtain rfl := Option.some.inj ho1
    obtain rfl := Option.some.inj hk1
    exact ⟨rfl, _, rfl, (Sub.cons rfl (Sub.cons rfl (Sub.cons rfl (Sub.cons rfl Sub.nil)))), (Le.upd_left (Le.under (Le.refl _) hb1) (upd_same _ _ _) (by first | rfl | (simp; done)))⟩
 ·intro e s' h' hq
  cases R1 with
  | next x => exact hq.elim
  | ret r =>
   obtain ⟨rfl, hsub1, hle1⟩ := hq
   try dsimp only at hm
   refine blockA_r ?_
   refine thenA_r ?_
   obtain rfl := Option.some.inj hm
   refine retA_sub hsub1.ok hle1 ?_
   exact retA_r (h2 := h) (Res.one rfl (rfl)) (Le.refl _) ⟨rfl, rfl⟩
  | stop x id =>
   obtain ⟨rfl, x2, rfl, hsub2, hle2⟩ := hq
   try dsimp only at hm
   by_cases hid1 : id = 0
   ·subst hid1
    rw [if_pos rfl] at hm
    refine blockA_s ?_
    refine thenA_n ?_
    refine wpA_weaken hsub2.ok hle2 ?_
    refine wpA_seq ?_
    refine wpA_region ?_
    refine Ops_quiet _ rfl rfl (QO.assign rfl rfl) ?_
    refine Ops_nil ?_
    refine thenA_n ?_
    refine wpA_ret ?_
    obtain rfl := Option.some.inj hm
    exact retA_r (h2 := h) (Res.one rfl (rfl)) (Le.under (Le.refl _) hb1) ⟨rfl, rfl⟩
   rw [if_neg hid1] at hm
   exact absurd hm (by simp)

/-! loop.example/g01195/impl.checked -/
theorem c_impl_checked {a0 : Sq} {l1 : (List Int)} {A1 : Option Addr} {c1 : Nat} {h : Hp} {r : Int} (hm : m_impl_checked a0 l1 = some r) (hs1 : RdS h A1 (ints .u8 l1)) :
    QC Try.prog 31 #[.agg (sqC a0).toArray, .slice A1 l1.length c1] h (.int .i64 r) := by
 unfold m_impl_checked at hm
 refine CC.enter Try.func31 rfl Try.ntmps31 rfl ?_
 refine wpA_seq ?_
 refine wpA_region ?_
 refine Ops_loud rfl (LO.boxAgg rfl rfl rfl (fun b1 hb1 => ?_))
 refine Ops_quiet _ rfl rfl (QO.assign rfl rfl) ?_
 refine Ops_nil ?_
 refine thenA_n ?_
 refine wpA_seq ?_
 refine wpA_block ?_
 refine wpA_seq ?_
 refine wpA_region ?_
 refine Ops_quiet _ rfl rfl (QO.loadRow (cs := sqC a0) (hr := (rdAll (upd_same _ _ _))) rfl sz28 rfl rfl (sqC_length _)) ?_
 have hq := Option.bind_eq_some_iff.1 hm; clear hm; obtain ⟨r1, hr1, hm⟩ := hq
 refine Ops_call _ _ rfl rfl (EO.fn rfl Try.func8 rfl rfl (Evs.cons rfl Evs.nil)) (QC.cc (c_impl_IsSquare hr1 ) ?_)
 refine Ops_quiet _ rfl rfl (QO.not rfl rfl) ?_
 refine Ops_quiet _ rfl rfl (QO.assign rfl rfl) ?_
 refine Ops_nil ?_
 refine thenA_n ?_
 refine wpA_cond rfl (fun g1 => ?_) (fun g1 => ?_)
 ·replace hm := cond_t hm g1
  refine wpA_seq ?_
  refine wpA_region ?_
  refine Ops_quiet _ rfl rfl (QO.assign rfl rfl) ?_
  refine Ops_nil ?_
  refine thenA_n ?_
  refine wpA_ret ?_
  refine blockA_r ?_
  refine thenA_r ?_
  obtain rfl := Option.some.inj hm
  exact retA_r (h2 := h) (Res.one rfl (rfl)) (Le.under (Le.refl _) hb1) ⟨rfl, rfl⟩
 ·replace hm := cond_f hm g1
  refine wpA_seq ?_
  refine wpA_region ?_
  refine Ops_quiet _ rfl rfl (QO.loadRow (cs := sqC a0) (hr := (rdAll (upd_same _ _ _))) rfl sz28 rfl rfl (sqC_length _)) ?_
  refine Ops_quiet _ rfl rfl (QO.move rfl rfl) ?_
  have hq := Option.bind_eq_some_iff.1 hm; clear hm; obtain ⟨r2, hr2, hm⟩ := hq
  refine Ops_call _ _ rfl rfl (EO.fn rfl Try.func61 rfl rfl (Evs.cons rfl (Evs.cons rfl Evs.nil))) (QC.cc (c_impl_Square_has (l1 := l1) (A1 := A1) (c1 := c1) hr2 (RdS.le hs1 (Le.under (Le.refl _) hb1))) ?_)
  refine Ops_quiet _ rfl rfl (QO.not rfl rfl) ?_
  refine Ops_quiet _ rfl rfl (QO.assign rfl rfl) ?_
  refine Ops_nil ?_
  refine thenA_n ?_
  refine wpA_cond rfl (fun g2 => ?_) (fun g2 => ?_)
  ·replace hm := cond_t hm g2
   refine wpA_seq ?_
   refine wpA_region ?_
   refine Ops_quiet _ rfl rfl (QO.assign rfl rfl) ?_
   refine Ops_nil ?_
   refine thenA_n ?_
   refine wpA_ret ?_
   refine blockA_r ?_
   refine thenA_r ?_
   obtain rfl := Option.some.inj hm
   exact retA_r (h2 := h) (Res.one rfl (rfl)) (Le.under (Le.refl _) hb1) ⟨rfl, rfl⟩
  ·replace hm := cond_f hm g2
   refine wpA_skip ?_
   refine blockA_n ?_
   refine thenA_n ?_
   refine wpA_seq ?_
   refine wpA_region ?_
   refine Ops_quiet _ rfl rfl (QO.assign rfl rfl) ?_
   refine Ops_nil ?_
   refine thenA_n ?_
   refine wpA_ret ?_
   obtain rfl := Option.some.inj hm
   exact retA_r (h2 := h) (Res.one rfl (rfl)) (Le.under (Le.refl _) hb1) ⟨rfl, rfl⟩

/-! loop.example/g01195/impl.ProductIn -/
theorem c_impl_ProductIn {a0 : Sq} {a1 : Int} {a2 : Int} {h : Hp} {r : Int × Int} (hm : m_impl_ProductIn a0 a1 a2 = some r)  :
    QC Try.prog 6 #[.agg (sqC a0).toArray, .int .u8 a1, .int .u8 a2] h (.tuple #[.int .u8 r.1, .int .i64 r.2]) := by
 unfold m_impl_ProductIn at hm
 refine CC.enter Try.func6 rfl Try.ntmps6 rfl ?_
 refine wpA_seq ?_
 refine wpA_region ?_
 refine Ops_loud rfl (LO.boxAgg rfl rfl rfl (fun b1 hb1 => ?_))
 refine Ops_quiet _ rfl rfl (QO.assign rfl rfl) ?_
 refine Ops_quiet _ rfl rfl (QO.assign rfl rfl) ?_
 refine Ops_nil ?_
 refine thenA_n ?_
 refine wpA_seq ?_
 refine wpA_seq ?_
 refine wpA_region ?_
 refine Ops_quiet _ rfl rfl (QO.loadRow (cs := sqC a0) (hr := (rdAll (upd_same _ _ _))) rfl sz28 rfl rfl (sqC_length _)) ?_
 refine Ops_quiet _ rfl rfl (QO.move rfl rfl) ?_
 refine Ops_quiet _ rfl rfl (QO.move rfl rfl) ?_
 refine Ops_loud rfl (LO.slice' [(0, .int .u8 a1), (1, .int .u8 a2)] (r := ints .u8 [a1, a2]) rfl sz22 sz5 zr5 (by first | rfl | (simp [rowsC_length, rowsA_length, mpC_length, sqC_length, tbC_length, tabI_length, tabB_length, ints_length, plsC_length, trC_length, sqsC_length, strsC_length, boolsC_length, tbB_length, List.length_append, List.length_cons, List.length_nil, List.length_set, List.length_replicate, rep_length]; done)) (by decide) (by decide) (by decide) rfl rfl (by first | rfl | (simp [rowsC_length, rowsA_length, mpC_length, sqC_length, tbC_length, tabI_length, tabB_length, ints_length, plsC_length, trC_length, sqsC_length, strsC_length, boolsC_length, tbB_length, List.length_append, List.length_cons, List.length_nil, List.length_set, List.length_replicate, rep_length]; done)) rfl (fun b2 hb2 => ?_))
 simp only [upd_noneA] at hb2
 obtain ⟨n_b2_b1, hb2⟩ := hb2
 have hq := Option.bind_eq_some_iff.1 hm; clear hm; obtain ⟨r1, hr1, hm⟩ := hq
 refine Ops_call _ _ rfl rfl (EO.fn rfl Try.func31 rfl rfl (Evs.cons rfl (Evs.cons rfl Evs.nil))) (QC.cc (c_impl_checked (l1 := [a1, a2]) (A1 := some ⟨b2, 0, none⟩) (c1 := 2) hr1 (RdS.own (upd_same _ _ _))) ?_)
 refine Ops_quiet _ rfl rfl (QO.assign rfl rfl) ?_
 refine Ops_nil ?_
 refine thenA_n ?_
 refine wpA_seq ?_
 refine wpA_region ?_
 refine Ops_quiet _ rfl rfl (QO.move rfl rfl) ?_
 refine Ops_quiet _ rfl rfl (QO.bin rfl rfl rfl rfl) ?_
 refine Ops_nil ?_
 refine thenA_n ?_
 refine wpA_cond rfl (fun g1 => ?_) (fun g1 => ?_)
 ·replace hm := cond_t hm g1
  refine wpA_seq ?_
  refine wpA_region ?_
  refine Ops_quiet _ rfl rfl (QO.move rfl rfl) ?_
  refine Ops_quiet _ rfl rfl (QO.assign rfl rfl) ?_
  refine Ops_quiet _ rfl rfl (QO.assign rfl rfl) ?_
  refine Ops_nil ?_
  refine thenA_n ?_
  refine wpA_ret ?_
  refine thenA_r ?_
  obtain rfl := Option.some.inj hm
  exact retA_r (h2 := h) (Res.two rfl (rfl) (rfl)) (Le.under (Le.under (Le.refl _) hb1) hb2) ⟨rfl, rfl⟩
 ·replace hm := cond_f hm g1
  refine wpA_skip ?_
  refine thenA_n ?_
  refine wpA_seq ?_
  refine wpA_region ?_
  refine Ops_quiet _ rfl rfl (QO.move rfl rfl) ?_
  refine Ops_quiet _ rfl rfl (QO.move rfl rfl) ?_
  refine Ops_quiet _ rfl rfl (QO.fieldAt (fo := 1) rfl sz28 rfl rfl sz26 rfl rfl) ?_
  have hq := chk hm; clear hm; obtain ⟨ck1, hm⟩ := hq
  refine Ops_quiet _ rfl rfl (QO.idxArr rfl sz26 sz24 rfl rfl (by omega) (by omega)) ?_
  have hq := chk hm; clear hm; obtain ⟨ck2, hm⟩ := hq
  refine Ops_quiet _ rfl rfl (QO.idxArr rfl sz24 sz5 rfl rfl (by omega) (by omega)) ?_
  refine Ops_quiet _ rfl rfl (QO.load rfl sz5 rfl rfl (by (refine (rd_own ((upd_ne _ _ n_b2_b1.ne.symm).trans (upd_same _ _ _)) _).trans ?_); exact sqC_get (by omega) (by omega))) ?_
  refine Ops_quiet _ rfl rfl (QO.assign rfl rfl) ?_
  refine Ops_quiet _ rfl rfl (QO.assign rfl rfl) ?_
  refine Ops_nil ?_
  refine thenA_n ?_
  refine wpA_ret ?_
  obtain rfl := Option.some.inj hm
  exact retA_r (h2 := h) (Res.two rfl (rfl) (rfl)) (Le.under (Le.under (Le.refl _) hb1) hb2) ⟨rfl, rfl⟩

/-! loop.example/g01195/spec.l01Two -/
theorem c_spec_l01Two {a0 : Sq} {a1 : Int} {a2 : Int} {h : Hp} {r : Int} (hm : m_spec_l01Two a0 a1 a2 = some r)  :
    QC Try.prog 32 #[.agg (sqC a0).toArray, .int .u8 a1, .int .u8 a2] h (.int .i64 r) := by
 unfold m_spec_l01Two at hm
 refine CC.enter Try.func32 rfl Try.ntmps32 rfl ?_
 refine wpA_seq ?_
 refine wpA_region ?_
 refine Ops_loud rfl (LO.boxAgg rfl rfl rfl (fun b1 hb1 => ?_))
 refine Ops_quiet _ rfl rfl (QO.assign rfl rfl) ?_
 refine Ops_nil ?_
 refine thenA_n ?_
 refine wpA_seq ?_
 refine wpA_block ?_
 refine wpA_seq ?_
 refine wpA_region ?_
 refine Ops_quiet _ rfl rfl (QO.loadRow (cs := sqC a0) (hr := (rdAll (upd_same _ _ _))) rfl sz28 rfl rfl (sqC_length _)) ?_
 have hq := Option.bind_eq_some_iff.1 hm; clear hm; obtain ⟨r1, hr1, hm⟩ := hq
 refine Ops_call _ _ rfl rfl (EO.fn rfl Try.func34 rfl rfl (Evs.cons rfl Evs.nil)) (QC.cc (c_spec_l01Is hr1 ) ?_)
 refine Ops_quiet _ rfl rfl (QO.not rfl rfl) ?_
 refine Ops_quiet _ rfl rfl (QO.assign rfl rfl) ?_
 refine Ops_nil ?_
 refine thenA_n ?_
 refine wpA_cond rfl (fun g1 => ?_) (fun g1 => ?_)
 ·replace hm := cond_t hm g1
  refine wpA_seq ?_
  refine wpA_region ?_
  refine Ops_quiet _ rfl rfl (QO.assign rfl rfl) ?_
  refine Ops_nil ?_
  refine thenA_n ?_
  refine wpA_ret ?_
  refine blockA_r ?_
  refine thenA_r ?_
  obtain rfl := Option.some.inj hm
  exact retA_r (h2 := h) (Res.one rfl (rfl)) (Le.under (Le.refl _) hb1) ⟨rfl, rfl⟩
 ·replace hm := cond_f hm g1
  refine wpA_seq ?_
  refine wpA_region ?_
  refine Ops_quiet _ rfl rfl (QO.move rfl rfl) ?_
  refine Ops_quiet _ rfl rfl (QO.conv rfl sz5 sz2 rfl) ?_
  refine Ops_quiet _ rfl rfl (QO.fieldAt (fo := 0) rfl sz28 rfl rfl sz2 rfl rfl) ?_
  refine Ops_quiet _ rfl rfl (QO.load rfl sz2 rfl rfl (by (refine (rd_own (upd_same _ _ _) _).trans ?_); exact rfl)) ?_
  refine Ops_quiet _ rfl rfl (QO.bin rfl rfl rfl rfl) ?_
  refine Ops_quiet _ rfl rfl (QO.move rfl rfl) ?_
  refine Ops_case 17 rfl (fun g2 => ?_) (fun g2 => ?_)
  ·replace hm := cond_t hm g2
   refine Ops_skip rfl rfl ?_
   refine Ops_skip rfl rfl ?_
   refine Ops_skip rfl rfl ?_
   refine Ops_skip rfl rfl ?_
   refine Ops_skip rfl rfl ?_
   refine Ops_quiet _ rfl rfl (QO.pick_t rfl rfl rfl) ?_
   refine Ops_quiet _ rfl rfl (QO.assign rfl rfl) ?_
   refine Ops_nil ?_
   refine thenA_n ?_
   refine wpA_cond_t rfl ?_
   refine wpA_seq ?_
   refine wpA_region ?_
   refine Ops_quiet _ rfl rfl (QO.assign rfl rfl) ?_
   refine Ops_nil ?_
   refine thenA_n ?_
   refine wpA_ret ?_
   refine blockA_r ?_
   refine thenA_r ?_
   obtain rfl := Option.some.inj hm
   exact retA_r (h2 := h) (Res.one rfl (rfl)) (Le.under (Le.refl _) hb1) ⟨rfl, rfl⟩
  ·replace hm := cond_f hm g2
   refine Ops_quiet _ rfl rfl (QO.move rfl rfl) ?_
   refine Ops_quiet _ rfl rfl (QO.conv rfl sz5 sz2 rfl) ?_
   refine Ops_quiet _ rfl rfl (QO.fieldAt (fo := 0) rfl sz28 rfl rfl sz2 rfl rfl) ?_
   refine Ops_quiet _ rfl rfl (QO.load rfl sz2 rfl rfl (by (refine (rd_own (upd_same _ _ _) _).trans ?_); exact rfl)) ?_
   refine Ops_quiet _ rfl rfl (QO.bin rfl rfl rfl rfl) ?_
   refine Ops_quiet _ rfl rfl (QO.pick_f rfl rfl rfl) ?_
   refine Ops_quiet _ rfl rfl (QO.assign rfl rfl) ?_
   refine Ops_nil ?_
   refine thenA_n ?_
   refine wpA_cond rfl (fun g3 => ?_) (fun g3 => ?_)
   ·replace hm := cond_t hm g3
    refine wpA_seq ?_
    refine wpA_region ?_
    refine Ops_quiet _ rfl rfl (QO.assign rfl rfl) ?_
    refine Ops_nil ?_
    refine thenA_n ?_
    refine wpA_ret ?_
    refine blockA_r ?_
    refine thenA_r ?_
    obtain rfl := Option.some.inj hm
    exact retA_r (h2 := h) (Res.one rfl (rfl)) (Le.under (Le.refl _) hb1) ⟨rfl, rfl⟩
   ·replace hm := cond_f hm g3
    refine wpA_skip ?_
    refine blockA_n ?_
    refine thenA_n ?_
    refine wpA_seq ?_
    refine wpA_region ?_
    refine Ops_quiet _ rfl rfl (QO.assign rfl rfl) ?_
    refine Ops_nil ?_
    refine thenA_n ?_
    refine wpA_ret ?_
    obtain rfl := Option.some.inj hm
    exact retA_r (h2 := h) (Res.one rfl (rfl)) (Le.under (Le.refl _) hb1) ⟨rfl, rfl⟩

/-! loop.example/g01195/spec.ProductIn -/
theorem c_spec_ProductIn {a0 : Sq} {a1 : Int} {a2 : Int} {h : Hp} {r : Int × Int} (hm : m_spec_ProductIn a0 a1 a2 = some r)  :
    QC Try.prog 7 #[.agg (sqC a0).toArray, .int .u8 a1, .int .u8 a2] h (.tuple #[.int .u8 r.1, .int .i64 r.2]) := by
 unfold m_spec_ProductIn at hm
 refine CC.enter Try.func7 rfl Try.ntmps7 rfl ?_
 refine wpA_seq ?_
 refine wpA_region ?_
 refine Ops_loud rfl (LO.boxAgg rfl rfl rfl (fun b1 hb1 => ?_))
 refine Ops_quiet _ rfl rfl (QO.assign rfl rfl) ?_
 refine Ops_quiet _ rfl rfl (QO.assign rfl rfl) ?_
 refine Ops_nil ?_
 refine thenA_n ?_
 refine wpA_seq ?_
 refine wpA_seq ?_
 refine wpA_region ?_
 refine Ops_quiet _ rfl rfl (QO.loadRow (cs := sqC a0) (hr := (rdAll (upd_same _ _ _))) rfl sz28 rfl rfl (sqC_length _)) ?_
 refine Ops_quiet _ rfl rfl (QO.move rfl rfl) ?_
 refine Ops_quiet _ rfl rfl (QO.move rfl rfl) ?_
 have hq := Option.bind_eq_some_iff.1 hm; clear hm; obtain ⟨r1, hr1, hm⟩ := hq
 refine Ops_call _ _ rfl rfl (EO.fn rfl Try.func32 rfl rfl (Evs.cons rfl (Evs.cons rfl (Evs.cons rfl Evs.nil)))) (QC.cc (c_spec_l01Two hr1 ) ?_)
 refine Ops_quiet _ rfl rfl (QO.assign rfl rfl) ?_
 refine Ops_nil ?_
 refine thenA_n ?_
 refine wpA_seq ?_
 refine wpA_region ?_
 refine Ops_quiet _ rfl rfl (QO.move rfl rfl) ?_
 refine Ops_quiet _ rfl rfl (QO.bin rfl rfl rfl rfl) ?_
 refine Ops_nil ?_
 refine thenA_n ?_
 refine wpA_cond rfl (fun g1 => ?_) (fun g1 => ?_)
 ·replace hm := cond_t hm g1
  refine wpA_seq ?_
  refine wpA_region ?_
  refine Ops_quiet _ rfl rfl (QO.move rfl rfl) ?_
  refine Ops_quiet _ rfl rfl (QO.assign rfl rfl) ?_
  refine Ops_quiet _ rfl rfl (QO.assign rfl rfl) ?_
  refine Ops_nil ?_
  refine thenA_n ?_
  refine wpA_ret ?_
  refine thenA_r ?_
  obtain rfl := Option.some.inj hm
  exact retA_r (h2 := h) (Res.two rfl (rfl) (rfl)) (Le.under (Le.refl _) hb1) ⟨rfl, rfl⟩
 ·replace hm := cond_f hm g1
  refine wpA_skip ?_
  refine thenA_n ?_
  refine wpA_seq ?_
  refine wpA_region ?_
  refine Ops_quiet _ rfl rfl (QO.move rfl rfl) ?_
  refine Ops_quiet _ rfl rfl (QO.move rfl rfl) ?_
  refine Ops_quiet _ rfl rfl (QO.fieldAt (fo := 1) rfl sz28 rfl rfl sz26 rfl rfl) ?_
  have hq := chk hm; clear hm; obtain ⟨ck1, hm⟩ := hq
  refine Ops_quiet _ rfl rfl (QO.idxArr rfl sz26 sz24 rfl rfl (by omega) (by omega)) ?_
  have hq := chk hm; clear hm; obtain ⟨ck2, hm⟩ := hq
  refine Ops_quiet _ rfl rfl (QO.idxArr rfl sz24 sz5 rfl rfl (by omega) (by omega)) ?_
  refine Ops_quiet _ rfl rfl (QO.load rfl sz5 rfl rfl (by (refine (rd_own (upd_same _ _ _) _).trans ?_); exact sqC_get (by omega) (by omega))) ?_
  refine Ops_quiet _ rfl rfl (QO.assign rfl rfl) ?_
  refine Ops_quiet _ rfl rfl (QO.assign rfl rfl) ?_
  refine Ops_nil ?_
  refine thenA_n ?_
  refine wpA_ret ?_
  obtain rfl := Option.some.inj hm
  exact retA_r (h2 := h) (Res.two rfl (rfl) (rfl)) (Le.under (Le.refl _) hb1) ⟨rfl, rfl⟩

/-! loop.example/g01195/spec.IsSquare -/
theorem c_spec_IsSquare {a0 : Sq} {h : Hp} {r : Bool} (hm : m_spec_IsSquare a0 = some r)  :
    QC Try.prog 9 #[.agg (sqC a0).toArray] h (.bool r) := by
 unfold m_spec_IsSquare at hm
 refine CC.enter Try.func9 rfl Try.ntmps9 rfl ?_
 refine wpA_seq ?_
 refine wpA_region ?_
 refine Ops_loud rfl (LO.boxAgg rfl rfl rfl (fun b1 hb1 => ?_))
 refine Ops_quiet _ rfl rfl (QO.assign rfl rfl) ?_
 refine Ops_nil ?_
 refine thenA_n ?_
 refine wpA_seq ?_
 refine wpA_region ?_
 refine Ops_quiet _ rfl rfl (QO.loadRow (cs := sqC a0) (hr := (rdAll (upd_same _ _ _))) rfl sz28 rfl rfl (sqC_length _)) ?_
 have hq := Option.bind_eq_some_iff.1 hm; clear hm; obtain ⟨r1, hr1, hm⟩ := hq
 refine Ops_call _ _ rfl rfl (EO.fn rfl Try.func34 rfl rfl (Evs.cons rfl Evs.nil)) (QC.cc (c_spec_l01Is hr1 ) ?_)
 refine Ops_quiet _ rfl rfl (QO.assign rfl rfl) ?_
 refine Ops_nil ?_
 refine thenA_n ?_
 refine wpA_ret ?_
 obtain rfl := Option.some.inj hm
 exact retA_r (h2 := h) (Res.one rfl (rfl)) (Le.under (Le.refl _) hb1) ⟨rfl, rfl⟩

/-! (loop.example/g01195/impl.Square).elements -/
theorem c_impl_Square_elements {a0 : Sq} {h : Hp} {r : (List Int)} (hm : m_impl_Square_elements a0 = some r)  :
    CC Try.prog 44 #[.agg (sqC a0).toArray] h (NewSl 5 1 (ints .u8 r) r.length h) := by
 unfold m_impl_Square_elements at hm
 refine CC.enter Try.func44 rfl Try.ntmps44 rfl ?_
 refine wpA_seq ?_
 refine wpA_region ?_
 refine Ops_loud rfl (LO.boxAgg rfl rfl rfl (fun b1 hb1 => ?_))
 refine Ops_quiet _ rfl rfl (QO.assign rfl rfl) ?_
 refine Ops_nil ?_
 refine thenA_n ?_
 refine wpA_seq ?_
 refine wpA_region ?_
 refine Ops_loud rfl (LO.sliceNil rfl sz22 sz5 rfl (fun b2 hb2 => ?_))
 simp only [upd_noneA] at hb2
 obtain ⟨n_b2_b1, hb2⟩ := hb2
 refine Ops_quiet _ rfl rfl (QO.assign rfl rfl) ?_
 refine Ops_nil ?_
 refine thenA_n ?_
 refine wpA_seq ?_
 refine wpA_seq ?_
 refine wpA_region ?_
 refine Ops_quiet _ rfl rfl (QO.fieldAt (fo := 0) rfl sz28 rfl rfl sz2 rfl rfl) ?_
 refine Ops_quiet _ rfl rfl (QO.load rfl sz2 rfl rfl (by (refine (rd_own ((upd_ne _ _ n_b2_b1.ne.symm).trans (upd_same _ _ _)) _).trans ?_); exact rfl)) ?_
 refine Ops_quiet _ rfl rfl (QO.conv rfl sz2 sz5 rfl) ?_
 refine Ops_quiet _ rfl rfl (QO.move rfl rfl) ?_
 refine Ops_nil ?_
 refine thenA_n ?_
 refine wpA_block ?_
 obtain ⟨R1, hR, hm⟩ := Option.bind_eq_some_iff.1 hm
 obtain ⟨k1, hk1⟩ := loopV_some hR
 clear hR
 refine wpA_mono (Q := fun e s' h' => match (generalizing := false) R1 with | .stop x id => e = .exit id ∧ ∃ (x1 : (List Int)) (x2 : Int) (b3 cap_b3 : Nat), (x1, x2) = x ∧ (h) b3 = none ∧ x1.length ≤ cap_b3 ∧ cap_b3 ≤ maxLen ∧ Sub s' [(3, .slice (some ⟨b3, 0, none⟩) x1.length cap_b3), (8, .int .u8 (IntKind.u8.wrap a0.order)), (9, .int .u8 x2)] ∧ Le (upd (h) b3 (.own 5 (ints .u8 x1) (cap_b3 * 1))) h' | .ret r => False | .next _ => False) ?_ ?_
 ·refine wpA_loop (fun k s' h' => ∃ (x1 : (List Int)) (x2 : Int) (b3 cap_b3 : Nat), loopW (m_impl_Square_elements_l0 a0) k (x1, x2) = some R1 ∧ (h) b3 = none ∧ x1.length ≤ cap_b3 ∧ cap_b3 ≤ maxLen ∧ Sub s' [(3, .slice (some ⟨b3, 0, none⟩) x1.length cap_b3), (8, .int .u8 (IntKind.u8.wrap a0.order)), (9, .int .u8 x2)] ∧ Le (upd (h) b3 (.own 5 (ints .u8 x1) (cap_b3 * 1))) h') (m := k1) ⟨[], 0, b2, 0, hk1, hb2, (by first | assumption | (simp; done) | omega), (by first | assumption | (simp only [maxLen]; omega)), (Sub.cons rfl (Sub.cons rfl (Sub.cons rfl Sub.nil))), (Le.upd_left (Le.under (Le.under (Le.refl _) hb1) hb2) (upd_same _ _ _) (by first | rfl | (simp; done)))⟩ ?_
  rintro k1 s' h' ⟨x1, x2, b3, cap_b3, hk1, hb3, hk_b3, hc_b3, hsub, hle⟩
  refine wpA_weaken hsub.ok hle ?_
  clear hsub hle s' h'
  cases k1 with
  | zero => exact absurd hk1 (by simp [loopW])
  | succ k1 =>
   obtain ⟨o1, ho1, hk1⟩ := loopW_succ hk1
   unfold m_impl_Square_elements_l0 at ho1
   try dsimp only at ho1
   refine wpA_seq ?_
   refine wpA_region ?_
   refine Ops_quiet _ rfl rfl (QO.bin rfl rfl rfl rfl) ?_
   refine Ops_nil ?_
   refine thenA_n ?_
   refine wpA_seq ?_
   refine wpA_cond rfl (fun g1 => ?_) (fun g1 => ?_)
   ·replace ho1 := cond_t ho1 g1
    refine wpA_skip ?_
    refine thenA_n ?_
    refine wpA_seq ?_
    refine wpA_block ?_
    refine wpA_seq ?_
    refine wpA_region ?_
    refine Ops_quiet _ rfl rfl (QO.move rfl rfl) ?_
    refine Ops_quiet _ rfl rfl (QO.assign rfl rfl) ?_
    refine Ops_nil ?_
    refine thenA_n ?_
    refine wpA_region ?_
    refine Ops_quiet _ rfl rfl (QO.move rfl rfl) ?_
    refine Ops_quiet _ rfl rfl (QO.move rfl rfl) ?_
    refine Ops_loud rfl (LO.slice1 (r := ints .u8 [x2]) rfl sz22 sz5 zr5 (by first | rfl | (simp [rowsC_length, rowsA_length, mpC_length, sqC_length, tbC_length, tabI_length, tabB_length, ints_length, plsC_length, trC_length, sqsC_length, strsC_length, boolsC_length, tbB_length, List.length_append, List.length_cons, List.length_nil, List.length_set, List.length_replicate, rep_length]; done)) (by decide) (by decide) rfl rfl (by first | rfl | (simp [rowsC_length, rowsA_length, mpC_length, sqC_length, tbC_length, tabI_length, tabB_length, ints_length, plsC_length, trC_length, sqsC_length, strsC_length, boolsC_length, tbB_length, List.length_append, List.length_cons, List.length_nil, List.length_set, List.length_replicate, rep_length]; done)) rfl (fun b4 hb4 => ?_))
    simp only [upd_noneA] at hb4
    obtain ⟨n_b4_b3, hb4⟩ := hb4
    have hq := chk ho1; clear ho1; obtain ⟨ck1, ho1⟩ := hq
    refine Ops_loud rfl (LO.append2 (ys := ints .u8 [x2]) (k' := (x1 ++ [x2]).length) (xs' := ints .u8 (x1 ++ [x2])) rfl sz22 el5 rfl rfl (Del.drop n_b4_b3.ne hb4 (Del.here hb3)) (by first | assumption | omega) (by first | assumption | (simp only [maxLen]; omega)) (by first | rfl | (simp [rowsC_length, rowsA_length, mpC_length, sqC_length, tbC_length, tabI_length, tabB_length, ints_length, plsC_length, trC_length, sqsC_length, strsC_length, boolsC_length, tbB_length, List.length_append, List.length_cons, List.length_nil, List.length_set, List.length_replicate, rep_length]; done) | (simp [rowsC_length, rowsA_length, mpC_length, sqC_length, tbC_length, tabI_length, tabB_length, ints_length, plsC_length, trC_length, sqsC_length, strsC_length, boolsC_length, tbB_length, List.length_append, List.length_cons, List.length_nil, List.length_set, List.length_replicate, rep_length]; omega)) (by first | rfl | (simp [rowsC_length, rowsA_length, mpC_length, sqC_length, tbC_length, tabI_length, tabB_length, ints_length, plsC_length, trC_length, sqsC_length, strsC_length, boolsC_length, tbB_length, List.length_append, List.length_cons, List.length_nil, List.length_set, List.length_replicate, rep_length]; done) | (simp [rowsC_length, rowsA_length, mpC_length, sqC_length, tbC_length, tabI_length, tabB_length, ints_length, plsC_length, trC_length, sqsC_length, strsC_length, boolsC_length, tbB_length, List.length_append, List.length_cons, List.length_nil, List.length_set, List.length_replicate, rep_length]; omega)) (RdS.own (upd_same _ _ _)) (by first | assumption | exact tabI_one _ _ _ | exact tbC_one _ | exact sqC_one _ | exact tabB_one _ _ | exact ints_one _ _ | exact plsC_one _ | exact strsC_one _ | exact srcC_one _ _ _ _ | (intro v hv; simp at hv; subst hv; rfl)) (by decide) (by omega) (by decide) (by decide) rfl (by first | rfl | (simp [rowsC_length, rowsA_length, mpC_length, sqC_length, tbC_length, tabI_length, tabB_length, ints_length, plsC_length, trC_length, sqsC_length, strsC_length, boolsC_length, tbB_length, List.length_append, List.length_cons, List.length_nil, List.length_set, List.length_replicate, rep_length]; done) | (simp [rowsC_length, rowsA_length, mpC_length, sqC_length, tbC_length, tabI_length, tabB_length, ints_length, plsC_length, trC_length, sqsC_length, strsC_length, boolsC_length, tbB_length, List.length_append, List.length_cons, List.length_nil, List.length_set, List.length_replicate, rep_length]; omega)) (by first | rfl | (simp [ints, plsC, sqsC, boolsC, strsC]; done)) (fun b5 cap_b5 hb5 hk_b5 hc_b5 => ?_))
    refine Ops_quiet _ rfl rfl (QO.assign rfl rfl) ?_
    refine Ops_nil ?_
    refine blockA_n ?_
    refine thenA_n ?_
    refine wpA_region ?_
    refine Ops_quiet _ rfl rfl (QO.bin rfl rfl rfl rfl) ?_
    refine Ops_quiet _ rfl rfl (QO.move rfl rfl) ?_
    refine Ops_nil ?_
    obtain rfl := Option.some.inj ho1
    dsimp only at hk1
    exact thenA_n ⟨k1, Nat.lt_succ_self _, _, _, b5, cap_b5, hk1, hb5, (by first | assumption | (simp; done) | omega), (by first | assumption | (simp only [maxLen]; omega)), (Sub.cons rfl (Sub.cons rfl (Sub.cons rfl Sub.nil))), (Le.upd_left (Le.under (Le.refl _) hb5) (upd_same _ _ _) (by first | rfl | (simp; done)))⟩
   ·replace ho1 := cond_f ho1 g1
    refine wpA_exit ?_
    refine thenA_e ?_
    refine thenA_e ?_
    obtain rfl := Option.some.inj ho1
    obtain rfl := Option.some.inj hk1
    exact ⟨rfl, _, _, b3, cap_b3, rfl, hb3, (by first | assumption | (simp; done) | omega), (by first | assumption | (simp only [maxLen]; omega)), (Sub.cons rfl (Sub.cons rfl (Sub.cons rfl Sub.nil))), (Le.upd_left (Le.under (Le.refl _) hb3) (upd_same _ _ _) (by first | rfl | (simp; done)))⟩
 ·intro e s' h' hq
  cases R1 with
  | next x => exact hq.elim
  | ret r => exact hq.elim
  | stop x id =>
   obtain ⟨rfl, x3, x4, b6, cap_b6, rfl, hb6, hk_b6, hc_b6, hsub1, hle1⟩ := hq
   try dsimp only at hm
   by_cases hid1 : id = 0
   ·subst hid1
    rw [if_pos rfl] at hm
    refine blockA_s ?_
    refine thenA_n ?_
    refine wpA_weaken hsub1.ok hle1 ?_
    refine wpA_seq ?_
    refine wpA_region ?_
    refine Ops_quiet _ rfl rfl (QO.move rfl rfl) ?_
    refine Ops_quiet _ rfl rfl (QO.assign rfl rfl) ?_
    refine Ops_nil ?_
    refine thenA_n ?_
    refine wpA_ret ?_
    obtain rfl := Option.some.inj hm
    exact retA_r (h2 := upd h b6 (.own 5 (ints .u8 x3) (cap_b6 * 1))) (Res.one rfl (rfl)) (Le.upd_left (Le.under (Le.refl _) hb6) (upd_same _ _ _) (by first | rfl | (simp; done))) ⟨b6, cap_b6, (by first | rfl | (simp [*]; done)), (by assumption), (by first | assumption | omega | decide | (simp only [List.length_set, List.length_replicate]; first | done | assumption | omega)), (by first | assumption | (simp only [maxLen]; omega)), rfl⟩
   rw [if_neg hid1] at hm
   exact absurd hm (by simp)

/-! (loop.example/g01195/impl.Square).isUnit -/
theorem c_impl_Square_isUnit {a0 : Sq} {a1 : Int} {h : Hp} {r : Bool} (hm : m_impl_Square_isUnit a0 a1 = some r)  :
    QC Try.prog 35 #[.agg (sqC a0).toArray, .int .u8 a1] h (.bool r) := by
 unfold m_impl_Square_isUnit at hm
 refine CC.enter Try.func35 rfl Try.ntmps35 rfl ?_
 refine wpA_seq ?_
 refine wpA_region ?_
 refine Ops_loud rfl (LO.boxAgg rfl rfl rfl (fun b1 hb1 => ?_))
 refine Ops_quiet _ rfl rfl (QO.assign rfl rfl) ?_
 refine Ops_nil ?_
 refine thenA_n ?_
 refine wpA_seq ?_
 refine wpA_seq ?_
 refine wpA_region ?_
 refine Ops_quiet _ rfl rfl (QO.loadRow (cs := sqC a0) (hr := (rdAll (upd_same _ _ _))) rfl sz28 rfl rfl (sqC_length _)) ?_
 have hq := Option.bind_eq_some_iff.1 hm; clear hm; obtain ⟨r1, hr1, hm⟩ := hq
 refine Ops_call _ _ rfl rfl (EO.fn rfl Try.func44 rfl rfl (Evs.cons rfl Evs.nil)) (CC.mono (c_impl_Square_elements hr1 ) ?_)
 rintro _ _ ⟨b2, cap_b2, rfl, hb2, hk_b2, hc_b2, rfl⟩
 simp only [upd_noneA] at hb2
 obtain ⟨n_b2_b1, hb2⟩ := hb2
 refine Ops_quiet _ rfl rfl (QO.lenSl rfl sz22 rfl) ?_
 refine Ops_quiet _ rfl rfl (QO.move rfl rfl) ?_
 refine Ops_nil ?_
 refine thenA_n ?_
 refine wpA_block ?_
 obtain ⟨R1, hR, hm⟩ := Option.bind_eq_some_iff.1 hm
 obtain ⟨k1, hk1⟩ := loopV_some hR
 clear hR
 refine wpA_mono (Q := fun e s' h' => match (generalizing := false) R1 with | .stop x id => e = .exit id ∧ ∃ (x1 : Int), x1 = x ∧ Sub s' [(1, .int .u8 a1), (2, .pointer (some ⟨b1, 0, none⟩)), (8, .slice (some ⟨b2, 0, none⟩) r1.length cap_b2), (9, .int .i64 ((r1.length : Nat) : Int)), (10, .int .i64 x1)] ∧ Le (upd (upd (h) b1 (.own 28 (sqC a0) 101)) b2 (.own 5 (ints .u8 r1) (cap_b2 * 1))) h' | .ret r => e = .ret ∧ Sub s' [(4, .bool r)] ∧ Le (h) h' | .next _ => False) ?_ ?_
 ·refine wpA_loop (fun k s' h' => ∃ (x1 : Int), loopW (m_impl_Square_isUnit_l0 a0 a1 r1) k x1 = some R1 ∧ Sub s' [(1, .int .u8 a1), (2, .pointer (some ⟨b1, 0, none⟩)), (8, .slice (some ⟨b2, 0, none⟩) r1.length cap_b2), (9, .int .i64 ((r1.length : Nat) : Int)), (10, .int .i64 x1)] ∧ Le (upd (upd (h) b1 (.own 28 (sqC a0) 101)) b2 (.own 5 (ints .u8 r1) (cap_b2 * 1))) h') (m := k1) ⟨0, hk1, (Sub.cons rfl (Sub.cons rfl (Sub.cons rfl (Sub.cons rfl (Sub.cons rfl Sub.nil))))), (Le.upd_left (Le.upd_left (Le.under (Le.under (Le.refl _) hb1) hb2) ((upd_ne _ _ n_b2_b1.ne.symm).trans (upd_same _ _ _)) (by first | rfl | (simp; done))) (upd_same _ _ _) (by first | rfl | (simp; done)))⟩ ?_
  rintro k1 s' h' ⟨x1, hk1, hsub, hle⟩
  refine wpA_weaken hsub.ok hle ?_
  clear hsub hle s' h'
  cases k1 with
  | zero => exact absurd hk1 (by simp [loopW])
  | succ k1 =>
   obtain ⟨o1, ho1, hk1⟩ := loopW_succ hk1
   unfold m_impl_Square_isUnit_l0 at ho1
   try dsimp only at ho1
   refine wpA_seq ?_
   refine wpA_region ?_
   refine Ops_quiet _ rfl rfl (QO.bin rfl rfl rfl rfl) ?_
   refine Ops_nil ?_
   refine thenA_n ?_
   refine wpA_seq ?_
   refine wpA_cond rfl (fun g1 => ?_) (fun g1 => ?_)
   ·replace ho1 := cond_t ho1 g1
    refine wpA_skip ?_
    refine thenA_n ?_
    refine wpA_seq ?_
    refine wpA_block ?_
    refine wpA_seq ?_
    refine wpA_region ?_
    have hq := chk ho1; clear ho1; obtain ⟨ck1, ho1⟩ := hq
    refine Ops_quiet _ rfl rfl (QO.idxSl rfl sz22 sz5 rfl rfl (by omega) (by omega)) ?_
    refine Ops_quiet _ rfl rfl (QO.load rfl sz5 rfl rfl (by (refine (rd_own (upd_same _ _ _) _).trans ?_); exact ints_get01 (by first | omega | (simp only [List.length_cons, List.length_nil]; omega)))) ?_
    refine Ops_quiet _ rfl rfl (QO.assign rfl rfl) ?_
    refine Ops_nil ?_
    refine thenA_n ?_
    refine wpA_seq ?_
    refine wpA_region ?_
    refine Ops_quiet _ rfl rfl (QO.move rfl rfl) ?_
    refine Ops_quiet _ rfl rfl (QO.move rfl rfl) ?_
    refine Ops_quiet _ rfl rfl (QO.fieldAt (fo := 1) rfl sz28 rfl rfl sz26 rfl rfl) ?_
    have hq := chk ho1; clear ho1; obtain ⟨ck2, ho1⟩ := hq
    refine Ops_quiet _ rfl rfl (QO.idxArr rfl sz26 sz24 rfl rfl (by omega) (by omega)) ?_
    have hq := chk ho1; clear ho1; obtain ⟨ck3, ho1⟩ := hq
    refine Ops_quiet _ rfl rfl (QO.idxArr rfl sz24 sz5 rfl rfl (by omega) (by omega)) ?_
    refine Ops_quiet _ rfl rfl (QO.load rfl sz5 rfl rfl (by (refine (rd_own ((upd_ne _ _ n_b2_b1.ne.symm).trans (upd_same _ _ _)) _).trans ?_); exact sqC_get (by omega) (by omega))) ?_
    refine Ops_quiet _ rfl rfl (QO.move rfl rfl) ?_
    refine Ops_quiet _ rfl rfl (QO.bin rfl rfl rfl rfl) ?_
    refine Ops_quiet _ rfl rfl (QO.move rfl rfl) ?_
    refine Ops_case 22 rfl (fun g2 => ?_) (fun g2 => ?_)
    ·replace ho1 := cond_t ho1 g2
     refine Ops_skip rfl rfl ?_
     refine Ops_skip rfl rfl ?_
     refine Ops_skip rfl rfl ?_
     refine Ops_skip rfl rfl ?_
     refine Ops_skip rfl rfl ?_
     refine Ops_skip rfl rfl ?_
     refine Ops_skip rfl rfl ?_
     refine Ops_skip rfl rfl ?_
     refine Ops_quiet _ rfl rfl (QO.pick_t rfl rfl rfl) ?_
     refine Ops_nil ?_
     refine thenA_n ?_
     refine wpA_cond_t rfl ?_
     refine wpA_seq ?_
     refine wpA_region ?_
     refine Ops_quiet _ rfl rfl (QO.assign rfl rfl) ?_
     refine Ops_nil ?_
     refine thenA_n ?_
     refine wpA_ret ?_
     refine blockA_r ?_
     refine thenA_r ?_
     refine thenA_r ?_
     obtain rfl := Option.some.inj ho1
     obtain rfl := Option.some.inj hk1
     exact ⟨rfl, (Sub.cons rfl Sub.nil), (Le.under (Le.under (Le.refl _) hb1) hb2)⟩
    ·replace ho1 := cond_f ho1 g2
     refine Ops_quiet _ rfl rfl (QO.move rfl rfl) ?_
     refine Ops_quiet _ rfl rfl (QO.move rfl rfl) ?_
     refine Ops_quiet _ rfl rfl (QO.fieldAt (fo := 1) rfl sz28 rfl rfl sz26 rfl rfl) ?_
     have hq := chk ho1; clear ho1; obtain ⟨ck4, ho1⟩ := hq
     refine Ops_quiet _ rfl rfl (QO.idxArr rfl sz26 sz24 rfl rfl (by omega) (by omega)) ?_
     have hq := chk ho1; clear ho1; obtain ⟨ck5, ho1⟩ := hq
     refine Ops_quiet _ rfl rfl (QO.idxArr rfl sz24 sz5 rfl rfl (by omega) (by omega)) ?_
     refine Ops_quiet _ rfl rfl (QO.load rfl sz5 rfl rfl (by (refine (rd_own ((upd_ne _ _ n_b2_b1.ne.symm).trans (upd_same _ _ _)) _).trans ?_); exact sqC_get (by omega) (by omega))) ?_
     refine Ops_quiet _ rfl rfl (QO.move rfl rfl) ?_
     refine Ops_quiet _ rfl rfl (QO.bin rfl rfl rfl rfl) ?_
     refine Ops_quiet _ rfl rfl (QO.pick_f rfl rfl rfl) ?_
     refine Ops_nil ?_
     refine thenA_n ?_
     refine wpA_cond rfl (fun g3 => ?_) (fun g3 => ?_)
     ·replace ho1 := cond_t ho1 g3
      refine wpA_seq ?_
      refine wpA_region ?_
      refine Ops_quiet _ rfl rfl (QO.assign rfl rfl) ?_
      refine Ops_nil ?_
      refine thenA_n ?_
      refine wpA_ret ?_
      refine blockA_r ?_
      refine thenA_r ?_
      refine thenA_r ?_
      obtain rfl := Option.some.inj ho1
      obtain rfl := Option.some.inj hk1
      exact ⟨rfl, (Sub.cons rfl Sub.nil), (Le.under (Le.under (Le.refl _) hb1) hb2)⟩
     ·replace ho1 := cond_f ho1 g3
      refine wpA_skip ?_
      refine blockA_n ?_
      refine thenA_n ?_
      refine wpA_region ?_
      refine Ops_quiet _ rfl rfl (QO.bin rfl rfl rfl rfl) ?_
      refine Ops_quiet _ rfl rfl (QO.move rfl rfl) ?_
      refine Ops_nil ?_
      obtain rfl := Option.some.inj ho1
      dsimp only at hk1
      exact thenA_n ⟨k1, Nat.lt_succ_self _, _, hk1, (Sub.cons rfl (Sub.cons rfl (Sub.cons rfl (Sub.cons rfl (Sub.cons rfl Sub.nil))))), (Le.upd_left (Le.upd_left (Le.under (Le.under (Le.refl _) hb1) hb2) ((upd_ne _ _ n_b2_b1.ne.symm).trans (upd_same _ _ _)) (by first | rfl | (simp; done))) (upd_same _ _ _) (by first | rfl | (simp; done)))⟩
   ·replace ho1 := cond_f ho1 g1
    refine wpA_exit ?_
    refine thenA_e ?_
    refine thenA_e ?_
    obtain rfl := Option.some.inj ho1
    obtain rfl := Option.some.inj hk1
    exact ⟨rfl, _, rfl, (Sub.cons rfl (Sub.cons rfl (Sub.cons rfl (Sub.cons rfl (Sub.cons rfl Sub.nil))))), (Le.upd_left (Le.upd_left (Le.under (Le.under (Le.refl _) hb1) hb2) ((upd_ne _ _ n_b2_b1.ne.symm).trans (upd_same _ _ _)) (by first | rfl | (simp; done))) (upd_same _ _ _) (by first | rfl | (simp; done)))⟩
 ·intro e s' h' hq
  cases R1 with
  | next x => exact hq.elim
  | ret r =>
   obtain ⟨rfl, hsub1, hle1⟩ := hq
   try dsimp only at hm
   refine blockA_r ?_
   refine thenA_r ?_
   obtain rfl := Option.some.inj hm
   refine retA_sub hsub1.ok hle1 ?_
   exact retA_r (h2 := h) (Res.one rfl (rfl)) (Le.refl _) ⟨rfl, rfl⟩
  | stop x id =>
   obtain ⟨rfl, x2, rfl, hsub2, hle2⟩ := hq
   try dsimp only at hm
   by_cases hid1 : id = 0
   ·subst hid1
    rw [if_pos rfl] at hm
    refine blockA_s ?_
    refine thenA_n ?_
    refine wpA_weaken hsub2.ok hle2 ?_
    refine wpA_seq ?_
    refine wpA_region ?_
    refine Ops_quiet _ rfl rfl (QO.assign rfl rfl) ?_
    refine Ops_nil ?_
    refine thenA_n ?_
    refine wpA_ret ?_
    obtain rfl := Option.some.inj hm
    exact retA_r (h2 := h) (Res.one rfl (rfl)) (Le.under (Le.under (Le.refl _) hb1) hb2) ⟨rfl, rfl⟩
   rw [if_neg hid1] at hm
   exact absurd hm (by simp)

/-! loop.example/g01195/impl.IsLoop -/
theorem c_impl_IsLoop {a0 : Sq} {h : Hp} {r : Bool} (hm : m_impl_IsLoop a0 = some r)  :
    QC Try.prog 10 #[.agg (sqC a0).toArray] h (.bool r) := by
 unfold m_impl_IsLoop at hm
 refine CC.enter Try.func10 rfl Try.ntmps10 rfl ?_
 refine wpA_seq ?_
 refine wpA_region ?_
 refine Ops_loud rfl (LO.boxAgg rfl rfl rfl (fun b1 hb1 => ?_))
 refine Ops_quiet _ rfl rfl (QO.assign rfl rfl) ?_
 refine Ops_nil ?_
 refine thenA_n ?_
 refine wpA_seq ?_
 refine wpA_region ?_
 refine Ops_quiet _ rfl rfl (QO.loadRow (cs := sqC a0) (hr := (rdAll (upd_same _ _ _))) rfl sz28 rfl rfl (sqC_length _)) ?_
 have hq := Option.bind_eq_some_iff.1 hm; clear hm; obtain ⟨r1, hr1, hm⟩ := hq
 refine Ops_call _ _ rfl rfl (EO.fn rfl Try.func8 rfl rfl (Evs.cons rfl Evs.nil)) (QC.cc (c_impl_IsSquare hr1 ) ?_)
 refine Ops_quiet _ rfl rfl (QO.move rfl rfl) ?_
 refine Ops_case 5 rfl (fun g1 => ?_) (fun g1 => ?_)
 ·replace hm := cond_t hm g1
  refine Ops_quiet _ rfl rfl (QO.loadRow (cs := sqC a0) (hr := (rdAll (upd_same _ _ _))) rfl sz28 rfl rfl (sqC_length _)) ?_
  have hq := Option.bind_eq_some_iff.1 hm; clear hm; obtain ⟨r2, hr2, hm⟩ := hq
  refine Ops_call _ _ rfl rfl (EO.fn rfl Try.func35 rfl rfl (Evs.cons rfl (Evs.cons rfl Evs.nil))) (QC.cc (c_impl_Square_isUnit hr2 ) ?_)
  refine Ops_quiet _ rfl rfl (QO.pick_t rfl rfl rfl) ?_
  refine Ops_quiet _ rfl rfl (QO.assign rfl rfl) ?_
  refine Ops_nil ?_
  refine thenA_n ?_
  refine wpA_ret ?_
  obtain rfl := Option.some.inj hm
  exact retA_r (h2 := h) (Res.one rfl (rfl)) (Le.under (Le.refl _) hb1) ⟨rfl, rfl⟩
 ·replace hm := cond_f hm g1
  refine Ops_skip rfl rfl ?_
  refine Ops_skip rfl rfl ?_
  refine Ops_quiet _ rfl rfl (QO.pick_f rfl rfl rfl) ?_
  refine Ops_quiet _ rfl rfl (QO.assign rfl rfl) ?_
  refine Ops_nil ?_
  refine thenA_n ?_
  refine wpA_ret ?_
  obtain rfl := Option.some.inj hm
  exact retA_r (h2 := h) (Res.one rfl (rfl)) (Le.under (Le.refl _) hb1) ⟨rfl, rfl⟩

/-! loop.example/g01195/spec.l01Loop -/
theorem c_spec_l01Loop {a0 : Sq} {h : Hp} {r : Bool} (hm : m_spec_l01Loop a0 = some r)  :
    QC Try.prog 36 #[.agg (sqC a0).toArray] h (.bool r) := by
 unfold m_spec_l01Loop at hm
 refine CC.enter Try.func36 rfl Try.ntmps36 rfl ?_
 refine wpA_seq ?_
 refine wpA_region ?_
 refine Ops_loud rfl (LO.boxAgg rfl rfl rfl (fun b1 hb1 => ?_))
 refine Ops_quiet _ rfl rfl (QO.assign rfl rfl) ?_
 refine Ops_nil ?_
 refine thenA_n ?_
 refine wpA_seq ?_
 refine wpA_seq ?_
 refine wpA_region ?_
 refine Ops_quiet _ rfl rfl (QO.loadRow (cs := sqC a0) (hr := (rdAll (upd_same _ _ _))) rfl sz28 rfl rfl (sqC_length _)) ?_
 have hq := Option.bind_eq_some_iff.1 hm; clear hm; obtain ⟨r1, hr1, hm⟩ := hq
 refine Ops_call _ _ rfl rfl (EO.fn rfl Try.func34 rfl rfl (Evs.cons rfl Evs.nil)) (QC.cc (c_spec_l01Is hr1 ) ?_)
 refine Ops_quiet _ rfl rfl (QO.not rfl rfl) ?_
 refine Ops_nil ?_
 refine thenA_n ?_
 refine wpA_cond rfl (fun g1 => ?_) (fun g1 => ?_)
 ·replace hm := cond_t hm g1
  refine wpA_seq ?_
  refine wpA_region ?_
  refine Ops_quiet _ rfl rfl (QO.assign rfl rfl) ?_
  refine Ops_nil ?_
  refine thenA_n ?_
  refine wpA_ret ?_
  refine thenA_r ?_
  obtain rfl := Option.some.inj hm
  exact retA_r (h2 := h) (Res.one rfl (rfl)) (Le.under (Le.refl _) hb1) ⟨rfl, rfl⟩
 ·replace hm := cond_f hm g1
  refine wpA_skip ?_
  refine thenA_n ?_
  refine wpA_seq ?_
  refine wpA_seq ?_
  refine wpA_region ?_
  refine Ops_quiet _ rfl rfl (QO.assign rfl rfl) ?_
  refine Ops_nil ?_
  refine thenA_n ?_
  refine wpA_block ?_
  obtain ⟨R1, hR, hm⟩ := Option.bind_eq_some_iff.1 hm
  obtain ⟨k1, hk1⟩ := loopV_some hR
  clear hR
  refine wpA_mono (Q := fun e s' h' => match (generalizing := false) R1 with | .stop x id => e = .exit id ∧ ∃ (x1 : Int), x1 = x ∧ Sub s' [(1, .pointer (some ⟨b1, 0, none⟩)), (3, .int .i64 x1)] ∧ Le (upd (h) b1 (.own 28 (sqC a0) 101)) h' | .ret r => e = .ret ∧ Sub s' [(2, .bool r)] ∧ Le (h) h' | .next _ => False) ?_ ?_
  ·refine wpA_loop (fun k s' h' => ∃ (x1 : Int), loopW (m_spec_l01Loop_l0 a0) k x1 = some R1 ∧ Sub s' [(1, .pointer (some ⟨b1, 0, none⟩)), (3, .int .i64 x1)] ∧ Le (upd (h) b1 (.own 28 (sqC a0) 101)) h') (m := k1) ⟨0, hk1, (Sub.cons rfl (Sub.cons rfl Sub.nil)), (Le.upd_left (Le.under (Le.refl _) hb1) (upd_same _ _ _) (by first | rfl | (simp; done)))⟩ ?_
   rintro k1 s' h' ⟨x1, hk1, hsub, hle⟩
   refine wpA_weaken hsub.ok hle ?_
   clear hsub hle s' h'
   cases k1 with
   | zero => exact absurd hk1 (by simp [loopW])
   | succ k1 =>
    obtain ⟨o1, ho1, hk1⟩ := loopW_succ hk1
    unfold m_spec_l01Loop_l0 at ho1
    try dsimp only at ho1
    refine wpA_seq ?_
    refine wpA_seq ?_
    refine wpA_region ?_
    refine Ops_quiet _ rfl rfl (QO.move rfl rfl) ?_
    refine Ops_quiet _ rfl rfl (QO.fieldAt (fo := 0) rfl sz28 rfl rfl sz2 rfl rfl) ?_
    refine Ops_quiet _ rfl rfl (QO.load rfl sz2 rfl rfl (by (refine (rd_own (upd_same _ _ _) _).trans ?_); exact rfl)) ?_
    refine Ops_quiet _ rfl rfl (QO.bin rfl rfl rfl rfl) ?_
    refine Ops_nil ?_
    refine thenA_n ?_
    refine wpA_cond rfl (fun g2 => ?_) (fun g2 => ?_)
    ·replace ho1 := cond_t ho1 g2
     refine wpA_skip ?_
     refine thenA_n ?_
     refine wpA_seq ?_
     refine wpA_block ?_
     refine wpA_seq ?_
     refine wpA_region ?_
     refine Ops_quiet _ rfl rfl (QO.move rfl rfl) ?_
     refine Ops_quiet _ rfl rfl (QO.fieldAt (fo := 1) rfl sz28 rfl rfl sz26 rfl rfl) ?_
     refine Ops_quiet _ rfl rfl (QO.idxArr rfl sz26 sz24 rfl rfl (by decide) (by decide)) ?_
     have hq := chk ho1; clear ho1; obtain ⟨ck1, ho1⟩ := hq
     refine Ops_quiet _ rfl rfl (QO.idxArr rfl sz24 sz5 rfl rfl (by omega) (by omega)) ?_
     refine Ops_quiet _ rfl rfl (QO.load rfl sz5 rfl rfl (by (refine (rd_own (upd_same _ _ _) _).trans ?_); exact sqC_get (by omega) (by omega))) ?_
     refine Ops_quiet _ rfl rfl (QO.move rfl rfl) ?_
     refine Ops_quiet _ rfl rfl (QO.conv rfl sz2 sz5 rfl) ?_
     refine Ops_quiet _ rfl rfl (QO.bin rfl rfl rfl rfl) ?_
     refine Ops_quiet _ rfl rfl (QO.move rfl rfl) ?_
     refine Ops_case 21 rfl (fun g3 => ?_) (fun g3 => ?_)
     ·replace ho1 := cond_t ho1 g3
      refine Ops_skip rfl rfl ?_
      refine Ops_skip rfl rfl ?_
      refine Ops_skip rfl rfl ?_
      refine Ops_skip rfl rfl ?_
      refine Ops_skip rfl rfl ?_
      refine Ops_skip rfl rfl ?_
      refine Ops_skip rfl rfl ?_
      refine Ops_skip rfl rfl ?_
      refine Ops_quiet _ rfl rfl (QO.pick_t rfl rfl rfl) ?_
      refine Ops_nil ?_
      refine thenA_n ?_
      refine wpA_cond_t rfl ?_
      refine wpA_seq ?_
      refine wpA_region ?_
      refine Ops_quiet _ rfl rfl (QO.assign rfl rfl) ?_
      refine Ops_nil ?_
      refine thenA_n ?_
      refine wpA_ret ?_
      refine blockA_r ?_
      refine thenA_r ?_
      refine thenA_r ?_
      obtain rfl := Option.some.inj ho1
      obtain rfl := Option.some.inj hk1
      exact ⟨rfl, (Sub.cons rfl Sub.nil), (Le.under (Le.refl _) hb1)⟩
     ·replace ho1 := cond_f ho1 g3
      refine Ops_quiet _ rfl rfl (QO.move rfl rfl) ?_
      refine Ops_quiet _ rfl rfl (QO.fieldAt (fo := 1) rfl sz28 rfl rfl sz26 rfl rfl) ?_
      have hq := chk ho1; clear ho1; obtain ⟨ck2, ho1⟩ := hq
      refine Ops_quiet _ rfl rfl (QO.idxArr rfl sz26 sz24 rfl rfl (by omega) (by omega)) ?_
      refine Ops_quiet _ rfl rfl (QO.idxArr rfl sz24 sz5 rfl rfl (by decide) (by decide)) ?_
      refine Ops_quiet _ rfl rfl (QO.load rfl sz5 rfl rfl (by (refine (rd_own (upd_same _ _ _) _).trans ?_); exact sqC_get (by omega) (by omega))) ?_
      refine Ops_quiet _ rfl rfl (QO.move rfl rfl) ?_
      refine Ops_quiet _ rfl rfl (QO.conv rfl sz2 sz5 rfl) ?_
      refine Ops_quiet _ rfl rfl (QO.bin rfl rfl rfl rfl) ?_
      refine Ops_quiet _ rfl rfl (QO.pick_f rfl rfl rfl) ?_
      refine Ops_nil ?_
      refine thenA_n ?_
      refine wpA_cond rfl (fun g4 => ?_) (fun g4 => ?_)
      ·replace ho1 := cond_t ho1 g4
       refine wpA_seq ?_
       refine wpA_region ?_
       refine Ops_quiet _ rfl rfl (QO.assign rfl rfl) ?_
       refine Ops_nil ?_
       refine thenA_n ?_
       refine wpA_ret ?_
       refine blockA_r ?_
       refine thenA_r ?_
       refine thenA_r ?_
       obtain rfl := Option.some.inj ho1
       obtain rfl := Option.some.inj hk1
       exact ⟨rfl, (Sub.cons rfl Sub.nil), (Le.under (Le.refl _) hb1)⟩
      ·replace ho1 := cond_f ho1 g4
       refine wpA_skip ?_
       refine blockA_n ?_
       refine thenA_n ?_
       refine wpA_region ?_
       refine Ops_quiet _ rfl rfl (QO.move rfl rfl) ?_
       refine Ops_quiet _ rfl rfl (QO.bin rfl rfl rfl rfl) ?_
       refine Ops_quiet _ rfl rfl (QO.assign rfl rfl) ?_
       refine Ops_nil ?_
       obtain rfl := Option.some.inj ho1
       dsimp only at hk1
       exact thenA_n ⟨k1, Nat.lt_succ_self _, _, hk1, (Sub.cons rfl (Sub.cons rfl Sub.nil)), (Le.upd_left (Le.under (Le.refl _) hb1) (upd_same _ _ _) (by first | rfl | (simp; done)))⟩
    ·replace ho1 := cond_f ho1 g2
     refine wpA_exit ?_
     refine thenA_e ?_
     refine thenA_e ?_
     obtain rfl := Option.some.inj ho1
     obtain rfl := Option.some.inj hk1
     exact ⟨rfl, _, rfl, (Sub.cons rfl (Sub.cons rfl Sub.nil)), (Le.upd_left (Le.under (Le.refl _) hb1) (upd_same _ _ _) (by first | rfl | (simp; done)))⟩
  ·intro e s' h' hq
   cases R1 with
   | next x => exact hq.elim
   | ret r =>
    obtain ⟨rfl, hsub1, hle1⟩ := hq
    try dsimp only at hm
    refine blockA_r ?_
    refine thenA_r ?_
    obtain rfl := Option.some.inj hm
    refine retA_sub hsub1.ok hle1 ?_
    exact retA_r (h2 := h) (Res.one rfl (rfl)) (Le.refl _) ⟨rfl, rfl⟩
   | stop x id =>
    obtain ⟨rfl, x2, rfl, hsub2, hle2⟩ := hq
    try dsimp only at hm
    by_cases hid1 : id = 0
    ·subst hid1
     rw [if_pos rfl] at hm
     refine blockA_s ?_
     refine thenA_n ?_
     refine wpA_weaken hsub2.ok hle2 ?_
     refine wpA_seq ?_
     refine wpA_region ?_
     refine Ops_quiet _ rfl rfl (QO.assign rfl rfl) ?_
     refine Ops_nil ?_
     refine thenA_n ?_
     refine wpA_ret ?_
     obtain rfl := Option.some.inj hm
     exact retA_r (h2 := h) (Res.one rfl (rfl)) (Le.under (Le.refl _) hb1) ⟨rfl, rfl⟩
    rw [if_neg hid1] at hm
    exact absurd hm (by simp)

/-! loop.example/g01195/spec.IsLoop -/
theorem c_spec_IsLoop {a0 : Sq} {h : Hp} {r : Bool} (hm : m_spec_IsLoop a0 = some r)  :
    QC Try.prog 11 #[.agg (sqC a0).toArray] h (.bool r) := by
 unfold m_spec_IsLoop at hm
 refine CC.enter Try.func11 rfl Try.ntmps11 rfl ?_
 refine wpA_seq ?_
 refine wpA_region ?_
 refine Ops_loud rfl (LO.boxAgg rfl rfl rfl (fun b1 hb1 => ?_))
 refine Ops_quiet _ rfl rfl (QO.assign rfl rfl) ?_
 refine Ops_nil ?_
 refine thenA_n ?_
 refine wpA_seq ?_
 refine wpA_region ?_
 refine Ops_quiet _ rfl rfl (QO.loadRow (cs := sqC a0) (hr := (rdAll (upd_same _ _ _))) rfl sz28 rfl rfl (sqC_length _)) ?_
 have hq := Option.bind_eq_some_iff.1 hm; clear hm; obtain ⟨r1, hr1, hm⟩ := hq
 refine Ops_call _ _ rfl rfl (EO.fn rfl Try.func36 rfl rfl (Evs.cons rfl Evs.nil)) (QC.cc (c_spec_l01Loop hr1 ) ?_)
 refine Ops_quiet _ rfl rfl (QO.assign rfl rfl) ?_
 refine Ops_nil ?_
 refine thenA_n ?_
 refine wpA_ret ?_
 obtain rfl := Option.some.inj hm
 exact retA_r (h2 := h) (Res.one rfl (rfl)) (Le.under (Le.refl _) hb1) ⟨rfl, rfl⟩

/-! (loop.example/g01195/impl.Square).isAssociative -/
theorem c_impl_Square_isAssociative {a0 : Sq} {h : Hp} {r : Bool} (hm : m_impl_Square_isAssociative a0 = some r)  :
    QC Try.prog 37 #[.agg (sqC a0).toArray] h (.bool r) := by
 unfold m_impl_Square_isAssociative at hm
 refine CC.enter Try.func37 rfl Try.ntmps37 rfl ?_
 refine wpA_seq ?_
 refine wpA_region ?_
 refine Ops_loud rfl (LO.boxAgg rfl rfl rfl (fun b1 hb1 => ?_))
 refine Ops_quiet _ rfl rfl (QO.assign rfl rfl) ?_
 refine Ops_nil ?_
 refine thenA_n ?_
 refine wpA_seq ?_
 refine wpA_seq ?_
 refine wpA_region ?_
 refine Ops_quiet _ rfl rfl (QO.loadRow (cs := sqC a0) (hr := (rdAll (upd_same _ _ _))) rfl sz28 rfl rfl (sqC_length _)) ?_
 have hq := Option.bind_eq_some_iff.1 hm; clear hm; obtain ⟨r1, hr1, hm⟩ := hq
 refine Ops_call _ _ rfl rfl (EO.fn rfl Try.func44 rfl rfl (Evs.cons rfl Evs.nil)) (CC.mono (c_impl_Square_elements hr1 ) ?_)
 rintro _ _ ⟨b2, cap_b2, rfl, hb2, hk_b2, hc_b2, rfl⟩
 simp only [upd_noneA] at hb2
 obtain ⟨n_b2_b1, hb2⟩ := hb2
 refine Ops_quiet _ rfl rfl (QO.lenSl rfl sz22 rfl) ?_
 refine Ops_quiet _ rfl rfl (QO.move rfl rfl) ?_
 refine Ops_nil ?_
 refine thenA_n ?_
 refine wpA_block ?_
 obtain ⟨R1, hR, hm⟩ := Option.bind_eq_some_iff.1 hm
 obtain ⟨k1, hk1⟩ := loopV_some hR
 clear hR
 refine wpA_mono (Q := fun e s' h' => match (generalizing := false) R1 with | .stop x id => e = .exit id ∧ ∃ (x1 : Int), x1 = x ∧ Sub s' [(1, .pointer (some ⟨b1, 0, none⟩)), (10, .slice (some ⟨b2, 0, none⟩) r1.length cap_b2), (11, .int .i64 ((r1.length : Nat) : Int)), (12, .int .i64 x1)] ∧ Le (upd (upd (h) b1 (.own 28 (sqC a0) 101)) b2 (.own 5 (ints .u8 r1) (cap_b2 * 1))) h' | .ret r => e = .ret ∧ Sub s' [(2, .bool r)] ∧ Le (h) h' | .next _ => False) ?_ ?_
 ·refine wpA_loop (fun k s' h' => ∃ (x1 : Int), loopW (m_impl_Square_isAssociative_l0 a0 r1) k x1 = some R1 ∧ Sub s' [(1, .pointer (some ⟨b1, 0, none⟩)), (10, .slice (some ⟨b2, 0, none⟩) r1.length cap_b2), (11, .int .i64 ((r1.length : Nat) : Int)), (12, .int .i64 x1)] ∧ Le (upd (upd (h) b1 (.own 28 (sqC a0) 101)) b2 (.own 5 (ints .u8 r1) (cap_b2 * 1))) h') (m := k1) ⟨0, hk1, (Sub.cons rfl (Sub.cons rfl (Sub.cons rfl (Sub.cons rfl Sub.nil)))), (Le.upd_left (Le.upd_left (Le.under (Le.under (Le.refl _) hb1) hb2) ((upd_ne _ _ n_b2_b1.ne.symm).trans (upd_same _ _ _)) (by first | rfl | (simp; done))) (upd_same _ _ _) (by first | rfl | (simp; done)))⟩ ?_
  rintro k1 s' h' ⟨x1, hk1, hsub, hle⟩
  refine wpA_weaken hsub.ok hle ?_
  clear hsub hle s' h'
  cases k1 with
  | zero => exact absurd hk1 (by simp [loopW])
  | succ k1 =>
   obtain ⟨o1, ho1, hk1⟩ := loopW_succ hk1
   unfold m_impl_Square_isAssociative_l0 at ho1
   try dsimp only at ho1
   refine wpA_seq ?_
   refine wpA_region ?_
   refine Ops_quiet _ rfl rfl (QO.bin rfl rfl rfl rfl) ?_
   refine Ops_nil ?_
   refine thenA_n ?_
   refine wpA_seq ?_
   refine wpA_cond rfl (fun g1 => ?_) (fun g1 => ?_)
   ·replace ho1 := cond_t ho1 g1
    refine wpA_skip ?_
    refine thenA_n ?_
    refine wpA_seq ?_
    refine wpA_block ?_
    refine wpA_seq ?_
    refine wpA_region ?_
    have hq := chk ho1; clear ho1; obtain ⟨ck1, ho1⟩ := hq
    refine Ops_quiet _ rfl rfl (QO.idxSl rfl sz22 sz5 rfl rfl (by omega) (by omega)) ?_
    refine Ops_quiet _ rfl rfl (QO.load rfl sz5 rfl rfl (by (refine (rd_own (upd_same _ _ _) _).trans ?_); exact ints_get01 (by first | omega | (simp only [List.length_cons, List.length_nil]; omega)))) ?_
    refine Ops_quiet _ rfl rfl (QO.assign rfl rfl) ?_
    refine Ops_nil ?_
    refine thenA_n ?_
    refine wpA_seq ?_
    refine wpA_region ?_
    refine Ops_quiet _ rfl rfl (QO.loadRow (cs := sqC a0) (hr := (rdAll ((upd_ne _ _ n_b2_b1.ne.symm).trans (upd_same _ _ _)))) rfl sz28 rfl rfl (sqC_length _)) ?_
    have hq := Option.bind_eq_some_iff.1 ho1; clear ho1; obtain ⟨r2, hr2, ho1⟩ := hq
    refine Ops_call _ _ rfl rfl (EO.fn rfl Try.func44 rfl rfl (Evs.cons rfl Evs.nil)) (CC.mono (c_impl_Square_elements hr2 ) ?_)
    rintro _ _ ⟨b3, cap_b3, rfl, hb3, hk_b3, hc_b3, rfl⟩
    simp only [upd_noneA] at hb3
    obtain ⟨n_b3_b2, n_b3_b1, hb3⟩ := hb3
    refine Ops_quiet _ rfl rfl (QO.lenSl rfl sz22 rfl) ?_
    refine Ops_quiet _ rfl rfl (QO.move rfl rfl) ?_
    refine Ops_nil ?_
    refine thenA_n ?_
    refine wpA_block ?_
    obtain ⟨R2, hR, ho1⟩ := Option.bind_eq_some_iff.1 ho1
    obtain ⟨k2, hk2⟩ := loopV_some hR
    clear hR
    refine wpA_mono (Q := fun e s' h' => match (generalizing := false) R2 with | .stop x id => e = .exit id ∧ ∃ (x2 : Int), x2 = x ∧ Sub s' [(1, .pointer (some ⟨b1, 0, none⟩)), (4, .int .u8 (r1.getD (x1).toNat 0)), (10, .slice (some ⟨b2, 0, none⟩) r1.length cap_b2), (11, .int .i64 ((r1.length : Nat) : Int)), (12, .int .i64 x1), (17, .slice (some ⟨b3, 0, none⟩) r2.length cap_b3), (18, .int .i64 ((r2.length : Nat) : Int)), (19, .int .i64 x2)] ∧ Le (upd (upd (upd (h) b1 (.own 28 (sqC a0) 101)) b2 (.own 5 (ints .u8 r1) (cap_b2 * 1))) b3 (.own 5 (ints .u8 r2) (cap_b3 * 1))) h' | .ret r => e = .ret ∧ Sub s' [(2, .bool r)] ∧ Le (h) h' | .next _ => False) ?_ ?_
    ·refine wpA_loop (fun k s' h' => ∃ (x2 : Int), loopW (m_impl_Square_isAssociative_l1 a0 r1 x1 r2) k x2 = some R2 ∧ Sub s' [(1, .pointer (some ⟨b1, 0, none⟩)), (4, .int .u8 (r1.getD (x1).toNat 0)), (10, .slice (some ⟨b2, 0, none⟩) r1.length cap_b2), (11, .int .i64 ((r1.length : Nat) : Int)), (12, .int .i64 x1), (17, .slice (some ⟨b3, 0, none⟩) r2.length cap_b3), (18, .int .i64 ((r2.length : Nat) : Int)), (19, .int .i64 x2)] ∧ Le (upd (upd (upd (h) b1 (.own 28 (sqC a0) 101)) b2 (.own 5 (ints .u8 r1) (cap_b2 * 1))) b3 (.own 5 (ints .u8 r2) (cap_b3 * 1))) h') (m := k2) ⟨0, hk2, (Sub.cons rfl (Sub.cons rfl (Sub.cons rfl (Sub.cons rfl (Sub.cons rfl (Sub.cons rfl (Sub.cons rfl (Sub.cons rfl Sub.nil)))))))), (Le.upd_left (Le.upd_left (Le.upd_left (Le.under (Le.under (Le.under (Le.refl _) hb1) hb2) hb3) ((upd_ne _ _ n_b3_b1.ne.symm).trans ((upd_ne _ _ n_b2_b1.ne.symm).trans (upd_same _ _ _))) (by first | rfl | (simp; done))) ((upd_ne _ _ n_b3_b2.ne.symm).trans (upd_same _ _ _)) (by first | rfl | (simp; done))) (upd_same _ _ _) (by first | rfl | (simp; done)))⟩ ?_
     rintro k2 s' h' ⟨x2, hk2, hsub, hle⟩
     refine wpA_weaken hsub.ok hle ?_
     clear hsub hle s' h'
     cases k2 with
     | zero => exact absurd hk2 (by simp [loopW])
     | succ k2 =>
      obtain ⟨o2, ho2, hk2⟩ := loopW_succ hk2
      unfold m_impl_Square_isAssociative_l1 at ho2
      try dsimp only at ho2
      refine wpA_seq ?_
      refine wpA_region ?_
      refine Ops_quiet _ rfl rfl (QO.bin rfl rfl rfl rfl) ?_
      refine Ops_nil ?_
      refine thenA_n ?_
      refine wpA_seq ?_
      refine wpA_cond rfl (fun g2 => ?_) (fun g2 => ?_)
      ·replace ho2 := cond_t ho2 g2
       refine wpA_skip ?_
       refine thenA_n ?_
       refine wpA_seq ?_
       refine wpA_block ?_
       refine wpA_seq ?_
       refine wpA_region ?_
       have hq := chk ho2; clear ho2; obtain ⟨ck2, ho2⟩ := hq
       refine Ops_quiet _ rfl rfl (QO.idxSl rfl sz22 sz5 rfl rfl (by omega) (by omega)) ?_
       refine Ops_quiet _ rfl rfl (QO.load rfl sz5 rfl rfl (by (refine (rd_own (upd_same _ _ _) _).trans ?_); exact ints_get01 (by first | omega | (simp only [List.length_cons, List.length_nil]; omega)))) ?_
       refine Ops_quiet _ rfl rfl (QO.assign rfl rfl) ?_
       refine Ops_nil ?_
       refine thenA_n ?_
       refine wpA_seq ?_
       refine wpA_region ?_
       refine Ops_quiet _ rfl rfl (QO.loadRow (cs := sqC a0) (hr := (rdAll ((upd_ne _ _ n_b3_b1.ne.symm).trans ((upd_ne _ _ n_b2_b1.ne.symm).trans (upd_same _ _ _))))) rfl sz28 rfl rfl (sqC_length _)) ?_
       have hq := Option.bind_eq_some_iff.1 ho2; clear ho2; obtain ⟨r3, hr3, ho2⟩ := hq
       refine Ops_call _ _ rfl rfl (EO.fn rfl Try.func44 rfl rfl (Evs.cons rfl Evs.nil)) (CC.mono (c_impl_Square_elements hr3 ) ?_)
       rintro _ _ ⟨b4, cap_b4, rfl, hb4, hk_b4, hc_b4, rfl⟩
       simp only [upd_noneA] at hb4
       obtain ⟨n_b4_b3, n_b4_b2, n_b4_b1, hb4⟩ := hb4
       refine Ops_quiet _ rfl rfl (QO.lenSl rfl sz22 rfl) ?_
       refine Ops_quiet _ rfl rfl (QO.move rfl rfl) ?_
       refine Ops_nil ?_
       refine thenA_n ?_
       refine wpA_block ?_
       obtain ⟨R3, hR, ho2⟩ := Option.bind_eq_some_iff.1 ho2
       obtain ⟨k3, hk3⟩ := loopV_some hR
       clear hR
       refine wpA_mono (Q := fun e s' h' => match (generalizing := false) R3 with | .stop x id => e = .exit id ∧ ∃ (x3 : Int), x3 = x ∧ Sub s' [(1, .pointer (some ⟨b1, 0, none⟩)), (4, .int .u8 (r1.getD (x1).toNat 0)), (6, .int .u8 (r2.getD (x2).toNat 0)), (10, .slice (some ⟨b2, 0, none⟩) r1.length cap_b2), (11, .int .i64 ((r1.length : Nat) : Int)), (12, .int .i64 x1), (17, .slice (some ⟨b3, 0, none⟩) r2.length cap_b3), (18, .int .i64 ((r2.length : Nat) : Int)), (19, .int .i64 x2), (24, .slice (some ⟨b4, 0, none⟩) r3.length cap_b4), (25, .int .i64 ((r3.length : Nat) : Int)), (26, .int .i64 x3)] ∧ Le (upd (upd (upd (upd (h) b1 (.own 28 (sqC a0) 101)) b2 (.own 5 (ints .u8 r1) (cap_b2 * 1))) b3 (.own 5 (ints .u8 r2) (cap_b3 * 1))) b4 (.own 5 (ints .u8 r3) (cap_b4 * 1))) h' | .ret r => e = .ret ∧ Sub s' [(2, .bool r)] ∧ Le (h) h' | .next _ => False) ?_ ?_
       ·refine wpA_loop (fun k s' h' => ∃ (x3 : Int), loopW (m_impl_Square_isAssociative_l2 a0 r1 x1 r2 x2 r3) k x3 = some R3 ∧ Sub s' [(1, .pointer (some ⟨b1, 0, none⟩)), (4, .int .u8 (r1.getD (x1).toNat 0)), (6, .int .u8 (r2.getD (x2).toNat 0)), (10, .slice (some ⟨b2, 0, none⟩) r1.length cap_b2), (11, .int .i64 ((r1.length : Nat) : Int)), (12, .int .i64 x1), (17, .slice (some ⟨b3, 0, none⟩) r2.length cap_b3), (18, .int .i64 ((r2.length : Nat) : Int)), (19, .int .i64 x2), (24, .slice (some ⟨b4, 0, none⟩) r3.length cap_b4), (25, .int .i64 ((r3.length : Nat) : Int)), (26, .int .i64 x3)] ∧ Le (upd (upd (upd (upd (h) b1 (.own 28 (sqC a0) 101)) b2 (.own 5 (ints .u8 r1) (cap_b2 * 1))) b3 (.own 5 (ints .u8 r2) (cap_b3 * 1))) b4 (.own 5 (ints .u8 r3) (cap_b4 * 1))) h') (m := k3) ⟨0, hk3, (Sub.cons rfl (Sub.cons rfl (Sub.cons rfl (Sub.cons rfl (Sub.cons rfl (Sub.cons rfl (Sub.cons rfl (Sub.cons rfl (Sub.cons rfl (Sub.cons rfl (Sub.cons rfl (Sub.cons rfl Sub.nil)))))))))))), (Le.upd_left (Le.upd_left (Le.upd_left (Le.upd_left (Le.under (Le.under (Le.under (Le.under (Le.refl _) hb1) hb2) hb3) hb4) ((upd_ne _ _ n_b4_b1.ne.symm).trans ((upd_ne _ _ n_b3_b1.ne.symm).trans ((upd_ne _ _ n_b2_b1.ne.symm).trans (upd_same _ _ _)))) (by first | rfl | (simp; done))) ((upd_ne _ _ n_b4_b2.ne.symm).trans ((upd_ne _ _ n_b3_b2.ne.symm).trans (upd_same _ _ _))) (by first | rfl | (simp; done))) ((upd_ne _ _ n_b4_b3.ne.symm).trans (upd_same _ _ _)) (by first | rfl | (simp; done))) (upd_same _ _ _) (by first | rfl | (simp; done)))⟩ ?_
        rintro k3 s' h' ⟨x3, hk3, hsub, hle⟩
        refine wpA_weaken hsub.ok hle ?_
        clear hsub hle s' h'
        cases k3 with
        | zero => exact absurd hk3 (by simp [loopW])
        | succ k3 =>
         obtain ⟨o3, ho3, hk3⟩ := loopW_succ hk3
         unfold m_impl_Square_isAssociative_l2 at ho3
         try dsimp only at ho3
         refine wpA_seq ?_
         refine wpA_region ?_
         refine Ops_quiet _ rfl rfl (QO.bin rfl rfl rfl rfl) ?_
         refine Ops_nil ?_
         refine thenA_n ?_
         refine wpA_seq ?_
         refine wpA_cond rfl (fun g3 => ?_) (fun g3 => ?_)
         ·replace ho3 := cond_t ho3 g3
          refine wpA_skip ?_
          refine thenA_n ?_
          refine wpA_seq ?_
          refine wpA_block ?_
          refine wpA_seq ?_
          refine wpA_region ?_
          have hq := chk ho3; clear ho3; obtain ⟨ck3, ho3⟩ := hq
          refine Ops_quiet _ rfl rfl (QO.idxSl rfl sz22 sz5 rfl rfl (by omega) (by omega)) ?_
          refine Ops_quiet _ rfl rfl (QO.load rfl sz5 rfl rfl (by (refine (rd_own (upd_same _ _ _) _).trans ?_); exact ints_get01 (by first | omega | (simp only [List.length_cons, List.length_nil]; omega)))) ?_
          refine Ops_quiet _ rfl rfl (QO.assign rfl rfl) ?_
          refine Ops_nil ?_
          refine thenA_n ?_
          refine wpA_seq ?_
          refine wpA_drawn (by kernel_rfl) (by kernel_rfl) ?_
          refine QOps.quiet _ rfl rfl (QO.move rfl rfl) ?_
          refine QOps.quiet _ rfl rfl (QO.move rfl rfl) ?_
          refine QOps.quiet _ rfl rfl (QO.fieldAt (fo := 1) rfl sz28 rfl rfl sz26 rfl rfl) ?_
          have hq := chk ho3; clear ho3; obtain ⟨ck4, ho3⟩ := hq
          refine QOps.quiet _ rfl rfl (QO.idxArr rfl sz26 sz24 rfl rfl (by omega) (by omega)) ?_
          have hq := chk ho3; clear ho3; obtain ⟨ck5, ho3⟩ := hq
          refine QOps.quiet _ rfl rfl (QO.idxArr rfl sz24 sz5 rfl rfl (by omega) (by omega)) ?_
          refine QOps.quiet _ rfl rfl (QO.load rfl sz5 rfl rfl (by (refine (rd_own ((upd_ne _ _ n_b4_b1.ne.symm).trans ((upd_ne _ _ n_b3_b1.ne.symm).trans ((upd_ne _ _ n_b2_b1.ne.symm).trans (upd_same _ _ _)))) _).trans ?_); exact sqC_get (by omega) (by omega))) ?_
          refine QOps.quiet _ rfl rfl (QO.move rfl rfl) ?_
          refine QOps.quiet _ rfl rfl (QO.fieldAt (fo := 1) rfl sz28 rfl rfl sz26 rfl rfl) ?_
          have hq := chk ho3; clear ho3; obtain ⟨ck6, ho3⟩ := hq
          refine QOps.quiet _ rfl rfl (QO.idxArr rfl sz26 sz24 rfl rfl (by omega) (by omega)) ?_
          have hq := chk ho3; clear ho3; obtain ⟨ck7, ho3⟩ := hq
          refine QOps.quiet _ rfl rfl (QO.idxArr rfl sz24 sz5 rfl rfl (by omega) (by omega)) ?_
          refine QOps.quiet _ rfl rfl (QO.load rfl sz5 rfl rfl (by (refine (rd_own ((upd_ne _ _ n_b4_b1.ne.symm).trans ((upd_ne _ _ n_b3_b1.ne.symm).trans ((upd_ne _ _ n_b2_b1.ne.symm).trans (upd_same _ _ _)))) _).trans ?_); exact sqC_get (by omega) (by omega))) ?_
          refine QOps.quiet _ rfl rfl (QO.move rfl rfl) ?_
          refine QOps.quiet _ rfl rfl (QO.move rfl rfl) ?_
          refine QOps.quiet _ rfl rfl (QO.move rfl rfl) ?_
          refine QOps.quiet _ rfl rfl (QO.fieldAt (fo := 1) rfl sz28 rfl rfl sz26 rfl rfl) ?_
          have hq := chk ho3; clear ho3; obtain ⟨ck8, ho3⟩ := hq
          refine QOps.quiet _ rfl rfl (QO.idxArr rfl sz26 sz24 rfl rfl (by omega) (by omega)) ?_
          have hq := chk ho3; clear ho3; obtain ⟨ck9, ho3⟩ := hq
          refine QOps.quiet _ rfl rfl (QO.idxArr rfl sz24 sz5 rfl rfl (by omega) (by omega)) ?_
          refine QOps.quiet _ rfl rfl (QO.load rfl sz5 rfl rfl (by (refine (rd_own ((upd_ne _ _ n_b4_b1.ne.symm).trans ((upd_ne _ _ n_b3_b1.ne.symm).trans ((upd_ne _ _ n_b2_b1.ne.symm).trans (upd_same _ _ _)))) _).trans ?_); exact sqC_get (by omega) (by omega))) ?_
          refine QOps.quiet _ rfl rfl (QO.fieldAt (fo := 1) rfl sz28 rfl rfl sz26 rfl rfl) ?_
          have hq := chk ho3; clear ho3; obtain ⟨ck10, ho3⟩ := hq
          refine QOps.quiet _ rfl rfl (QO.idxArr rfl sz26 sz24 rfl rfl (by omega) (by omega)) ?_
          have hq := chk ho3; clear ho3; obtain ⟨ck11, ho3⟩ := hq
          refine QOps.quiet _ rfl rfl (QO.idxArr rfl sz24 sz5 rfl rfl (by omega) (by omega)) ?_
          refine QOps.quiet _ rfl rfl (QO.load rfl sz5 rfl rfl (by (refine (rd_own ((upd_ne _ _ n_b4_b1.ne.symm).trans ((upd_ne _ _ n_b3_b1.ne.symm).trans ((upd_ne _ _ n_b2_b1.ne.symm).trans (upd_same _ _ _)))) _).trans ?_); exact sqC_get (by omega) (by omega))) ?_
          refine QOps.quiet _ rfl rfl (QO.bin rfl rfl rfl rfl) ?_
          refine QOps.nil ?_
          refine thenA_n ?_
          refine wpA_cond rfl (fun g4 => ?_) (fun g4 => ?_)
          ·replace ho3 := cond_t ho3 g4
           refine wpA_seq ?_
           refine wpA_region ?_
           refine Ops_quiet _ rfl rfl (QO.assign rfl rfl) ?_
           refine Ops_nil ?_
           refine thenA_n ?_
           refine wpA_ret ?_
           refine blockA_r ?_
           refine thenA_r ?_
           refine thenA_r ?_
           obtain rfl := Option.some.inj ho3
           obtain rfl := Option.some.inj hk3
           exact ⟨rfl, (Sub.cons rfl Sub.nil), (Le.under (Le.under (Le.under (Le.under (Le.refl _) hb1) hb2) hb3) hb4)⟩
          ·replace ho3 := cond_f ho3 g4
           refine wpA_skip ?_
           refine blockA_n ?_
           refine thenA_n ?_
           refine wpA_region ?_
           refine Ops_quiet _ rfl rfl (QO.bin rfl rfl rfl rfl) ?_
           refine Ops_quiet _ rfl rfl (QO.move rfl rfl) ?_
           refine Ops_nil ?_
           obtain rfl := Option.some.inj ho3
           dsimp only at hk3
           exact thenA_n ⟨k3, Nat.lt_succ_self _, _, hk3, (Sub.cons rfl (Sub.cons rfl (Sub.cons rfl (Sub.cons rfl (Sub.cons rfl (Sub.cons rfl (Sub.cons rfl (Sub.cons rfl (Sub.cons rfl (Sub.cons rfl (Sub.cons rfl (Sub.cons rfl Sub.nil)))))))))))), (Le.upd_left (Le.upd_left (Le.upd_left (Le.upd_left (Le.under (Le.under (Le.under (Le.under (Le.refl _) hb1) hb2) hb3) hb4) ((upd_ne _ _ n_b4_b1.ne.symm).trans ((upd_ne _ _ n_b3_b1.ne.symm).trans ((upd_ne _ _ n_b2_b1.ne.symm).trans (upd_same _ _ _)))) (by first | rfl | (simp; done))) ((upd_ne _ _ n_b4_b2.ne.symm).trans ((upd_ne _ _ n_b3_b2.ne.symm).trans (upd_same _ _ _))) (by first | rfl | (simp; done))) ((upd_ne _ _ n_b4_b3.ne.symm).trans (upd_same _ _ _)) (by first | rfl | (simp; done))) (upd_same _ _ _) (by first | rfl | (simp; done)))⟩
         ·replace ho3 := cond_f ho3 g3
          refine wpA_exit ?_
          refine thenA_e ?_
          refine thenA_e ?_
          obtain rfl := Option.some.inj ho3
          obtain rfl := Option.some.inj hk3
          exact ⟨rfl, _, rfl, (Sub.cons rfl (Sub.cons rfl (Sub.cons rfl (Sub.cons rfl (Sub.cons rfl (Sub.cons rfl (Sub.cons rfl (Sub.cons rfl (Sub.cons rfl (Sub.cons rfl (Sub.cons rfl (Sub.cons rfl Sub.nil)))))))))))), (Le.upd_left (Le.upd_left (Le.upd_left (Le.upd_left (Le.under (Le.under (Le.under (Le.under (Le.refl _) hb1) hb2) hb3) hb4) ((upd_ne _ _ n_b4_b1.ne.symm).trans ((upd_ne _ _ n_b3_b1.ne.symm).trans ((upd_ne _ _ n_b2_b1.ne.symm).trans (upd_same _ _ _)))) (by first | rfl | (simp; done))) ((upd_ne _ _ n_b4_b2.ne.symm).trans ((upd_ne _ _ n_b3_b2.ne.symm).trans (upd_same _ _ _))) (by first | rfl | (simp; done))) ((upd_ne _ _ n_b4_b3.ne.symm).trans (upd_same _ _ _)) (by first | rfl | (simp; done))) (upd_same _ _ _) (by first | rfl | (simp; done)))⟩
       ·intro e s' h' hq
        cases R3 with
        | next x => exact hq.elim
        | ret r =>
         obtain ⟨rfl, hsub1, hle1⟩ := hq
         try dsimp only at ho2
         refine blockA_r ?_
         refine blockA_r ?_
         refine thenA_r ?_
         refine thenA_r ?_
         obtain rfl := Option.some.inj ho2
         obtain rfl := Option.some.inj hk2
         exact ⟨rfl, (Sub.trans hsub1 (Sub.cons rfl Sub.nil)), (Le.trans (Le.refl _) hle1)⟩
        | stop x id =>
         obtain ⟨rfl, x4, rfl, hsub2, hle2⟩ := hq
         try dsimp only at ho2
         by_cases hid1 : id = 4
         ·subst hid1
          rw [if_pos rfl] at ho2
          refine blockA_s ?_
          refine blockA_n ?_
          refine thenA_n ?_
          refine wpA_weaken hsub2.ok hle2 ?_
          refine wpA_region ?_
          refine Ops_quiet _ rfl rfl (QO.bin rfl rfl rfl rfl) ?_
          refine Ops_quiet _ rfl rfl (QO.move rfl rfl) ?_
          refine Ops_nil ?_
          obtain rfl := Option.some.inj ho2
          dsimp only at hk2
          exact thenA_n ⟨k2, Nat.lt_succ_self _, _, hk2, (Sub.cons rfl (Sub.cons rfl (Sub.cons rfl (Sub.cons rfl (Sub.cons rfl (Sub.cons rfl (Sub.cons rfl (Sub.cons rfl Sub.nil)))))))), (Le.upd_left (Le.upd_left (Le.upd_left (Le.under (Le.under (Le.under (Le.under (Le.refl _) hb1) hb2) hb3) hb4) ((upd_ne _ _ n_b4_b1.ne.symm).trans ((upd_ne _ _ n_b3_b1.ne.symm).trans ((upd_ne _ _ n_b2_b1.ne.symm).trans (upd_same _ _ _)))) (by first | rfl | (simp; done))) ((upd_ne _ _ n_b4_b2.ne.symm).trans ((upd_ne _ _ n_b3_b2.ne.symm).trans (upd_same _ _ _))) (by first | rfl | (simp; done))) ((upd_ne _ _ n_b4_b3.ne.symm).trans (upd_same _ _ _)) (by first | rfl | (simp; done)))⟩
         rw [if_neg hid1] at ho2
         exact absurd ho2 (by simp)
      ·replace ho2 := cond_f ho2 g2
       refine wpA_exit ?_
       refine thenA_e ?_
       refine thenA_e ?_
       obtain rfl := Option.some.inj ho2
       obtain rfl := Option.some.inj hk2
       exact ⟨rfl, _, rfl, (Sub.cons rfl (Sub.cons rfl (Sub.cons rfl (Sub.cons rfl (Sub.cons rfl (Sub.cons rfl (Sub.cons rfl (Sub.cons rfl Sub.nil)))))))), (Le.upd_left (Le.upd_left (Le.upd_left (Le.under (Le.under (Le.under (Le.refl _) hb1) hb2) hb3) ((upd_ne _ _ n_b3_b1.ne.symm).trans ((upd_ne _ _ n_b2_b1.ne.symm).trans (upd_same _ _ _))) (by first | rfl | (simp; done))) ((upd_ne _ _ n_b3_b2.ne.symm).trans (upd_same _ _ _)) (by first | rfl | (simp; done))) (upd_same _ _ _) (by first | rfl | (simp; done)))⟩
    ·intro e s' h' hq
     cases R2 with
     | next x => exact hq.elim
     | ret r =>
      obtain ⟨rfl, hsub3, hle3⟩ := hq
      try dsimp only at ho1
      refine blockA_r ?_
      refine blockA_r ?_
      refine thenA_r ?_
      refine thenA_r ?_
      obtain rfl := Option.some.inj ho1
      obtain rfl := Option.some.inj hk1
      exact ⟨rfl, (Sub.trans hsub3 (Sub.cons rfl Sub.nil)), (Le.trans (Le.refl _) hle3)⟩
     | stop x id =>
      obtain ⟨rfl, x5, rfl, hsub4, hle4⟩ := hq
      try dsimp only at ho1
      by_cases hid2 : id = 2
      ·subst hid2
       rw [if_pos rfl] at ho1
       refine blockA_s ?_
       refine blockA_n ?_
       refine thenA_n ?_
       refine wpA_weaken hsub4.ok hle4 ?_
       refine wpA_region ?_
       refine Ops_quiet _ rfl rfl (QO.bin rfl rfl rfl rfl) ?_
       refine Ops_quiet _ rfl rfl (QO.move rfl rfl) ?_
       refine Ops_nil ?_
       obtain rfl := Option.some.inj ho1
       dsimp only at hk1
       exact thenA_n ⟨k1, Nat.lt_succ_self _, _, hk1, (Sub.cons rfl (Sub.cons rfl (Sub.cons rfl (Sub.cons rfl Sub.nil)))), (Le.upd_left (Le.upd_left (Le.under (Le.under (Le.under (Le.refl _) hb1) hb2) hb3) ((upd_ne _ _ n_b3_b1.ne.symm).trans ((upd_ne _ _ n_b2_b1.ne.symm).trans (upd_same _ _ _))) (by first | rfl | (simp; done))) ((upd_ne _ _ n_b3_b2.ne.symm).trans (upd_same _ _ _)) (by first | rfl | (simp; done)))⟩
      rw [if_neg hid2] at ho1
      exact absurd ho1 (by simp)
   ·replace ho1 := cond_f ho1 g1
    refine wpA_exit ?_
    refine thenA_e ?_
    refine thenA_e ?_
    obtain rfl := Option.some.inj ho1
    obtain rfl := Option.some.inj hk1
    exact ⟨rfl, _, rfl, (Sub.cons rfl (Sub.cons rfl (Sub.cons rfl (Sub.cons rfl Sub.nil)))), (Le.upd_left (Le.upd_left (Le.under (Le.under (Le.refl _) hb1) hb2) ((upd_ne _ _ n_b2_b1.ne.symm).trans (upd_same _ _ _)) (by first | rfl | (simp; done))) (upd_same _ _ _) (by first | rfl | (simp; done)))⟩
 ·intro e s' h' hq
  cases R1 with
  | next x => exact hq.elim
  | ret r =>
   obtain ⟨rfl, hsub5, hle5⟩ := hq
   try dsimp only at hm
   refine blockA_r ?_
   refine thenA_r ?_
   obtain rfl := Option.some.inj hm
   refine retA_sub hsub5.ok hle5 ?_
   exact retA_r (h2 := h) (Res.one rfl (rfl)) (Le.refl _) ⟨rfl, rfl⟩
  | stop x id =>
   obtain ⟨rfl, x6, rfl, hsub6, hle6⟩ := hq
   try dsimp only at hm
   by_cases hid3 : id = 0
   ·subst hid3
    rw [if_pos rfl] at hm
    refine blockA_s ?_
    refine thenA_n ?_
    refine wpA_weaken hsub6.ok hle6 ?_
    refine wpA_seq ?_
    refine wpA_region ?_
    refine Ops_quiet _ rfl rfl (QO.assign rfl rfl) ?_
    refine Ops_nil ?_
    refine thenA_n ?_
    refine wpA_ret ?_
    obtain rfl := Option.some.inj hm
    exact retA_r (h2 := h) (Res.one rfl (rfl)) (Le.under (Le.under (Le.refl _) hb1) hb2) ⟨rfl, rfl⟩
   rw [if_neg hid3] at hm
   exact absurd hm (by simp)

/-! loop.example/g01195/impl.IsGroup -/
theorem c_impl_IsGroup {a0 : Sq} {h : Hp} {r : Bool} (hm : m_impl_IsGroup a0 = some r)  :
    QC Try.prog 12 #[.agg (sqC a0).toArray] h (.bool r) := by
 unfold m_impl_IsGroup at hm
 refine CC.enter Try.func12 rfl Try.ntmps12 rfl ?_
 refine wpA_seq ?_
 refine wpA_region ?_
 refine Ops_loud rfl (LO.boxAgg rfl rfl rfl (fun b1 hb1 => ?_))
 refine Ops_quiet _ rfl rfl (QO.assign rfl rfl) ?_
 refine Ops_nil ?_
 refine thenA_n ?_
 refine wpA_seq ?_
 refine wpA_region ?_
 refine Ops_quiet _ rfl rfl (QO.loadRow (cs := sqC a0) (hr := (rdAll (upd_same _ _ _))) rfl sz28 rfl rfl (sqC_length _)) ?_
 have hq := Option.bind_eq_some_iff.1 hm; clear hm; obtain ⟨r1, hr1, hm⟩ := hq
 refine Ops_call _ _ rfl rfl (EO.fn rfl Try.func10 rfl rfl (Evs.cons rfl Evs.nil)) (QC.cc (c_impl_IsLoop hr1 ) ?_)
 refine Ops_quiet _ rfl rfl (QO.move rfl rfl) ?_
 refine Ops_case 5 rfl (fun g1 => ?_) (fun g1 => ?_)
 ·replace hm := cond_t hm g1
  refine Ops_quiet _ rfl rfl (QO.loadRow (cs := sqC a0) (hr := (rdAll (upd_same _ _ _))) rfl sz28 rfl rfl (sqC_length _)) ?_
  have hq := Option.bind_eq_some_iff.1 hm; clear hm; obtain ⟨r2, hr2, hm⟩ := hq
  refine Ops_call _ _ rfl rfl (EO.fn rfl Try.func37 rfl rfl (Evs.cons rfl Evs.nil)) (QC.cc (c_impl_Square_isAssociative hr2 ) ?_)
  refine Ops_quiet _ rfl rfl (QO.pick_t rfl rfl rfl) ?_
  refine Ops_quiet _ rfl rfl (QO.assign rfl rfl) ?_
  refine Ops_nil ?_
  refine thenA_n ?_
  refine wpA_ret ?_
  obtain rfl := Option.some.inj hm
  exact retA_r (h2 := h) (Res.one rfl (rfl)) (Le.under (Le.refl _) hb1) ⟨rfl, rfl⟩
 ·replace hm := cond_f hm g1
  refine Ops_skip rfl rfl ?_
  refine Ops_skip rfl rfl ?_
  refine Ops_quiet _ rfl rfl (QO.pick_f rfl rfl rfl) ?_
  refine Ops_quiet _ rfl rfl (QO.assign rfl rfl) ?_
  refine Ops_nil ?_
  refine thenA_n ?_
  refine wpA_ret ?_
  obtain rfl := Option.some.inj hm
  exact retA_r (h2 := h) (Res.one rfl (rfl)) (Le.under (Le.refl _) hb1) ⟨rfl, rfl⟩

/-! loop.example/g01195/spec.l01Group -/
theorem c_spec_l01Group {a0 : Sq} {h : Hp} {r : Bool} (hm : m_spec_l01Group a0 = some r)  :
    QC Try.prog 38 #[.agg (sqC a0).toArray] h (.bool r) := by
 unfold m_spec_l01Group at hm
 refine CC.enter Try.func38 rfl Try.ntmps38 rfl ?_
 refine wpA_seq ?_
 refine wpA_region ?_
 refine Ops_loud rfl (LO.boxAgg rfl rfl rfl (fun b1 hb1 => ?_))
 refine Ops_quiet _ rfl rfl (QO.assign rfl rfl) ?_
 refine Ops_nil ?_
 refine thenA_n ?_
 refine wpA_seq ?_
 refine wpA_region ?_
 refine Ops_quiet _ rfl rfl (QO.fieldAt (fo := 0) rfl sz28 rfl rfl sz2 rfl rfl) ?_
 refine Ops_quiet _ rfl rfl (QO.load rfl sz2 rfl rfl (by (refine (rd_own (upd_same _ _ _) _).trans ?_); exact rfl)) ?_
 refine Ops_quiet _ rfl rfl (QO.assign rfl rfl) ?_
 refine Ops_nil ?_
 refine thenA_n ?_
 refine wpA_seq ?_
 refine wpA_seq ?_
 refine wpA_region ?_
 refine Ops_quiet _ rfl rfl (QO.assign rfl rfl) ?_
 refine Ops_nil ?_
 refine thenA_n ?_
 refine wpA_block ?_
 obtain ⟨R1, hR, hm⟩ := Option.bind_eq_some_iff.1 hm
 obtain ⟨k1, hk1⟩ := loopV_some hR
 clear hR
 refine wpA_mono (Q := fun e s' h' => match (generalizing := false) R1 with | .stop x id => e = .exit id ∧ ∃ (x1 : Int), x1 = x ∧ Sub s' [(1, .pointer (some ⟨b1, 0, none⟩)), (3, .int .i64 a0.order), (4, .int .i64 x1)] ∧ Le (upd (h) b1 (.own 28 (sqC a0) 101)) h' | .ret r => e = .ret ∧ Sub s' [(2, .bool r)] ∧ Le (h) h' | .next _ => False) ?_ ?_
 ·refine wpA_loop (fun k s' h' => ∃ (x1 : Int), loopW (m_spec_l01Group_l0 a0) k x1 = some R1 ∧ Sub s' [(1, .pointer (some ⟨b1, 0, none⟩)), (3, .int .i64 a0.order), (4, .int .i64 x1)] ∧ Le (upd (h) b1 (.own 28 (sqC a0) 101)) h') (m := k1) ⟨0, hk1, (Sub.cons rfl (Sub.cons rfl (Sub.cons rfl Sub.nil))), (Le.upd_left (Le.under (Le.refl _) hb1) (upd_same _ _ _) (by first | rfl | (simp; done)))⟩ ?_
  rintro k1 s' h' ⟨x1, hk1, hsub, hle⟩
  refine wpA_weaken hsub.ok hle ?_
  clear hsub hle s' h'
  cases k1 with
  | zero => exact absurd hk1 (by simp [loopW])
  | succ k1 =>
   obtain ⟨o1, ho1, hk1⟩ := loopW_succ hk1
   unfold m_spec_l01Group_l0 at ho1
   try dsimp only at ho1
   refine wpA_seq ?_
   refine wpA_seq ?_
   refine wpA_region ?_
   refine Ops_quiet _ rfl rfl (QO.move rfl rfl) ?_
   refine Ops_quiet _ rfl rfl (QO.move rfl rfl) ?_
   refine Ops_quiet _ rfl rfl (QO.bin rfl rfl rfl rfl) ?_
   refine Ops_nil ?_
   refine thenA_n ?_
   refine wpA_cond rfl (fun g1 => ?_) (fun g1 => ?_)
   ·replace ho1 := cond_t ho1 g1
    refine wpA_skip ?_
    refine thenA_n ?_
    refine wpA_seq ?_
    refine wpA_block ?_
    refine wpA_seq ?_
    refine wpA_region ?_
    refine Ops_quiet _ rfl rfl (QO.assign rfl rfl) ?_
    refine Ops_nil ?_
    refine thenA_n ?_
    refine wpA_block ?_
    obtain ⟨R2, hR, ho1⟩ := Option.bind_eq_some_iff.1 ho1
    obtain ⟨k2, hk2⟩ := loopV_some hR
    clear hR
    refine wpA_mono (Q := fun e s' h' => match (generalizing := false) R2 with | .stop x id => e = .exit id ∧ ∃ (x2 : Int), x2 = x ∧ Sub s' [(1, .pointer (some ⟨b1, 0, none⟩)), (3, .int .i64 a0.order), (4, .int .i64 x1), (5, .int .i64 x2)] ∧ Le (upd (h) b1 (.own 28 (sqC a0) 101)) h' | .ret r => e = .ret ∧ Sub s' [(2, .bool r)] ∧ Le (h) h' | .next _ => False) ?_ ?_
    ·refine wpA_loop (fun k s' h' => ∃ (x2 : Int), loopW (m_spec_l01Group_l1 a0 x1) k x2 = some R2 ∧ Sub s' [(1, .pointer (some ⟨b1, 0, none⟩)), (3, .int .i64 a0.order), (4, .int .i64 x1), (5, .int .i64 x2)] ∧ Le (upd (h) b1 (.own 28 (sqC a0) 101)) h') (m := k2) ⟨0, hk2, (Sub.cons rfl (Sub.cons rfl (Sub.cons rfl (Sub.cons rfl Sub.nil)))), (Le.upd_left (Le.under (Le.refl _) hb1) (upd_same _ _ _) (by first | rfl | (simp; done)))⟩ ?_
     rintro k2 s' h' ⟨x2, hk2, hsub, hle⟩
     refine wpA_weaken hsub.ok hle ?_
     clear hsub hle s' h'
     cases k2 with
     | zero => exact absurd hk2 (by simp [loopW])
     | succ k2 =>
      obtain ⟨o2, ho2, hk2⟩ := loopW_succ hk2
      unfold m_spec_l01Group_l1 at ho2
      try dsimp only at ho2
      refine wpA_seq ?_
      refine wpA_seq ?_
      refine wpA_region ?_
      refine Ops_quiet _ rfl rfl (QO.move rfl rfl) ?_
      refine Ops_quiet _ rfl rfl (QO.move rfl rfl) ?_
      refine Ops_quiet _ rfl rfl (QO.bin rfl rfl rfl rfl) ?_
      refine Ops_nil ?_
      refine thenA_n ?_
      refine wpA_cond rfl (fun g2 => ?_) (fun g2 => ?_)
      ·replace ho2 := cond_t ho2 g2
       refine wpA_skip ?_
       refine thenA_n ?_
       refine wpA_seq ?_
       refine wpA_block ?_
       refine wpA_seq ?_
       refine wpA_region ?_
       refine Ops_quiet _ rfl rfl (QO.assign rfl rfl) ?_
       refine Ops_nil ?_
       refine thenA_n ?_
       refine wpA_block ?_
       obtain ⟨R3, hR, ho2⟩ := Option.bind_eq_some_iff.1 ho2
       obtain ⟨k3, hk3⟩ := loopV_some hR
       clear hR
       refine wpA_mono (Q := fun e s' h' => match (generalizing := false) R3 with | .stop x id => e = .exit id ∧ ∃ (x3 : Int), x3 = x ∧ Sub s' [(1, .pointer (some ⟨b1, 0, none⟩)), (3, .int .i64 a0.order), (4, .int .i64 x1), (5, .int .i64 x2), (6, .int .i64 x3)] ∧ Le (upd (h) b1 (.own 28 (sqC a0) 101)) h' | .ret r => e = .ret ∧ Sub s' [(2, .bool r)] ∧ Le (h) h' | .next _ => False) ?_ ?_
       ·refine wpA_loop (fun k s' h' => ∃ (x3 : Int), loopW (m_spec_l01Group_l2 a0 x1 x2) k x3 = some R3 ∧ Sub s' [(1, .pointer (some ⟨b1, 0, none⟩)), (3, .int .i64 a0.order), (4, .int .i64 x1), (5, .int .i64 x2), (6, .int .i64 x3)] ∧ Le (upd (h) b1 (.own 28 (sqC a0) 101)) h') (m := k3) ⟨0, hk3, (Sub.cons rfl (Sub.cons rfl (Sub.cons rfl (Sub.cons rfl (Sub.cons rfl Sub.nil))))), (Le.upd_left (Le.under (Le.refl _) hb1) (upd_same _ _ _) (by first | rfl | (simp; done)))⟩ ?_
        rintro k3 s' h' ⟨x3, hk3, hsub, hle⟩
        refine wpA_weaken hsub.ok hle ?_
        clear hsub hle s' h'
        cases k3 with
        | zero => exact absurd hk3 (by simp [loopW])
        | succ k3 =>
         obtain ⟨o3, ho3, hk3⟩ := loopW_succ hk3
         unfold m_spec_l01Group_l2 at ho3
         try dsimp only at ho3
         refine wpA_seq ?_
         refine wpA_seq ?_
         refine wpA_region ?_
         refine Ops_quiet _ rfl rfl (QO.move rfl rfl) ?_
         refine Ops_quiet _ rfl rfl (QO.move rfl rfl) ?_
         refine Ops_quiet _ rfl rfl (QO.bin rfl rfl rfl rfl) ?_
         refine Ops_nil ?_
         refine thenA_n ?_
         refine wpA_cond rfl (fun g3 => ?_) (fun g3 => ?_)
         ·replace ho3 := cond_t ho3 g3
          refine wpA_skip ?_
          refine thenA_n ?_
          refine wpA_seq ?_
          refine wpA_block ?_
          refine wpA_seq ?_
          refine wpA_drawn (by kernel_rfl) (by kernel_rfl) ?_
          refine QOps.quiet _ rfl rfl (QO.move rfl rfl) ?_
          refine QOps.quiet _ rfl rfl (QO.move rfl rfl) ?_
          refine QOps.quiet _ rfl rfl (QO.fieldAt (fo := 1) rfl sz28 rfl rfl sz26 rfl rfl) ?_
          have hq := chk ho3; clear ho3; obtain ⟨ck1, ho3⟩ := hq
          refine QOps.quiet _ rfl rfl (QO.idxArr rfl sz26 sz24 rfl rfl (by omega) (by omega)) ?_
          have hq := chk ho3; clear ho3; obtain ⟨ck2, ho3⟩ := hq
          refine QOps.quiet _ rfl rfl (QO.idxArr rfl sz24 sz5 rfl rfl (by omega) (by omega)) ?_
          refine QOps.quiet _ rfl rfl (QO.load rfl sz5 rfl rfl (by (refine (rd_own (upd_same _ _ _) _).trans ?_); exact sqC_get (by omega) (by omega))) ?_
          refine QOps.quiet _ rfl rfl (QO.move rfl rfl) ?_
          refine QOps.quiet _ rfl rfl (QO.fieldAt (fo := 1) rfl sz28 rfl rfl sz26 rfl rfl) ?_
          have hq := chk ho3; clear ho3; obtain ⟨ck3, ho3⟩ := hq
          refine QOps.quiet _ rfl rfl (QO.idxArr rfl sz26 sz24 rfl rfl (by omega) (by omega)) ?_
          have hq := chk ho3; clear ho3; obtain ⟨ck4, ho3⟩ := hq
          refine QOps.quiet _ rfl rfl (QO.idxArr rfl sz24 sz5 rfl rfl (by omega) (by omega)) ?_
          refine QOps.quiet _ rfl rfl (QO.load rfl sz5 rfl rfl (by (refine (rd_own (upd_same _ _ _) _).trans ?_); exact sqC_get (by omega) (by omega))) ?_
          refine QOps.quiet _ rfl rfl (QO.move rfl rfl) ?_
          refine QOps.quiet _ rfl rfl (QO.move rfl rfl) ?_
          refine QOps.quiet _ rfl rfl (QO.move rfl rfl) ?_
          refine QOps.quiet _ rfl rfl (QO.fieldAt (fo := 1) rfl sz28 rfl rfl sz26 rfl rfl) ?_
          have hq := chk ho3; clear ho3; obtain ⟨ck5, ho3⟩ := hq
          refine QOps.quiet _ rfl rfl (QO.idxArr rfl sz26 sz24 rfl rfl (by omega) (by omega)) ?_
          have hq := chk ho3; clear ho3; obtain ⟨ck6, ho3⟩ := hq
          refine QOps.quiet _ rfl rfl (QO.idxArr rfl sz24 sz5 rfl rfl (by omega) (by omega)) ?_
          refine QOps.quiet _ rfl rfl (QO.load rfl sz5 rfl rfl (by (refine (rd_own (upd_same _ _ _) _).trans ?_); exact sqC_get (by omega) (by omega))) ?_
          refine QOps.quiet _ rfl rfl (QO.fieldAt (fo := 1) rfl sz28 rfl rfl sz26 rfl rfl) ?_
          have hq := chk ho3; clear ho3; obtain ⟨ck7, ho3⟩ := hq
          refine QOps.quiet _ rfl rfl (QO.idxArr rfl sz26 sz24 rfl rfl (by omega) (by omega)) ?_
          have hq := chk ho3; clear ho3; obtain ⟨ck8, ho3⟩ := hq
          refine QOps.quiet _ rfl rfl (QO.idxArr rfl sz24 sz5 rfl rfl (by omega) (by omega)) ?_
          refine QOps.quiet _ rfl rfl (QO.load rfl sz5 rfl rfl (by (refine (rd_own (upd_same _ _ _) _).trans ?_); exact sqC_get (by omega) (by omega))) ?_
          refine QOps.quiet _ rfl rfl (QO.bin rfl rfl rfl rfl) ?_
          refine QOps.nil ?_
          refine thenA_n ?_
          refine wpA_cond rfl (fun g4 => ?_) (fun g4 => ?_)
          ·replace ho3 := cond_t ho3 g4
           refine wpA_seq ?_
           refine wpA_region ?_
           refine Ops_quiet _ rfl rfl (QO.assign rfl rfl) ?_
           refine Ops_nil ?_
           refine thenA_n ?_
           refine wpA_ret ?_
           refine blockA_r ?_
           refine thenA_r ?_
           refine thenA_r ?_
           obtain rfl := Option.some.inj ho3
           obtain rfl := Option.some.inj hk3
           exact ⟨rfl, (Sub.cons rfl Sub.nil), (Le.under (Le.refl _) hb1)⟩
          ·replace ho3 := cond_f ho3 g4
           refine wpA_skip ?_
           refine blockA_n ?_
           refine thenA_n ?_
           refine wpA_region ?_
           refine Ops_quiet _ rfl rfl (QO.move rfl rfl) ?_
           refine Ops_quiet _ rfl rfl (QO.bin rfl rfl rfl rfl) ?_
           refine Ops_quiet _ rfl rfl (QO.assign rfl rfl) ?_
           refine Ops_nil ?_
           obtain rfl := Option.some.inj ho3
           dsimp only at hk3
           exact thenA_n ⟨k3, Nat.lt_succ_self _, _, hk3, (Sub.cons rfl (Sub.cons rfl (Sub.cons rfl (Sub.cons rfl (Sub.cons rfl Sub.nil))))), (Le.upd_left (Le.under (Le.refl _) hb1) (upd_same _ _ _) (by first | rfl | (simp; done)))⟩
         ·replace ho3 := cond_f ho3 g3
          refine wpA_exit ?_
          refine thenA_e ?_
          refine thenA_e ?_
          obtain rfl := Option.some.inj ho3
          obtain rfl := Option.some.inj hk3
          exact ⟨rfl, _, rfl, (Sub.cons rfl (Sub.cons rfl (Sub.cons rfl (Sub.cons rfl (Sub.cons rfl Sub.nil))))), (Le.upd_left (Le.under (Le.refl _) hb1) (upd_same _ _ _) (by first | rfl | (simp; done)))⟩
       ·intro e s' h' hq
        cases R3 with
        | next x => exact hq.elim
        | ret r =>
         obtain ⟨rfl, hsub1, hle1⟩ := hq
         try dsimp only at ho2
         refine blockA_r ?_
         refine blockA_r ?_
         refine thenA_r ?_
         refine thenA_r ?_
         obtain rfl := Option.some.inj ho2
         obtain rfl := Option.some.inj hk2
         exact ⟨rfl, (Sub.trans hsub1 (Sub.cons rfl Sub.nil)), (Le.trans (Le.refl _) hle1)⟩
        | stop x id =>
         obtain ⟨rfl, x4, rfl, hsub2, hle2⟩ := hq
         try dsimp only at ho2
         by_cases hid1 : id = 4
         ·subst hid1
          rw [if_pos rfl] at ho2
          refine blockA_s ?_
          refine blockA_n ?_
          refine thenA_n ?_
          refine wpA_weaken hsub2.ok hle2 ?_
          refine wpA_region ?_
          refine Ops_quiet _ rfl rfl (QO.move rfl rfl) ?_
          refine Ops_quiet _ rfl rfl (QO.bin rfl rfl rfl rfl) ?_
          refine Ops_quiet _ rfl rfl (QO.assign rfl rfl) ?_
          refine Ops_nil ?_
          obtain rfl := Option.some.inj ho2
          dsimp only at hk2
          exact thenA_n ⟨k2, Nat.lt_succ_self _, _, hk2, (Sub.cons rfl (Sub.cons rfl (Sub.cons rfl (Sub.cons rfl Sub.nil)))), (Le.upd_left (Le.under (Le.refl _) hb1) (upd_same _ _ _) (by first | rfl | (simp; done)))⟩
         rw [if_neg hid1] at ho2
         exact absurd ho2 (by simp)
      ·replace ho2 := cond_f ho2 g2
       refine wpA_exit ?_
       refine thenA_e ?_
       refine thenA_e ?_
       obtain rfl := Option.some.inj ho2
       obtain rfl := Option.some.inj hk2
       exact ⟨rfl, _, rfl, (Sub.cons rfl (Sub.cons rfl (Sub.cons rfl (Sub.cons rfl Sub.nil)))), (Le.upd_left (Le.under (Le.refl _) hb1) (upd_same _ _ _) (by first | rfl | (simp; done)))⟩
    ·intro e s' h' hq
     cases R2 with
     | next x => exact hq.elim
     | ret r =>
      obtain ⟨rfl, hsub3, hle3⟩ := hq
      try dsimp only at ho1
      refine blockA_r ?_
      refine blockA_r ?_
      refine thenA_r ?_
      refine thenA_r ?_
      obtain rfl := Option.some.inj ho1
      obtain rfl := Option.some.inj hk1
      exact ⟨rfl, (Sub.trans hsub3 (Sub.cons rfl Sub.nil)), (Le.trans (Le.refl _) hle3)⟩
     | stop x id =>
      obtain ⟨rfl, x5, rfl, hsub4, hle4⟩ := hq
      try dsimp only at ho1
      by_cases hid2 : id = 2
      ·subst hid2
       rw [if_pos rfl] at ho1
       refine blockA_s ?_
       refine blockA_n ?_
       refine thenA_n ?_
       refine wpA_weaken hsub4.ok hle4 ?_
       refine wpA_region ?_
       refine Ops_quiet _ rfl rfl (QO.move rfl rfl) ?_
       refine Ops_quiet _ rfl rfl (QO.bin rfl rfl rfl rfl) ?_
       refine Ops_quiet _ rfl rfl (QO.assign rfl rfl) ?_
       refine Ops_nil ?_
       obtain rfl := Option.some.inj ho1
       dsimp only at hk1
       exact thenA_n ⟨k1, Nat.lt_succ_self _, _, hk1, (Sub.cons rfl (Sub.cons rfl (Sub.cons rfl Sub.nil))), (Le.upd_left (Le.under (Le.refl _) hb1) (upd_same _ _ _) (by first | rfl | (simp; done)))⟩
      rw [if_neg hid2] at ho1
      exact absurd ho1 (by simp)
   ·replace ho1 := cond_f ho1 g1
    refine wpA_exit ?_
    refine thenA_e ?_
    refine thenA_e ?_
    obtain rfl := Option.some.inj ho1
    obtain rfl := Option.some.inj hk1
    exact ⟨rfl, _, rfl, (Sub.cons rfl (Sub.cons rfl (Sub.cons rfl Sub.nil))), (Le.upd_left (Le.under (Le.refl _) hb1) (upd_same _ _ _) (by first | rfl | (simp; done)))⟩
 ·intro e s' h' hq
  cases R1 with
  | next x => exact hq.elim
  | ret r =>
   obtain ⟨rfl, hsub5, hle5⟩ := hq
   try dsimp only at hm
   refine blockA_r ?_
   refine thenA_r ?_
   obtain rfl := Option.some.inj hm
   refine retA_sub hsub5.ok hle5 ?_
   exact retA_r (h2 := h) (Res.one rfl (rfl)) (Le.refl _) ⟨rfl, rfl⟩
  | stop x id =>
   obtain ⟨rfl, x6, rfl, hsub6, hle6⟩ := hq
   try dsimp only at hm
   by_cases hid3 : id = 0
   ·subst hid3
    rw [if_pos rfl] at hm
    refine blockA_s ?_
    refine thenA_n ?_
    refine wpA_weaken hsub6.ok hle6 ?_
    refine wpA_seq ?_
    refine wpA_region ?_
    refine Ops_quiet _ rfl rfl (QO.assign rfl rfl) ?_
    refine Ops_nil ?_
    refine thenA_n ?_
    refine wpA_ret ?_
    obtain rfl := Option.some.inj hm
    exact retA_r (h2 := h) (Res.one rfl (rfl)) (Le.under (Le.refl _) hb1) ⟨rfl, rfl⟩
   rw [if_neg hid3] at hm
   exact absurd hm (by simp)

/-! loop.example/g01195/spec.IsGroup -/
theorem c_spec_IsGroup {a0 : Sq} {h : Hp} {r : Bool} (hm : m_spec_IsGroup a0 = some r)  :
    QC Try.prog 13 #[.agg (sqC a0).toArray] h (.bool r) := by
 unfold m_spec_IsGroup at hm
 refine CC.enter Try.func13 rfl Try.ntmps13 rfl ?_
 refine wpA_seq ?_
 refine wpA_region ?_
 refine Ops_loud rfl (LO.boxAgg rfl rfl rfl (fun b1 hb1 => ?_))
 refine Ops_quiet _ rfl rfl (QO.assign rfl rfl) ?_
 refine Ops_nil ?_
 refine thenA_n ?_
 refine wpA_seq ?_
 refine wpA_region ?_
 refine Ops_quiet _ rfl rfl (QO.loadRow (cs := sqC a0) (hr := (rdAll (upd_same _ _ _))) rfl sz28 rfl rfl (sqC_length _)) ?_
 have hq := Option.bind_eq_some_iff.1 hm; clear hm; obtain ⟨r1, hr1, hm⟩ := hq
 refine Ops_call _ _ rfl rfl (EO.fn rfl Try.func36 rfl rfl (Evs.cons rfl Evs.nil)) (QC.cc (c_spec_l01Loop hr1 ) ?_)
 refine Ops_quiet _ rfl rfl (QO.move rfl rfl) ?_
 refine Ops_case 5 rfl (fun g1 => ?_) (fun g1 => ?_)
 ·replace hm := cond_t hm g1
  refine Ops_quiet _ rfl rfl (QO.loadRow (cs := sqC a0) (hr := (rdAll (upd_same _ _ _))) rfl sz28 rfl rfl (sqC_length _)) ?_
  have hq := Option.bind_eq_some_iff.1 hm; clear hm; obtain ⟨r2, hr2, hm⟩ := hq
  refine Ops_call _ _ rfl rfl (EO.fn rfl Try.func38 rfl rfl (Evs.cons rfl Evs.nil)) (QC.cc (c_spec_l01Group hr2 ) ?_)
  refine Ops_quiet _ rfl rfl (QO.pick_t rfl rfl rfl) ?_
  refine Ops_quiet _ rfl rfl (QO.assign rfl rfl) ?_
  refine Ops_nil ?_
  refine thenA_n ?_
  refine wpA_ret ?_
  obtain rfl := Option.some.inj hm
  exact retA_r (h2 := h) (Res.one rfl (rfl)) (Le.under (Le.refl _) hb1) ⟨rfl, rfl⟩
 ·replace hm := cond_f hm g1
  refine Ops_skip rfl rfl ?_
  refine Ops_skip rfl rfl ?_
  refine Ops_quiet _ rfl rfl (QO.pick_f rfl rfl rfl) ?_
  refine Ops_quiet _ rfl rfl (QO.assign rfl rfl) ?_
  refine Ops_nil ?_
  refine thenA_n ?_
  refine wpA_ret ?_
  obtain rfl := Option.some.inj hm
  exact retA_r (h2 := h) (Res.one rfl (rfl)) (Le.under (Le.refl _) hb1) ⟨rfl, rfl⟩

/-! (loop.example/g01195/impl.Square).left -/
theorem c_impl_Square_left {a0 : Sq} {a1 : Int} {a2 : Int} {h : Hp} {r : Int} (hm : m_impl_Square_left a0 a1 a2 = some r)  :
    QC Try.prog 39 #[.agg (sqC a0).toArray, .int .u8 a1, .int .u8 a2] h (.int .u8 r) := by
 unfold m_impl_Square_left at hm
 refine CC.enter Try.func39 rfl Try.ntmps39 rfl ?_
 refine wpA_seq ?_
 refine wpA_region ?_
 refine Ops_loud rfl (LO.boxAgg rfl rfl rfl (fun b1 hb1 => ?_))
 refine Ops_quiet _ rfl rfl (QO.assign rfl rfl) ?_
 refine Ops_nil ?_
 refine thenA_n ?_
 refine wpA_seq ?_
 refine wpA_region ?_
 refine Ops_quiet _ rfl rfl (QO.assign rfl rfl) ?_
 refine Ops_nil ?_
 refine thenA_n ?_
 refine wpA_seq ?_
 refine wpA_block ?_
 obtain ⟨R1, hR, hm⟩ := Option.bind_eq_some_iff.1 hm
 obtain ⟨k1, hk1⟩ := loopV_some hR
 clear hR
 refine wpA_mono (Q := fun e s' h' => match (generalizing := false) R1 with | .stop x id => e = .exit id ∧ ∃ (x1 : Int), x1 = x ∧ Sub s' [(1, .int .u8 a1), (2, .int .u8 a2), (3, .pointer (some ⟨b1, 0, none⟩)), (7, .int .u8 x1)] ∧ Le (upd (h) b1 (.own 28 (sqC a0) 101)) h' | .ret r => False | .next _ => False) ?_ ?_
 ·refine wpA_loop (fun k s' h' => ∃ (x1 : Int), loopW (m_impl_Square_left_l0 a0 a1 a2) k x1 = some R1 ∧ Sub s' [(1, .int .u8 a1), (2, .int .u8 a2), (3, .pointer (some ⟨b1, 0, none⟩)), (7, .int .u8 x1)] ∧ Le (upd (h) b1 (.own 28 (sqC a0) 101)) h') (m := k1) ⟨0, hk1, (Sub.cons rfl (Sub.cons rfl (Sub.cons rfl (Sub.cons rfl Sub.nil)))), (Le.upd_left (Le.under (Le.refl _) hb1) (upd_same _ _ _) (by first | rfl | (simp; done)))⟩ ?_
  rintro k1 s' h' ⟨x1, hk1, hsub, hle⟩
  refine wpA_weaken hsub.ok hle ?_
  clear hsub hle s' h'
  cases k1 with
  | zero => exact absurd hk1 (by simp [loopW])
  | succ k1 =>
   obtain ⟨o1, ho1, hk1⟩ := loopW_succ hk1
   unfold m_impl_Square_left_l0 at ho1
   try dsimp only at ho1
   refine wpA_seq ?_
   refine wpA_seq ?_
   refine wpA_region ?_
   refine Ops_quiet _ rfl rfl (QO.move rfl rfl) ?_
   refine Ops_quiet _ rfl rfl (QO.move rfl rfl) ?_
   refine Ops_quiet _ rfl rfl (QO.fieldAt (fo := 1) rfl sz28 rfl rfl sz26 rfl rfl) ?_
   have hq := chk ho1; clear ho1; obtain ⟨ck1, ho1⟩ := hq
   refine Ops_quiet _ rfl rfl (QO.idxArr rfl sz26 sz24 rfl rfl (by omega) (by omega)) ?_
   have hq := chk ho1; clear ho1; obtain ⟨ck2, ho1⟩ := hq
   refine Ops_quiet _ rfl rfl (QO.idxArr rfl sz24 sz5 rfl rfl (by omega) (by omega)) ?_
   refine Ops_quiet _ rfl rfl (QO.load rfl sz5 rfl rfl (by (refine (rd_own (upd_same _ _ _) _).trans ?_); exact sqC_get (by omega) (by omega))) ?_
   refine Ops_quiet _ rfl rfl (QO.move rfl rfl) ?_
   refine Ops_quiet _ rfl rfl (QO.bin rfl rfl rfl rfl) ?_
   refine Ops_nil ?_
   refine thenA_n ?_
   refine wpA_cond rfl (fun g1 => ?_) (fun g1 => ?_)
   ·replace ho1 := cond_t ho1 g1
    refine wpA_skip ?_
    refine thenA_n ?_
    refine wpA_block ?_
    refine wpA_region ?_
    refine Ops_quiet _ rfl rfl (QO.move rfl rfl) ?_
    refine Ops_quiet _ rfl rfl (QO.bin rfl rfl rfl rfl) ?_
    refine Ops_quiet _ rfl rfl (QO.assign rfl rfl) ?_
    refine Ops_nil ?_
    refine blockA_n ?_
    obtain rfl := Option.some.inj ho1
    dsimp only at hk1
    exact thenA_n ⟨k1, Nat.lt_succ_self _, _, hk1, (Sub.cons rfl (Sub.cons rfl (Sub.cons rfl (Sub.cons rfl Sub.nil)))), (Le.upd_left (Le.under (Le.refl _) hb1) (upd_same _ _ _) (by first | rfl | (simp; done)))⟩
   ·replace ho1 := cond_f ho1 g1
    refine wpA_exit ?_
    refine thenA_e ?_
    refine thenA_e ?_
    obtain rfl := Option.some.inj ho1
    obtain rfl := Option.some.inj hk1
    exact ⟨rfl, _, rfl, (Sub.cons rfl (Sub.cons rfl (Sub.cons rfl (Sub.cons rfl Sub.nil)))), (Le.upd_left (Le.under (Le.refl _) hb1) (upd_same _ _ _) (by first | rfl | (simp; done)))⟩
 ·intro e s' h' hq
  cases R1 with
  | next x => exact hq.elim
  | ret r => exact hq.elim
  | stop x id =>
   obtain ⟨rfl, x2, rfl, hsub1, hle1⟩ := hq
   try dsimp only at hm
   by_cases hid1 : id = 0
   ·subst hid1
    rw [if_pos rfl] at hm
    refine blockA_s ?_
    refine thenA_n ?_
    refine wpA_weaken hsub1.ok hle1 ?_
    refine wpA_seq ?_
    refine wpA_region ?_
    refine Ops_quiet _ rfl rfl (QO.move rfl rfl) ?_
    refine Ops_quiet _ rfl rfl (QO.assign rfl rfl) ?_
    refine Ops_nil ?_
    refine thenA_n ?_
    refine wpA_ret ?_
    obtain rfl := Option.some.inj hm
    exact retA_r (h2 := h) (Res.one rfl (rfl)) (Le.under (Le.refl _) hb1) ⟨rfl, rfl⟩
   rw [if_neg hid1] at hm
   exact absurd hm (by simp)

/-! loop.example/g01195/impl.LeftQuotient -/
theorem c_impl_LeftQuotient {a0 : Sq} {a1 : Int} {a2 : Int} {h : Hp} {r : Int × Int} (hm : m_impl_LeftQuotient a0 a1 a2 = some r)  :
    QC Try.prog 14 #[.agg (sqC a0).toArray, .int .u8 a1, .int .u8 a2] h (.tuple #[.int .u8 r.1, .int .i64 r.2]) := by
 unfold m_impl_LeftQuotient at hm
 refine CC.enter Try.func14 rfl Try.ntmps14 rfl ?_
 refine wpA_seq ?_
 refine wpA_region ?_
 refine Ops_loud rfl (LO.boxAgg rfl rfl rfl (fun b1 hb1 => ?_))
 refine Ops_quiet _ rfl rfl (QO.assign rfl rfl) ?_
 refine Ops_quiet _ rfl rfl (QO.assign rfl rfl) ?_
 refine Ops_nil ?_
 refine thenA_n ?_
 refine wpA_seq ?_
 refine wpA_seq ?_
 refine wpA_region ?_
 refine Ops_quiet _ rfl rfl (QO.loadRow (cs := sqC a0) (hr := (rdAll (upd_same _ _ _))) rfl sz28 rfl rfl (sqC_length _)) ?_
 refine Ops_quiet _ rfl rfl (QO.move rfl rfl) ?_
 refine Ops_quiet _ rfl rfl (QO.move rfl rfl) ?_
 refine Ops_loud rfl (LO.slice' [(0, .int .u8 a1), (1, .int .u8 a2)] (r := ints .u8 [a1, a2]) rfl sz22 sz5 zr5 (by first | rfl | (simp [rowsC_length, rowsA_length, mpC_length, sqC_length, tbC_length, tabI_length, tabB_length, ints_length, plsC_length, trC_length, sqsC_length, strsC_length, boolsC_length, tbB_length, List.length_append, List.length_cons, List.length_nil, List.length_set, List.length_replicate, rep_length]; done)) (by decide) (by decide) (by decide) rfl rfl (by first | rfl | (simp [rowsC_length, rowsA_length, mpC_length, sqC_length, tbC_length, tabI_length, tabB_length, ints_length, plsC_length, trC_length, sqsC_length, strsC_length, boolsC_length, tbB_length, List.length_append, List.length_cons, List.length_nil, List.length_set, List.length_replicate, rep_length]; done)) rfl (fun b2 hb2 => ?_))
 simp only [upd_noneA] at hb2
 obtain ⟨n_b2_b1, hb2⟩ := hb2
 have hq := Option.bind_eq_some_iff.1 hm; clear hm; obtain ⟨r1, hr1, hm⟩ := hq
 refine Ops_call _ _ rfl rfl (EO.fn rfl Try.func31 rfl rfl (Evs.cons rfl (Evs.cons rfl Evs.nil))) (QC.cc (c_impl_checked (l1 := [a1, a2]) (A1 := some ⟨b2, 0, none⟩) (c1 := 2) hr1 (RdS.own (upd_same _ _ _))) ?_)
 refine Ops_quiet _ rfl rfl (QO.assign rfl rfl) ?_
 refine Ops_nil ?_
 refine thenA_n ?_
 refine wpA_seq ?_
 refine wpA_region ?_
 refine Ops_quiet _ rfl rfl (QO.move rfl rfl) ?_
 refine Ops_quiet _ rfl rfl (QO.bin rfl rfl rfl rfl) ?_
 refine Ops_nil ?_
 refine thenA_n ?_
 refine wpA_cond rfl (fun g1 => ?_) (fun g1 => ?_)
 ·replace hm := cond_t hm g1
  refine wpA_seq ?_
  refine wpA_region ?_
  refine Ops_quiet _ rfl rfl (QO.move rfl rfl) ?_
  refine Ops_quiet _ rfl rfl (QO.assign rfl rfl) ?_
  refine Ops_quiet _ rfl rfl (QO.assign rfl rfl) ?_
  refine Ops_nil ?_
  refine thenA_n ?_
  refine wpA_ret ?_
  refine thenA_r ?_
  obtain rfl := Option.some.inj hm
  exact retA_r (h2 := h) (Res.two rfl (rfl) (rfl)) (Le.under (Le.under (Le.refl _) hb1) hb2) ⟨rfl, rfl⟩
 ·replace hm := cond_f hm g1
  refine wpA_skip ?_
  refine thenA_n ?_
  refine wpA_seq ?_
  refine wpA_region ?_
  refine Ops_quiet _ rfl rfl (QO.loadRow (cs := sqC a0) (hr := (rdAll ((upd_ne _ _ n_b2_b1.ne.symm).trans (upd_same _ _ _)))) rfl sz28 rfl rfl (sqC_length _)) ?_
  refine Ops_quiet _ rfl rfl (QO.move rfl rfl) ?_
  refine Ops_quiet _ rfl rfl (QO.move rfl rfl) ?_
  have hq := Option.bind_eq_some_iff.1 hm; clear hm; obtain ⟨r2, hr2, hm⟩ := hq
  refine Ops_call _ _ rfl rfl (EO.fn rfl Try.func39 rfl rfl (Evs.cons rfl (Evs.cons rfl (Evs.cons rfl Evs.nil)))) (QC.cc (c_impl_Square_left hr2 ) ?_)
  refine Ops_quiet _ rfl rfl (QO.assign rfl rfl) ?_
  refine Ops_quiet _ rfl rfl (QO.assign rfl rfl) ?_
  refine Ops_nil ?_
  refine thenA_n ?_
  refine wpA_ret ?_
  obtain rfl := Option.some.inj hm
  exact retA_r (h2 := h) (Res.two rfl (rfl) (rfl)) (Le.under (Le.under (Le.refl _) hb1) hb2) ⟨rfl, rfl⟩

/-! (loop.example/g01195/impl.Square).right -/
theorem c_impl_Square_right {a0 : Sq} {a1 : Int} {a2 : Int} {h : Hp} {r : Int} (hm : m_impl_Square_right a0 a1 a2 = some r)  :
    QC Try.prog 40 #[.agg (sqC a0).toArray, .int .u8 a1, .int .u8 a2] h (.int .u8 r) := by
 unfold m_impl_Square_right at hm
 refine CC.enter Try.func40 rfl Try.ntmps40 rfl ?_
 refine wpA_seq ?_
 refine wpA_region ?_
 refine Ops_loud rfl (LO.boxAgg rfl rfl rfl (fun b1 hb1 => ?_))
 refine Ops_quiet _ rfl rfl (QO.assign rfl rfl) ?_
 refine Ops_nil ?_
 refine thenA_n ?_
 refine wpA_seq ?_
 refine wpA_region ?_
 refine Ops_quiet _ rfl rfl (QO.assign rfl rfl) ?_
 refine Ops_nil ?_
 refine thenA_n ?_
 refine wpA_seq ?_
 refine wpA_block ?_
 obtain ⟨R1, hR, hm⟩ := Option.bind_eq_some_iff.1 hm
 obtain ⟨k1, hk1⟩ := loopV_some hR
 clear hR
 refine wpA_mono (Q := fun e s' h' => match (generalizing := false) R1 with | .stop x id => e = .exit id ∧ ∃ (x1 : Int), x1 = x ∧ Sub s' [(1, .int .u8 a1), (2, .int .u8 a2), (3, .pointer (some ⟨b1, 0, none⟩)), (7, .int .u8 x1)] ∧ Le (upd (h) b1 (.own 28 (sqC a0) 101)) h' | .ret r => False | .next _ => False) ?_ ?_
 ·refine wpA_loop (fun k s' h' => ∃ (x1 : Int), loopW (m_impl_Square_right_l0 a0 a1 a2) k x1 = some R1 ∧ Sub s' [(1, .int .u8 a1), (2, .int .u8 a2), (3, .pointer (some ⟨b1, 0, none⟩)), (7, .int .u8 x1)] ∧ Le (upd (h) b1 (.own 28 (sqC a0) 101)) h') (m := k1) ⟨0, hk1, (Sub.cons rfl (Sub.cons rfl (Sub.cons rfl (Sub.cons rfl Sub.nil)))), (Le.upd_left (Le.under (Le.refl _) hb1) (upd_same _ _ _) (by first | rfl | (simp; done)))⟩ ?_
  rintro k1 s' h' ⟨x1, hk1, hsub, hle⟩
  refine wpA_weaken hsub.ok hle ?_
  clear hsub hle s' h'
  cases k1 with
  | zero => exact absurd hk1 (by simp [loopW])
  | succ k1 =>
   obtain ⟨o1, ho1, hk1⟩ := loopW_succ hk1
   unfold m_impl_Square_right_l0 at ho1
   try dsimp only at ho1
   refine wpA_seq ?_
   refine wpA_seq ?_
   refine wpA_region ?_
   refine Ops_quiet _ rfl rfl (QO.move rfl rfl) ?_
   refine Ops_quiet _ rfl rfl (QO.move rfl rfl) ?_
   refine Ops_quiet _ rfl rfl (QO.fieldAt (fo := 1) rfl sz28 rfl rfl sz26 rfl rfl) ?_
   have hq := chk ho1; clear ho1; obtain ⟨ck1, ho1⟩ := hq
   refine Ops_quiet _ rfl rfl (QO.idxArr rfl sz26 sz24 rfl rfl (by omega) (by omega)) ?_
   have hq := chk ho1; clear ho1; obtain ⟨ck2, ho1⟩ := hq
   refine Ops_quiet _ rfl rfl (QO.idxArr rfl sz24 sz5 rfl rfl (by omega) (by omega)) ?_
   refine Ops_quiet _ rfl rfl (QO.load rfl sz5 rfl rfl (by (refine (rd_own (upd_same _ _ _) _).trans ?_); exact sqC_get (by omega) (by omega))) ?_
   refine Ops_quiet _ rfl rfl (QO.move rfl rfl) ?_
   refine Ops_quiet _ rfl rfl (QO.bin rfl rfl rfl rfl) ?_
   refine Ops_nil ?_
   refine thenA_n ?_
   refine wpA_cond rfl (fun g1 => ?_) (fun g1 => ?_)
   ·replace ho1 := cond_t ho1 g1
    refine wpA_skip ?_
    refine thenA_n ?_
    refine wpA_block ?_
    refine wpA_region ?_
    refine Ops_quiet _ rfl rfl (QO.move rfl rfl) ?_
    refine Ops_quiet _ rfl rfl (QO.bin rfl rfl rfl rfl) ?_
    refine Ops_quiet _ rfl rfl (QO.assign rfl rfl) ?_
    refine Ops_nil ?_
    refine blockA_n ?_
    obtain rfl := Option.some.inj ho1
    dsimp only at hk1
    exact thenA_n ⟨k1, Nat.lt_succ_self _, _, hk1, (Sub.cons rfl (Sub.cons rfl (Sub.cons rfl (Sub.cons rfl Sub.nil)))), (Le.upd_left (Le.under (Le.refl _) hb1) (upd_same _ _ _) (by first | rfl | (simp; done)))⟩
   ·replace ho1 := cond_f ho1 g1
    refine wpA_exit ?_
    refine thenA_e ?_
    refine thenA_e ?_
    obtain rfl := Option.some.inj ho1
    obtain rfl := Option.some.inj hk1
    exact ⟨rfl, _, rfl, (Sub.cons rfl (Sub.cons rfl (Sub.cons rfl (Sub.cons rfl Sub.nil)))), (Le.upd_left (Le.under (Le.refl _) hb1) (upd_same _ _ _) (by first | rfl | (simp; done)))⟩
 ·intro e s' h' hq
  cases R1 with
  | next x => exact hq.elim
  | ret r => exact hq.elim
  | stop x id =>
   obtain ⟨rfl, x2, rfl, hsub1, hle1⟩ := hq
   try dsimp only at hm
   by_cases hid1 : id = 0
   ·subst hid1
    rw [if_pos rfl] at hm
    refine blockA_s ?_
    refine thenA_n ?_
    refine wpA_weaken hsub1.ok hle1 ?_
    refine wpA_seq ?_
    refine wpA_region ?_
    refine Ops_quiet _ rfl rfl (QO.move rfl rfl) ?_
    refine Ops_quiet _ rfl rfl (QO.assign rfl rfl) ?_
    refine Ops_nil ?_
    refine thenA_n ?_
    refine wpA_ret ?_
    obtain rfl := Option.some.inj hm
    exact retA_r (h2 := h) (Res.one rfl (rfl)) (Le.under (Le.refl _) hb1) ⟨rfl, rfl⟩
   rw [if_neg hid1] at hm
   exact absurd hm (by simp)

/-! loop.example/g01195/impl.RightQuotient -/
theorem c_impl_RightQuotient {a0 : Sq} {a1 : Int} {a2 : Int} {h : Hp} {r : Int × Int} (hm : m_impl_RightQuotient a0 a1 a2 = some r)  :
    QC Try.prog 15 #[.agg (sqC a0).toArray, .int .u8 a1, .int .u8 a2] h (.tuple #[.int .u8 r.1, .int .i64 r.2]) := by
 unfold m_impl_RightQuotient at hm
 refine CC.enter Try.func15 rfl Try.ntmps15 rfl ?_
 refine wpA_seq ?_
 refine wpA_region ?_
 refine Ops_loud rfl (LO.boxAgg rfl rfl rfl (fun b1 hb1 => ?_))
 refine Ops_quiet _ rfl rfl (QO.assign rfl rfl) ?_
 refine Ops_quiet _ rfl rfl (QO.assign rfl rfl) ?_
 refine Ops_nil ?_
 refine thenA_n ?_
 refine wpA_seq ?_
 refine wpA_seq ?_
 refine wpA_region ?_
 refine Ops_quiet _ rfl rfl (QO.loadRow (cs := sqC a0) (hr := (rdAll (upd_same _ _ _))) rfl sz28 rfl rfl (sqC_length _)) ?_
 refine Ops_quiet _ rfl rfl (QO.move rfl rfl) ?_
 refine Ops_quiet _ rfl rfl (QO.move rfl rfl) ?_
 refine Ops_loud rfl (LO.slice' [(0, .int .u8 a1), (1, .int .u8 a2)] (r := ints .u8 [a1, a2]) rfl sz22 sz5 zr5 (by first | rfl | (simp [rowsC_length, rowsA_length, mpC_length, sqC_length, tbC_length, tabI_length, tabB_length, ints_length, plsC_length, trC_length, sqsC_length, strsC_length, boolsC_length, tbB_length, List.length_append, List.length_cons, List.length_nil, List.length_set, List.length_replicate, rep_length]; done)) (by decide) (by decide) (by decide) rfl rfl (by first | rfl | (simp [rowsC_length, rowsA_length, mpC_length, sqC_length, tbC_length, tabI_length, tabB_length, ints_length, plsC_length, trC_length, sqsC_length, strsC_length, boolsC_length, tbB_length, List.length_append, List.length_cons, List.length_nil, List.length_set, List.length_replicate, rep_length]; done)) rfl (fun b2 hb2 => ?_))
 simp only [upd_noneA] at hb2
 obtain ⟨n_b2_b1, hb2⟩ := hb2
 have hq := Option.bind_eq_some_iff.1 hm; clear hm; obtain ⟨r1, hr1, hm⟩ := hq
 refine Ops_call _ _ rfl rfl (EO.fn rfl Try.func31 rfl rfl (Evs.cons rfl (Evs.cons rfl Evs.nil))) (QC.cc (c_impl_checked (l1 := [a1, a2]) (A1 := some ⟨b2, 0, none⟩) (c1 := 2) hr1 (RdS.own (upd_same _ _ _))) ?_)
 refine Ops_quiet _ rfl rfl (QO.assign rfl rfl) ?_
 refine Ops_nil ?_
 refine thenA_n ?_
 refine wpA_seq ?_
 refine wpA_region ?_
 refine Ops_quiet _ rfl rfl (QO.move rfl rfl) ?_
 refine Ops_quiet _ rfl rfl (QO.bin rfl rfl rfl rfl) ?_
 refine Ops_nil ?_
 refine thenA_n ?_
 refine wpA_cond rfl (fun g1 => ?_) (fun g1 => ?_)
 ·replace hm := cond_t hm g1
  refine wpA_seq ?_
  refine wpA_region ?_
  refine Ops_quiet _ rfl rfl (QO.move rfl rfl) ?_
  refine Ops_quiet _ rfl rfl (QO.assign rfl rfl) ?_
  refine Ops_quiet _ rfl rfl (QO.assign rfl rfl) ?_
  refine Ops_nil ?_
  refine thenA_n ?_
  refine wpA_ret ?_
  refine thenA_r ?_
  obtain rfl := Option.some.inj hm
  exact retA_r (h2 := h) (Res.two rfl (rfl) (rfl)) (Le.under (Le.under (Le.refl _) hb1) hb2) ⟨rfl, rfl⟩
 ·replace hm := cond_f hm g1
  refine wpA_skip ?_
  refine thenA_n ?_
  refine wpA_seq ?_
  refine wpA_region ?_
  refine Ops_quiet _ rfl rfl (QO.loadRow (cs := sqC a0) (hr := (rdAll ((upd_ne _ _ n_b2_b1.ne.symm).trans (upd_same _ _ _)))) rfl sz28 rfl rfl (sqC_length _)) ?_
  refine Ops_quiet _ rfl rfl (QO.move rfl rfl) ?_
  refine Ops_quiet _ rfl rfl (QO.move rfl rfl) ?_
  have hq := Option.bind_eq_some_iff.1 hm; clear hm; obtain ⟨r2, hr2, hm⟩ := hq
  refine Ops_call _ _ rfl rfl (EO.fn rfl Try.func40 rfl rfl (Evs.cons rfl (Evs.cons rfl (Evs.cons rfl Evs.nil)))) (QC.cc (c_impl_Square_right hr2 ) ?_)
  refine Ops_quiet _ rfl rfl (QO.assign rfl rfl) ?_
  refine Ops_quiet _ rfl rfl (QO.assign rfl rfl) ?_
  refine Ops_nil ?_
  refine thenA_n ?_
  refine wpA_ret ?_
  obtain rfl := Option.some.inj hm
  exact retA_r (h2 := h) (Res.two rfl (rfl) (rfl)) (Le.under (Le.under (Le.refl _) hb1) hb2) ⟨rfl, rfl⟩

/-! (loop.example/g01195/impl.Square).row -/
theorem c_impl_Square_row {a0 : Sq} {a1 : Int} {h : Hp} {r : (Nat → Int)} (hm : m_impl_Square_row a0 a1 = some r)  :
    QC Try.prog 41 #[.agg (sqC a0).toArray, .int .u8 a1] h (.agg (tabI .u8 r 10).toArray) := by
 unfold m_impl_Square_row at hm
 refine CC.enter Try.func41 rfl Try.ntmps41 rfl ?_
 refine wpA_seq ?_
 refine wpA_region ?_
 refine Ops_loud rfl (LO.boxAgg rfl rfl rfl (fun b1 hb1 => ?_))
 refine Ops_loud rfl (LO.alloc rfl zr34 rfl (fun b2 hb2 => ?_))
 simp only [upd_noneA] at hb2
 obtain ⟨n_b2_b1, hb2⟩ := hb2
 refine Ops_nil ?_
 refine thenA_n ?_
 refine wpA_seq ?_
 refine wpA_region ?_
 refine Ops_quiet _ rfl rfl (QO.move rfl rfl) ?_
 refine Ops_quiet _ rfl rfl (QO.fieldAt (fo := 1) rfl sz28 rfl rfl sz26 rfl rfl) ?_
 have hq := chk hm; clear hm; obtain ⟨ck1, hm⟩ := hq
 refine Ops_quiet _ rfl rfl (QO.idxArr rfl sz26 sz24 rfl rfl (by omega) (by omega)) ?_
 refine Ops_quiet _ rfl rfl (QO.loadRow (cs := tabI .u8 (a0.t (a1).toNat) 10) (hr := (rdSqRow ((upd_ne _ _ n_b2_b1.ne.symm).trans (upd_same _ _ _)) (by omega))) rfl sz24 rfl rfl (tabI_length _ _ _)) ?_
 refine Ops_loud rfl (LO.storeAll (cs := tabI .u8 (a0.t (a1).toNat) 10) rfl sz34 rfl rfl (tabI_one _ _ _) (tabI_length _ _ _) (upd_same _ _ _) (tabI_length _ _ _) Chg.here rfl ?_)
 refine Ops_nil ?_
 refine thenA_n ?_
 refine wpA_ret ?_
 obtain rfl := Option.some.inj hm
 exact retA_r (h2 := h) (Res.one rfl (res1.row (cs := tabI .u8 (a0.t (a1).toNat) 10) (hr := (rdAll (upd_same _ _ _))) sz34 rfl rfl (tabI_length _ _ _))) (Le.under (Le.under (Le.refl _) hb1) hb2) ⟨rfl, rfl⟩
end Go.Lab
