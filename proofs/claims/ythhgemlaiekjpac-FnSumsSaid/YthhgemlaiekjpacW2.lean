/- The walks: each function computes what its model tells. -/
import Derived.Test.YthhgemlaiekjpacW1
set_option linter.unusedVariables false
set_option linter.unusedSimpArgs false
namespace Go.Lab
open Go Go.Abs Go.Proofs
set_option maxRecDepth 20000
set_option linter.unusedVariables false
set_option linter.unusedSimpArgs false
/-! loop.example/g01195/spec.l01Switch -/
theorem c_spec_l01Switch {a0 : Sq} {a1 : Int} {a2 : Int} {a3 : Int} {h : Hp} {r : Sq} (hm : m_spec_l01Switch a0 a1 a2 a3 = some r)  :
    QC Try.prog 55 #[.agg (sqC a0).toArray, .int .u8 a1, .int .u8 a2, .int .u8 a3] h (.agg (sqC r).toArray) := by
 unfold m_spec_l01Switch at hm
 refine CC.enter Try.func55 rfl Try.ntmps55 rfl ?_
 refine wpA_seq ?_
 refine wpA_region ?_
 refine Ops_loud rfl (LO.boxAgg rfl rfl rfl (fun b1 hb1 => ?_))
 refine Ops_loud rfl (LO.alloc rfl zr28 rfl (fun b2 hb2 => ?_))
 simp only [upd_noneA] at hb2
 obtain ⟨n_b2_b1, hb2⟩ := hb2
 refine Ops_nil ?_
 refine thenA_n ?_
 refine wpA_seq ?_
 refine wpA_seq ?_
 refine wpA_region ?_
 refine Ops_quiet _ rfl rfl (QO.move rfl rfl) ?_
 refine Ops_quiet _ rfl rfl (QO.move rfl rfl) ?_
 refine Ops_quiet _ rfl rfl (QO.bin rfl rfl rfl rfl) ?_
 refine Ops_nil ?_
 refine thenA_n ?_
 refine wpA_cond rfl (fun g1 => ?_) (fun g1 => ?_)
 ·replace hm := cond_t hm g1
  refine wpA_seq ?_
  refine wpA_region ?_
  refine Ops_quiet _ rfl rfl (QO.loadRow (cs := sqC a0) (hr := (rdAll ((upd_ne _ _ n_b2_b1.ne.symm).trans (upd_same _ _ _)))) rfl sz28 rfl rfl (sqC_length _)) ?_
  refine Ops_loud rfl (LO.storeAll (cs := sqC a0) rfl sz28 rfl rfl (sqC_one _) (sqC_length _) (upd_same _ _ _) (sqC_length _) Chg.here rfl ?_)
  refine Ops_nil ?_
  refine thenA_n ?_
  refine wpA_ret ?_
  refine thenA_r ?_
  obtain rfl := Option.some.inj hm
  exact retA_r (h2 := h) (Res.one rfl (res1.row (cs := sqC a0) (hr := (rdAll (upd_same _ _ _))) sz28 rfl rfl (sqC_length _))) (Le.under (Le.under (Le.refl _) hb1) hb2) ⟨rfl, rfl⟩
 ·replace hm := cond_f hm g1
  refine wpA_skip ?_
  refine thenA_n ?_
  refine wpA_seq ?_
  refine wpA_region ?_
  refine Ops_quiet _ rfl rfl (QO.move rfl rfl) ?_
  refine Ops_quiet _ rfl rfl (QO.assign rfl rfl) ?_
  refine Ops_nil ?_
  refine thenA_n ?_
  refine wpA_block ?_
  obtain ⟨R1, hR, hm⟩ := Option.bind_eq_some_iff.1 hm
  obtain ⟨k1, hk1⟩ := loopV_some hR
  clear hR
  refine wpA_mono (Q := fun e s' h' => match (generalizing := false) R1 with | .stop x id => e = .exit id ∧ ∃ (x1 : Int) (x2 : Sq) (x3 : Sq), (x1, x2, x3) = x ∧ Sub s' [(1, .int .u8 a1), (2, .int .u8 a2), (4, .pointer (some ⟨b1, 0, none⟩)), (8, .pointer (some ⟨b2, 0, none⟩)), (9, .int .u8 x1)] ∧ Le (upd (upd (h) b1 (.own 28 (sqC x2) 101)) b2 (.own 28 (sqC x3) 101)) h' | .ret r => e = .ret ∧ Sub s' [(8, .pointer (some ⟨b2, 0, none⟩))] ∧ Le (upd (h) b2 (.own 28 (sqC r) 101)) h' | .next _ => False) ?_ ?_
  ·refine wpA_loop (fun k s' h' => ∃ (x1 : Int) (x2 : Sq) (x3 : Sq), loopW (m_spec_l01Switch_l0 a1 a2) k (x1, x2, x3) = some R1 ∧ Sub s' [(1, .int .u8 a1), (2, .int .u8 a2), (4, .pointer (some ⟨b1, 0, none⟩)), (8, .pointer (some ⟨b2, 0, none⟩)), (9, .int .u8 x1)] ∧ Le (upd (upd (h) b1 (.own 28 (sqC x2) 101)) b2 (.own 28 (sqC x3) 101)) h') (m := k1) ⟨a3, a0, sq0, hk1, (Sub.cons rfl (Sub.cons rfl (Sub.cons rfl (Sub.cons rfl (Sub.cons rfl Sub.nil))))), (Le.upd_left (Le.upd_left (Le.under (Le.under (Le.refl _) hb1) hb2) ((upd_ne _ _ n_b2_b1.ne.symm).trans (upd_same _ _ _)) (by first | rfl | (simp; done))) (upd_same _ _ _) (by first | rfl | (simp; done)))⟩ ?_
   rintro k1 s' h' ⟨x1, x2, x3, hk1, hsub, hle⟩
   refine wpA_weaken hsub.ok hle ?_
   clear hsub hle s' h'
   cases k1 with
   | zero => exact absurd hk1 (by simp [loopW])
   | succ k1 =>
    obtain ⟨o1, ho1, hk1⟩ := loopW_succ hk1
    unfold m_spec_l01Switch_l0 at ho1
    try dsimp only at ho1
    refine wpA_block ?_
    refine wpA_seq ?_
    refine wpA_region ?_
    refine Ops_quiet _ rfl rfl (QO.move rfl rfl) ?_
    refine Ops_quiet _ rfl rfl (QO.move rfl rfl) ?_
    refine Ops_quiet _ rfl rfl (QO.fieldAt (fo := 1) rfl sz28 rfl rfl sz26 rfl rfl) ?_
    have hq := chk ho1; clear ho1; obtain ⟨ck1, ho1⟩ := hq
    refine Ops_quiet _ rfl rfl (QO.idxArr rfl sz26 sz24 rfl rfl (by omega) (by omega)) ?_
    have hq := chk ho1; clear ho1; obtain ⟨ck2, ho1⟩ := hq
    refine Ops_quiet _ rfl rfl (QO.idxArr rfl sz24 sz5 rfl rfl (by omega) (by omega)) ?_
    refine Ops_quiet _ rfl rfl (QO.load rfl sz5 rfl rfl (by (refine (rd_own ((upd_ne _ _ n_b2_b1.ne.symm).trans (upd_same _ _ _)) _).trans ?_); exact sqC_get (by omega) (by omega))) ?_
    refine Ops_quiet _ rfl rfl (QO.assign rfl rfl) ?_
    refine Ops_nil ?_
    refine thenA_n ?_
    refine wpA_seq ?_
    refine wpA_any (upd (upd (h) b1 (.own 28 (sqC x2) 101)) b2 (.own 28 (sqC x3) 101)) [11] [11] (by kernel_rfl) (by kernel_rfl) (DW.start ?_)
    refine DW.pure' 0 _ rfl (by kernel_rfl) rfl (fun _ => QO.move rfl rfl) ?_
    refine DW.pure' 1 _ rfl (by kernel_rfl) rfl (fun _ => QO.move rfl rfl) ?_
    refine DW.pure' 2 _ rfl (by kernel_rfl) rfl (fun _ => QO.move rfl rfl) ?_
    refine DW.pure' 3 _ rfl (by kernel_rfl) rfl (fun _ => QO.move rfl rfl) ?_
    refine DW.pure' 4 _ rfl (by kernel_rfl) rfl (fun _ => QO.fieldAt (fo := 1) rfl sz28 rfl rfl sz26 rfl rfl) ?_
    have hq := chk ho1; clear ho1; obtain ⟨ck3, ho1⟩ := hq
    refine DW.pure' 5 _ rfl (by kernel_rfl) rfl (fun _ => QO.idxArr rfl sz26 sz24 rfl rfl (by omega) (by omega)) ?_
    have hq := chk ho1; clear ho1; obtain ⟨ck4, ho1⟩ := hq
    refine DW.pure' 6 _ rfl (by kernel_rfl) rfl (fun _ => QO.idxArr rfl sz24 sz5 rfl rfl (by omega) (by omega)) ?_
    refine DW.read' 7 _ rfl (by kernel_rfl) rfl (QO.load rfl sz5 rfl rfl (by (refine (rd_own ((upd_ne _ _ n_b2_b1.ne.symm).trans (upd_same _ _ _)) _).trans ?_); exact sqC_get (by omega) (by omega))) ?_
    refine DW.pure' 8 _ rfl (by kernel_rfl) rfl (fun _ => QO.fieldAt (fo := 1) rfl sz28 rfl rfl sz26 rfl rfl) ?_
    have hq := chk ho1; clear ho1; obtain ⟨ck5, ho1⟩ := hq
    refine DW.pure' 9 _ rfl (by kernel_rfl) rfl (fun _ => QO.idxArr rfl sz26 sz24 rfl rfl (by omega) (by omega)) ?_
    have hq := chk ho1; clear ho1; obtain ⟨ck6, ho1⟩ := hq
    refine DW.pure' 10 _ rfl (by kernel_rfl) rfl (fun _ => QO.idxArr rfl sz24 sz5 rfl rfl (by omega) (by omega)) ?_
    refine DW.loud 11 rfl (by kernel_rfl) rfl rfl (LO.store' (xs' := sqC (⟨x2.order, (tset x2.t (a1).toNat (x1).toNat (x2.t (a2).toNat (x1).toNat))⟩ : Sq)) rfl sz5 rfl rfl rfl ((upd_ne _ _ n_b2_b1.ne.symm).trans (upd_same _ _ _)) (by first | ((try simp only [rowsC_length, rowsA_length, mpC_length, sqC_length, tbC_length, tabI_length, tabB_length, ints_length, plsC_length, trC_length, sqsC_length, strsC_length, boolsC_length, tbB_length, List.length_append, List.length_cons, List.length_nil, List.length_set, List.length_replicate, rep_length]); first | omega | decide) | exact Nat.le_of_ble_eq_true rfl) (sqC_set (by omega) (by omega)) (Chg.there n_b2_b1.ne Chg.here) rfl ?_)
    refine ⟨(fun e => absurd e (by decide)), ?_⟩
    refine DW.done (by kernel_rfl) ?_ _
    refine thenA_n ?_
    refine wpA_seq ?_
    refine wpA_region ?_
    refine Ops_quiet _ rfl rfl (QO.move rfl rfl) ?_
    refine Ops_quiet _ rfl rfl (QO.move rfl rfl) ?_
    refine Ops_quiet _ rfl rfl (QO.move rfl rfl) ?_
    refine Ops_quiet _ rfl rfl (QO.fieldAt (fo := 1) rfl sz28 rfl rfl sz26 rfl rfl) ?_
    have hq := chk ho1; clear ho1; obtain ⟨ck7, ho1⟩ := hq
    refine Ops_quiet _ rfl rfl (QO.idxArr rfl sz26 sz24 rfl rfl (by omega) (by omega)) ?_
    have hq := chk ho1; clear ho1; obtain ⟨ck8, ho1⟩ := hq
    refine Ops_quiet _ rfl rfl (QO.idxArr rfl sz24 sz5 rfl rfl (by omega) (by omega)) ?_
    refine Ops_loud rfl (LO.store' (xs' := sqC (⟨((⟨x2.order, (tset x2.t (a1).toNat (x1).toNat (x2.t (a2).toNat (x1).toNat))⟩ : Sq)).order, (tset ((⟨x2.order, (tset x2.t (a1).toNat (x1).toNat (x2.t (a2).toNat (x1).toNat))⟩ : Sq)).t (a2).toNat (x1).toNat (x2.t (a1).toNat (x1).toNat))⟩ : Sq)) rfl sz5 rfl rfl rfl ((upd_ne _ _ n_b2_b1.ne.symm).trans (upd_same _ _ _)) (by first | ((try simp only [rowsC_length, rowsA_length, mpC_length, sqC_length, tbC_length, tabI_length, tabB_length, ints_length, plsC_length, trC_length, sqsC_length, strsC_length, boolsC_length, tbB_length, List.length_append, List.length_cons, List.length_nil, List.length_set, List.length_replicate, rep_length]); first | omega | decide) | exact Nat.le_of_ble_eq_true rfl) (sqC_set (by omega) (by omega)) (Chg.there n_b2_b1.ne Chg.here) rfl ?_)
    refine Ops_nil ?_
    refine thenA_n ?_
    refine wpA_seq ?_
    refine wpA_region ?_
    refine Ops_quiet _ rfl rfl (QO.assign rfl rfl) ?_
    refine Ops_nil ?_
    refine thenA_n ?_
    refine wpA_seq ?_
    refine wpA_block ?_
    obtain ⟨R2, hR, ho1⟩ := Option.bind_eq_some_iff.1 ho1
    obtain ⟨k2, hk2⟩ := loopV_some hR
    clear hR
    refine wpA_mono (Q := fun e s' h' => match (generalizing := false) R2 with | .stop x id => e = .exit id ∧ ∃ (x4 : Int) (x5 : Sq), (x4, x5) = x ∧ Sub s' [(1, .int .u8 a1), (2, .int .u8 a2), (4, .pointer (some ⟨b1, 0, none⟩)), (8, .pointer (some ⟨b2, 0, none⟩)), (9, .int .u8 x1), (11, .int .u8 x4)] ∧ Le (upd (upd (h) b1 (.own 28 (sqC (⟨((⟨x2.order, (tset x2.t (a1).toNat (x1).toNat (x2.t (a2).toNat (x1).toNat))⟩ : Sq)).order, (tset ((⟨x2.order, (tset x2.t (a1).toNat (x1).toNat (x2.t (a2).toNat (x1).toNat))⟩ : Sq)).t (a2).toNat (x1).toNat (x2.t (a1).toNat (x1).toNat))⟩ : Sq)) 101)) b2 (.own 28 (sqC x5) 101)) h' | .ret r => e = .ret ∧ Sub s' [(8, .pointer (some ⟨b2, 0, none⟩))] ∧ Le (upd (h) b2 (.own 28 (sqC r) 101)) h' | .next _ => False) ?_ ?_
    ·refine wpA_loop (fun k s' h' => ∃ (x4 : Int) (x5 : Sq), loopW (m_spec_l01Switch_l1 a1 a2 x1 x2) k (x4, x5) = some R2 ∧ Sub s' [(1, .int .u8 a1), (2, .int .u8 a2), (4, .pointer (some ⟨b1, 0, none⟩)), (8, .pointer (some ⟨b2, 0, none⟩)), (9, .int .u8 x1), (11, .int .u8 x4)] ∧ Le (upd (upd (h) b1 (.own 28 (sqC (⟨((⟨x2.order, (tset x2.t (a1).toNat (x1).toNat (x2.t (a2).toNat (x1).toNat))⟩ : Sq)).order, (tset ((⟨x2.order, (tset x2.t (a1).toNat (x1).toNat (x2.t (a2).toNat (x1).toNat))⟩ : Sq)).t (a2).toNat (x1).toNat (x2.t (a1).toNat (x1).toNat))⟩ : Sq)) 101)) b2 (.own 28 (sqC x5) 101)) h') (m := k2) ⟨0, x3, hk2, (Sub.cons rfl (Sub.cons rfl (Sub.cons rfl (Sub.cons rfl (Sub.cons rfl (Sub.cons rfl Sub.nil)))))), (Le.upd_left (Le.upd_left (Le.under (Le.under (Le.refl _) hb1) hb2) ((upd_ne _ _ n_b2_b1.ne.symm).trans (upd_same _ _ _)) (by first | rfl | (simp; done))) (upd_same _ _ _) (by first | rfl | (simp; done)))⟩ ?_
     rintro k2 s' h' ⟨x4, x5, hk2, hsub, hle⟩
     refine wpA_weaken hsub.ok hle ?_
     clear hsub hle s' h'
     cases k2 with
     | zero => exact absurd hk2 (by simp [loopW])
     | succ k2 =>
      obtain ⟨o2, ho2, hk2⟩ := loopW_succ hk2
      unfold m_spec_l01Switch_l1 at ho2
      try dsimp only at ho2
      refine wpA_seq ?_
      refine wpA_seq ?_
      refine wpA_drawn (by kernel_rfl) (by kernel_rfl) ?_
      refine QOps.quiet _ rfl rfl (QO.move rfl rfl) ?_
      refine QOps.quiet _ rfl rfl (QO.move rfl rfl) ?_
      refine QOps.quiet _ rfl rfl (QO.bin rfl rfl rfl rfl) ?_
      refine QOps.quiet _ rfl rfl (QO.move rfl rfl) ?_
      refine QOps.split 43 rfl (fun g2 => ?_) (fun g2 => ?_)
      ·replace ho2 := cond_t ho2 g2
       refine QOps.skip rfl rfl ?_
       refine QOps.skip rfl rfl ?_
       refine QOps.skip rfl rfl ?_
       refine QOps.skip rfl rfl ?_
       refine QOps.skip rfl rfl ?_
       refine QOps.skip rfl rfl ?_
       refine QOps.skip rfl rfl ?_
       refine QOps.skip rfl rfl ?_
       refine QOps.skip rfl rfl ?_
       refine QOps.skip rfl rfl ?_
       refine QOps.skip rfl rfl ?_
       refine QOps.skip rfl rfl ?_
       refine QOps.skip rfl rfl ?_
       refine QOps.quiet _ rfl rfl (QO.pick_t rfl rfl rfl) ?_
       refine QOps.nil ?_
       refine thenA_n ?_
       refine wpA_cond_t rfl ?_
       refine wpA_skip ?_
       refine thenA_n ?_
       refine wpA_block ?_
       refine wpA_seq ?_
       refine wpA_region ?_
       refine Ops_quiet _ rfl rfl (QO.move rfl rfl) ?_
       refine Ops_quiet _ rfl rfl (QO.bin rfl rfl rfl rfl) ?_
       refine Ops_quiet _ rfl rfl (QO.assign rfl rfl) ?_
       refine Ops_nil ?_
       refine thenA_n ?_
       refine wpA_seq ?_
       refine wpA_region ?_
       refine Ops_quiet _ rfl rfl (QO.move rfl rfl) ?_
       refine Ops_quiet _ rfl rfl (QO.conv rfl sz5 sz2 rfl) ?_
       refine Ops_quiet _ rfl rfl (QO.fieldAt (fo := 0) rfl sz28 rfl rfl sz2 rfl rfl) ?_
       refine Ops_quiet _ rfl rfl (QO.load rfl sz2 rfl rfl (by (refine (rd_own ((upd_ne _ _ n_b2_b1.ne.symm).trans (upd_same _ _ _)) _).trans ?_); exact rfl)) ?_
       refine Ops_quiet _ rfl rfl (QO.bin rfl rfl rfl rfl) ?_
       refine Ops_nil ?_
       refine thenA_n ?_
       refine wpA_cond rfl (fun g3 => ?_) (fun g3 => ?_)
       ·replace ho2 := cond_t ho2 g3
        refine wpA_seq ?_
        refine wpA_region ?_
        refine Ops_quiet _ rfl rfl (QO.loadRow (cs := sqC (⟨((⟨x2.order, (tset x2.t (a1).toNat (x1).toNat (x2.t (a2).toNat (x1).toNat))⟩ : Sq)).order, (tset ((⟨x2.order, (tset x2.t (a1).toNat (x1).toNat (x2.t (a2).toNat (x1).toNat))⟩ : Sq)).t (a2).toNat (x1).toNat (x2.t (a1).toNat (x1).toNat))⟩ : Sq)) (hr := (rdAll ((upd_ne _ _ n_b2_b1.ne.symm).trans (upd_same _ _ _)))) rfl sz28 rfl rfl (sqC_length _)) ?_
        refine Ops_loud rfl (LO.storeAll (cs := sqC (⟨((⟨x2.order, (tset x2.t (a1).toNat (x1).toNat (x2.t (a2).toNat (x1).toNat))⟩ : Sq)).order, (tset ((⟨x2.order, (tset x2.t (a1).toNat (x1).toNat (x2.t (a2).toNat (x1).toNat))⟩ : Sq)).t (a2).toNat (x1).toNat (x2.t (a1).toNat (x1).toNat))⟩ : Sq)) rfl sz28 rfl rfl (sqC_one _) (sqC_length _) (upd_same _ _ _) (sqC_length _) Chg.here rfl ?_)
        refine Ops_nil ?_
        refine thenA_n ?_
        refine wpA_ret ?_
        refine blockA_r ?_
        refine thenA_r ?_
        obtain rfl := Option.some.inj ho2
        obtain rfl := Option.some.inj hk2
        exact ⟨rfl, (Sub.cons rfl Sub.nil), (Le.upd_left (Le.under (Le.under (Le.refl _) hb1) hb2) (upd_same _ _ _) (by first | rfl | (simp; done)))⟩
       ·replace ho2 := cond_f ho2 g3
        refine wpA_skip ?_
        refine blockA_n ?_
        obtain rfl := Option.some.inj ho2
        dsimp only at hk2
        exact thenA_n ⟨k2, Nat.lt_succ_self _, _, _, hk2, (Sub.cons rfl (Sub.cons rfl (Sub.cons rfl (Sub.cons rfl (Sub.cons rfl (Sub.cons rfl Sub.nil)))))), (Le.upd_left (Le.upd_left (Le.under (Le.under (Le.refl _) hb1) hb2) ((upd_ne _ _ n_b2_b1.ne.symm).trans (upd_same _ _ _)) (by first | rfl | (simp; done))) (upd_same _ _ _) (by first | rfl | (simp; done)))⟩
      ·replace ho2 := cond_f ho2 g2
       refine QOps.quiet _ rfl rfl (QO.move rfl rfl) ?_
       refine QOps.quiet _ rfl rfl (QO.move rfl rfl) ?_
       refine QOps.quiet _ rfl rfl (QO.fieldAt (fo := 1) rfl sz28 rfl rfl sz26 rfl rfl) ?_
       have hq := chk ho2; clear ho2; obtain ⟨ck9, ho2⟩ := hq
       refine QOps.quiet _ rfl rfl (QO.idxArr rfl sz26 sz24 rfl rfl (by omega) (by omega)) ?_
       have hq := chk ho2; clear ho2; obtain ⟨ck10, ho2⟩ := hq
       refine QOps.quiet _ rfl rfl (QO.idxArr rfl sz24 sz5 rfl rfl (by omega) (by omega)) ?_
       refine QOps.quiet _ rfl rfl (QO.load rfl sz5 rfl rfl (by (refine (rd_own ((upd_ne _ _ n_b2_b1.ne.symm).trans (upd_same _ _ _)) _).trans ?_); exact sqC_get (by omega) (by omega))) ?_
       refine QOps.quiet _ rfl rfl (QO.move rfl rfl) ?_
       refine QOps.quiet _ rfl rfl (QO.move rfl rfl) ?_
       refine QOps.quiet _ rfl rfl (QO.fieldAt (fo := 1) rfl sz28 rfl rfl sz26 rfl rfl) ?_
       have hq := chk ho2; clear ho2; obtain ⟨ck11, ho2⟩ := hq
       refine QOps.quiet _ rfl rfl (QO.idxArr rfl sz26 sz24 rfl rfl (by omega) (by omega)) ?_
       have hq := chk ho2; clear ho2; obtain ⟨ck12, ho2⟩ := hq
       refine QOps.quiet _ rfl rfl (QO.idxArr rfl sz24 sz5 rfl rfl (by omega) (by omega)) ?_
       refine QOps.quiet _ rfl rfl (QO.load rfl sz5 rfl rfl (by (refine (rd_own ((upd_ne _ _ n_b2_b1.ne.symm).trans (upd_same _ _ _)) _).trans ?_); exact sqC_get (by omega) (by omega))) ?_
       refine QOps.quiet _ rfl rfl (QO.bin rfl rfl rfl rfl) ?_
       refine QOps.quiet _ rfl rfl (QO.pick_f rfl rfl rfl) ?_
       refine QOps.nil ?_
       refine thenA_n ?_
       refine wpA_cond rfl (fun g4 => ?_) (fun g4 => ?_)
       ·replace ho2 := cond_t ho2 g4
        refine wpA_skip ?_
        refine thenA_n ?_
        refine wpA_block ?_
        refine wpA_seq ?_
        refine wpA_region ?_
        refine Ops_quiet _ rfl rfl (QO.move rfl rfl) ?_
        refine Ops_quiet _ rfl rfl (QO.bin rfl rfl rfl rfl) ?_
        refine Ops_quiet _ rfl rfl (QO.assign rfl rfl) ?_
        refine Ops_nil ?_
        refine thenA_n ?_
        refine wpA_seq ?_
        refine wpA_region ?_
        refine Ops_quiet _ rfl rfl (QO.move rfl rfl) ?_
        refine Ops_quiet _ rfl rfl (QO.conv rfl sz5 sz2 rfl) ?_
        refine Ops_quiet _ rfl rfl (QO.fieldAt (fo := 0) rfl sz28 rfl rfl sz2 rfl rfl) ?_
        refine Ops_quiet _ rfl rfl (QO.load rfl sz2 rfl rfl (by (refine (rd_own ((upd_ne _ _ n_b2_b1.ne.symm).trans (upd_same _ _ _)) _).trans ?_); exact rfl)) ?_
        refine Ops_quiet _ rfl rfl (QO.bin rfl rfl rfl rfl) ?_
        refine Ops_nil ?_
        refine thenA_n ?_
        refine wpA_cond rfl (fun g5 => ?_) (fun g5 => ?_)
        ·replace ho2 := cond_t ho2 g5
         refine wpA_seq ?_
         refine wpA_region ?_
         refine Ops_quiet _ rfl rfl (QO.loadRow (cs := sqC (⟨((⟨x2.order, (tset x2.t (a1).toNat (x1).toNat (x2.t (a2).toNat (x1).toNat))⟩ : Sq)).order, (tset ((⟨x2.order, (tset x2.t (a1).toNat (x1).toNat (x2.t (a2).toNat (x1).toNat))⟩ : Sq)).t (a2).toNat (x1).toNat (x2.t (a1).toNat (x1).toNat))⟩ : Sq)) (hr := (rdAll ((upd_ne _ _ n_b2_b1.ne.symm).trans (upd_same _ _ _)))) rfl sz28 rfl rfl (sqC_length _)) ?_
         refine Ops_loud rfl (LO.storeAll (cs := sqC (⟨((⟨x2.order, (tset x2.t (a1).toNat (x1).toNat (x2.t (a2).toNat (x1).toNat))⟩ : Sq)).order, (tset ((⟨x2.order, (tset x2.t (a1).toNat (x1).toNat (x2.t (a2).toNat (x1).toNat))⟩ : Sq)).t (a2).toNat (x1).toNat (x2.t (a1).toNat (x1).toNat))⟩ : Sq)) rfl sz28 rfl rfl (sqC_one _) (sqC_length _) (upd_same _ _ _) (sqC_length _) Chg.here rfl ?_)
         refine Ops_nil ?_
         refine thenA_n ?_
         refine wpA_ret ?_
         refine blockA_r ?_
         refine thenA_r ?_
         obtain rfl := Option.some.inj ho2
         obtain rfl := Option.some.inj hk2
         exact ⟨rfl, (Sub.cons rfl Sub.nil), (Le.upd_left (Le.under (Le.under (Le.refl _) hb1) hb2) (upd_same _ _ _) (by first | rfl | (simp; done)))⟩
        ·replace ho2 := cond_f ho2 g5
         refine wpA_skip ?_
         refine blockA_n ?_
         obtain rfl := Option.some.inj ho2
         dsimp only at hk2
         exact thenA_n ⟨k2, Nat.lt_succ_self _, _, _, hk2, (Sub.cons rfl (Sub.cons rfl (Sub.cons rfl (Sub.cons rfl (Sub.cons rfl (Sub.cons rfl Sub.nil)))))), (Le.upd_left (Le.upd_left (Le.under (Le.under (Le.refl _) hb1) hb2) ((upd_ne _ _ n_b2_b1.ne.symm).trans (upd_same _ _ _)) (by first | rfl | (simp; done))) (upd_same _ _ _) (by first | rfl | (simp; done)))⟩
       ·replace ho2 := cond_f ho2 g4
        refine wpA_exit ?_
        refine thenA_e ?_
        refine thenA_e ?_
        obtain rfl := Option.some.inj ho2
        obtain rfl := Option.some.inj hk2
        exact ⟨rfl, _, _, rfl, (Sub.cons rfl (Sub.cons rfl (Sub.cons rfl (Sub.cons rfl (Sub.cons rfl (Sub.cons rfl Sub.nil)))))), (Le.upd_left (Le.upd_left (Le.under (Le.under (Le.refl _) hb1) hb2) ((upd_ne _ _ n_b2_b1.ne.symm).trans (upd_same _ _ _)) (by first | rfl | (simp; done))) (upd_same _ _ _) (by first | rfl | (simp; done)))⟩
    ·intro e s' h' hq
     cases R2 with
     | next x => exact hq.elim
     | ret r =>
      obtain ⟨rfl, hsub1, hle1⟩ := hq
      try dsimp only at ho1
      refine blockA_r ?_
      refine thenA_r ?_
      refine blockA_r ?_
      refine thenA_r ?_
      obtain rfl := Option.some.inj ho1
      obtain rfl := Option.some.inj hk1
      exact ⟨rfl, (Sub.trans hsub1 (Sub.cons rfl Sub.nil)), (Le.trans (Le.upd_left (Le.under (Le.refl _) hb2) (upd_same _ _ _) (by first | rfl | (simp; done))) hle1)⟩
     | stop x id =>
      obtain ⟨rfl, x6, x7, rfl, hsub2, hle2⟩ := hq
      try dsimp only at ho1
      by_cases hid1 : id = 2
      ·subst hid1
       rw [if_pos rfl] at ho1
       refine blockA_s ?_
       refine thenA_n ?_
       refine wpA_weaken hsub2.ok hle2 ?_
       refine wpA_region ?_
       refine Ops_quiet _ rfl rfl (QO.move rfl rfl) ?_
       refine Ops_quiet _ rfl rfl (QO.assign rfl rfl) ?_
       refine Ops_nil ?_
       refine blockA_n ?_
       obtain rfl := Option.some.inj ho1
       dsimp only at hk1
       exact thenA_n ⟨k1, Nat.lt_succ_self _, _, _, _, hk1, (Sub.cons rfl (Sub.cons rfl (Sub.cons rfl (Sub.cons rfl (Sub.cons rfl Sub.nil))))), (Le.upd_left (Le.upd_left (Le.under (Le.under (Le.refl _) hb1) hb2) ((upd_ne _ _ n_b2_b1.ne.symm).trans (upd_same _ _ _)) (by first | rfl | (simp; done))) (upd_same _ _ _) (by first | rfl | (simp; done)))⟩
      rw [if_neg hid1] at ho1
      exact absurd ho1 (by simp)
  ·intro e s' h' hq
   cases R1 with
   | next x => exact hq.elim
   | ret r =>
    obtain ⟨rfl, hsub3, hle3⟩ := hq
    try dsimp only at hm
    refine blockA_r ?_
    obtain rfl := Option.some.inj hm
    refine retA_sub hsub3.ok hle3 ?_
    exact retA_r (h2 := h) (Res.one rfl (res1.row (cs := sqC r) (hr := (rdAll (upd_same _ _ _))) sz28 rfl rfl (sqC_length _))) (Le.under (Le.refl _) hb2) ⟨rfl, rfl⟩
   | stop x id =>
    obtain ⟨rfl, x8, x9, x10, rfl, hsub4, hle4⟩ := hq
    try dsimp only at hm
    exact absurd hm (by simp)

/-! loop.example/g01195/spec.l01DrawPlaces -/
theorem c_spec_l01DrawPlaces {a0 : Rng} {p0 : Nat} {l_s : List Int} {A_s : Option Addr} {c_s : Nat} {a1 : Int} {h : Hp} {r : (Nat → Int) × Rng} (hm : m_spec_l01DrawPlaces a0 l_s a1 = some r) (hs_s : RdS h A_s (ints .u8 l_s)) (h_p0 : h p0 = none) :
    CC Try.prog 57 #[.pointer (some ⟨p0, 0, none⟩), .int .i64 a1] (upd (h) p0 (.own 69 (srcC A_s l_s.length c_s a0) 3)) (fun v h' => v = .agg (tabI .u8 r.1 10).toArray ∧ h' = upd (h) p0 (.own 69 (srcC A_s l_s.length c_s r.2) 3)) := by
 unfold m_spec_l01DrawPlaces at hm
 refine CC.enter Try.func57 rfl Try.ntmps57 rfl ?_
 refine wpA_seq ?_
 refine wpA_region ?_
 refine Ops_loud rfl (LO.alloc rfl zr81 rfl (fun b1 hb1 => ?_))
 simp only [upd_noneA] at hb1
 obtain ⟨n_b1_p0, hb1⟩ := hb1
 refine Ops_nil ?_
 refine thenA_n ?_
 refine wpA_seq ?_
 refine wpA_region ?_
 refine Ops_quiet _ rfl rfl (QO.move rfl rfl) ?_
 have hq := Option.bind_eq_some_iff.1 hm; clear hm; obtain ⟨r1, hr1, hm⟩ := hq
 refine Ops_call _ _ rfl rfl (EO.fn rfl Try.func64 rfl rfl (Evs.cons rfl Evs.nil)) (QC.cc (c_spec_l01Same hr1 ) ?_)
 refine Ops_loud rfl (LO.alloc rfl zr81 rfl (fun b2 hb2 => ?_))
 simp only [upd_noneA] at hb2
 obtain ⟨n_b2_b1, n_b2_p0, hb2⟩ := hb2
 refine Ops_loud rfl (LO.storeAll (cs := tabI .u8 r1 10) rfl sz81 rfl rfl (tabI_one _ _ _) (tabI_length _ _ _) (upd_same _ _ _) (tabI_length _ _ _) Chg.here rfl ?_)
 refine Ops_nil ?_
 refine thenA_n ?_
 refine wpA_seq ?_
 refine wpA_seq ?_
 refine wpA_region ?_
 refine Ops_quiet _ rfl rfl (QO.move rfl rfl) ?_
 have hq := Option.bind_eq_some_iff.1 hm; clear hm; obtain ⟨r2, hr2, hm⟩ := hq
 have hd1 : Del (upd (upd (upd (h) p0 (.own 69 (srcC A_s l_s.length c_s a0) 3)) b1 (.own 81 (tabI .u8 pl0 10) 10)) b2 (.own 81 (tabI .u8 r1 10) 10)) p0 (.own 69 (srcC A_s l_s.length c_s a0) 3) (upd (upd (h) b1 (.own 81 (tabI .u8 pl0 10) 10)) b2 (.own 81 (tabI .u8 r1 10) 10)) := (Del.there n_b2_p0.ne.symm (Del.there n_b1_p0.ne.symm (Del.here h_p0)))
 refine Ops_call _ _ rfl rfl (EO.fn rfl Try.func27 rfl rfl (Evs.cons rfl (Evs.cons rfl Evs.nil))) (CC.mono (CC.atLe (c_spec_l01Next (h := upd (upd (h) b1 (.own 81 (tabI .u8 pl0 10) 10)) b2 (.own 81 (tabI .u8 r1 10) 10)) hr2 (RdS.le hs_s (Le.under (Le.under (Le.refl _) hb1) hb2)) hd1.none) hd1.le) ?_)
 rintro _ _ ⟨rfl, rfl⟩
 refine Ops_quiet _ rfl rfl (QO.bin rfl rfl rfl rfl) ?_
 refine Ops_nil ?_
 refine thenA_n ?_
 refine wpA_cond rfl (fun g1 => ?_) (fun g1 => ?_)
 ·replace hm := cond_t hm g1
  refine wpA_seq ?_
  refine wpA_region ?_
  refine Ops_quiet _ rfl rfl (QO.loadRow (cs := tabI .u8 r1 10) (hr := (rdAll ((upd_ne _ _ n_b2_p0.ne).trans (upd_same _ _ _)))) rfl sz81 rfl rfl (tabI_length _ _ _)) ?_
  refine Ops_loud rfl (LO.storeAll (cs := tabI .u8 r1 10) rfl sz81 rfl rfl (tabI_one _ _ _) (tabI_length _ _ _) ((upd_ne _ _ n_b1_p0.ne).trans ((upd_ne _ _ n_b2_b1.ne.symm).trans (upd_same _ _ _))) (tabI_length _ _ _) (Chg.there n_b1_p0.ne.symm (Chg.there n_b2_b1.ne Chg.here)) rfl ?_)
  refine Ops_nil ?_
  refine thenA_n ?_
  refine wpA_ret ?_
  refine thenA_r ?_
  obtain rfl := Option.some.inj hm
  exact retA_r (h2 := upd (h) p0 (.own 69 (srcC A_s l_s.length c_s r2.2) 3)) (Res.one rfl (res1.row (cs := tabI .u8 r1 10) (hr := (rdAll ((upd_ne _ _ n_b1_p0.ne).trans ((upd_ne _ _ n_b2_b1.ne.symm).trans (upd_same _ _ _))))) sz81 rfl rfl (tabI_length _ _ _))) (Le.upd_left (Le.under (Le.under (Le.under (Le.refl _) hb1) hb2) h_p0) (upd_same _ _ _) (by first | rfl | (simp; done))) ⟨rfl, rfl⟩
 ·replace hm := cond_f hm g1
  refine wpA_skip ?_
  refine thenA_n ?_
  refine wpA_seq ?_
  refine wpA_seq ?_
  refine wpA_region ?_
  refine Ops_quiet _ rfl rfl (QO.move rfl rfl) ?_
  refine Ops_quiet _ rfl rfl (QO.bin rfl rfl rfl rfl) ?_
  refine Ops_quiet _ rfl rfl (QO.assign rfl rfl) ?_
  refine Ops_nil ?_
  refine thenA_n ?_
  refine wpA_block ?_
  obtain ⟨R1, hR, hm⟩ := Option.bind_eq_some_iff.1 hm
  obtain ⟨k1, hk1⟩ := loopV_some hR
  clear hR
  refine wpA_mono (Q := fun e s' h' => match (generalizing := false) R1 with | .stop x id => e = .exit id ∧ ∃ (x1 : Int) (x2 : (Nat → Int)) (x3 : Rng), (x1, x2, x3) = x ∧ Sub s' [(0, .pointer (some ⟨p0, 0, none⟩)), (4, .pointer (some ⟨b1, 0, none⟩)), (5, .pointer (some ⟨b2, 0, none⟩)), (6, .int .i64 x1)] ∧ Le (upd (upd (upd (h) b1 (.own 81 (tabI .u8 pl0 10) 10)) b2 (.own 81 (tabI .u8 x2 10) 10)) p0 (.own 69 (srcC A_s l_s.length c_s x3) 3)) h' | .ret r => False | .next _ => False) ?_ ?_
  ·refine wpA_loop (fun k s' h' => ∃ (x1 : Int) (x2 : (Nat → Int)) (x3 : Rng), loopW (m_spec_l01DrawPlaces_l0 l_s) k (x1, x2, x3) = some R1 ∧ Sub s' [(0, .pointer (some ⟨p0, 0, none⟩)), (4, .pointer (some ⟨b1, 0, none⟩)), (5, .pointer (some ⟨b2, 0, none⟩)), (6, .int .i64 x1)] ∧ Le (upd (upd (upd (h) b1 (.own 81 (tabI .u8 pl0 10) 10)) b2 (.own 81 (tabI .u8 x2 10) 10)) p0 (.own 69 (srcC A_s l_s.length c_s x3) 3)) h') (m := k1) ⟨(IntKind.i64.wrap (a1 - 1)), r1, r2.2, hk1, (Sub.cons rfl (Sub.cons rfl (Sub.cons rfl (Sub.cons rfl Sub.nil)))), (Le.upd_left (Le.upd_left (Le.upd_left (Le.under (Le.under (Le.under (Le.refl _) hb1) hb2) h_p0) ((upd_ne _ _ n_b1_p0.ne).trans ((upd_ne _ _ n_b2_b1.ne.symm).trans (upd_same _ _ _))) (by first | rfl | (simp; done))) ((upd_ne _ _ n_b2_p0.ne).trans (upd_same _ _ _)) (by first | rfl | (simp; done))) (upd_same _ _ _) (by first | rfl | (simp; done)))⟩ ?_
   rintro k1 s' h' ⟨x1, x2, x3, hk1, hsub, hle⟩
   refine wpA_weaken hsub.ok hle ?_
   clear hsub hle s' h'
   cases k1 with
   | zero => exact absurd hk1 (by simp [loopW])
   | succ k1 =>
    obtain ⟨o1, ho1, hk1⟩ := loopW_succ hk1
    unfold m_spec_l01DrawPlaces_l0 at ho1
    try dsimp only at ho1
    refine wpA_seq ?_
    refine wpA_seq ?_
    refine wpA_region ?_
    refine Ops_quiet _ rfl rfl (QO.move rfl rfl) ?_
    refine Ops_quiet _ rfl rfl (QO.bin rfl rfl rfl rfl) ?_
    refine Ops_nil ?_
    refine thenA_n ?_
    refine wpA_cond rfl (fun g2 => ?_) (fun g2 => ?_)
    ·replace ho1 := cond_t ho1 g2
     refine wpA_skip ?_
     refine thenA_n ?_
     refine wpA_seq ?_
     refine wpA_block ?_
     refine wpA_seq ?_
     refine wpA_region ?_
     refine Ops_quiet _ rfl rfl (QO.move rfl rfl) ?_
     refine Ops_quiet _ rfl rfl (QO.move rfl rfl) ?_
     refine Ops_quiet _ rfl rfl (QO.bin rfl rfl rfl rfl) ?_
     have hq := Option.bind_eq_some_iff.1 ho1; clear ho1; obtain ⟨r3, hr3, ho1⟩ := hq
     have hd2 : Del (upd (upd (upd (h) b1 (.own 81 (tabI .u8 pl0 10) 10)) b2 (.own 81 (tabI .u8 x2 10) 10)) p0 (.own 69 (srcC A_s l_s.length c_s x3) 3)) p0 (.own 69 (srcC A_s l_s.length c_s x3) 3) (upd (upd (h) b1 (.own 81 (tabI .u8 pl0 10) 10)) b2 (.own 81 (tabI .u8 x2 10) 10)) := (Del.here (none_upd n_b2_p0.ne.symm (none_upd n_b1_p0.ne.symm h_p0)))
     refine Ops_call _ _ rfl rfl (EO.fn rfl Try.func27 rfl rfl (Evs.cons rfl (Evs.cons rfl Evs.nil))) (CC.mono (CC.atLe (c_spec_l01Next (h := upd (upd (h) b1 (.own 81 (tabI .u8 pl0 10) 10)) b2 (.own 81 (tabI .u8 x2 10) 10)) hr3 (RdS.le hs_s (Le.under (Le.under (Le.refl _) hb1) hb2)) hd2.none) hd2.le) ?_)
     rintro _ _ ⟨rfl, rfl⟩
     refine Ops_quiet _ rfl rfl (QO.assign rfl rfl) ?_
     refine Ops_nil ?_
     refine thenA_n ?_
     refine wpA_seq ?_
     refine wpA_region ?_
     refine Ops_quiet _ rfl rfl (QO.move rfl rfl) ?_
     have hq := chk ho1; clear ho1; obtain ⟨ck1, ho1⟩ := hq
     refine Ops_quiet _ rfl rfl (QO.idxArr rfl sz81 sz5 rfl rfl (by omega) (by omega)) ?_
     refine Ops_quiet _ rfl rfl (QO.load rfl sz5 rfl rfl (by (refine (rd_own ((upd_ne _ _ n_b2_p0.ne).trans (upd_same _ _ _)) _).trans ?_); exact tabI_get01 (by omega))) ?_
     refine Ops_quiet _ rfl rfl (QO.assign rfl rfl) ?_
     refine Ops_nil ?_
     refine thenA_n ?_
     refine wpA_seq ?_
     refine wpA_region ?_
     refine Ops_quiet _ rfl rfl (QO.move rfl rfl) ?_
     refine Ops_quiet _ rfl rfl (QO.move rfl rfl) ?_
     have hq := chk ho1; clear ho1; obtain ⟨ck2, ho1⟩ := hq
     refine Ops_quiet _ rfl rfl (QO.idxArr rfl sz81 sz5 rfl rfl (by omega) (by omega)) ?_
     refine Ops_quiet _ rfl rfl (QO.load rfl sz5 rfl rfl (by (refine (rd_own ((upd_ne _ _ n_b2_p0.ne).trans (upd_same _ _ _)) _).trans ?_); exact tabI_get01 (by omega))) ?_
     have hq := chk ho1; clear ho1; obtain ⟨ck3, ho1⟩ := hq
     refine Ops_quiet _ rfl rfl (QO.idxArr rfl sz81 sz5 rfl rfl (by omega) (by omega)) ?_
     refine Ops_loud rfl (LO.store' (xs' := tabI .u8 (fset x2 (x1).toNat (x2 (r3.1).toNat)) 10) rfl sz5 rfl rfl rfl ((upd_ne _ _ n_b2_p0.ne).trans (upd_same _ _ _)) (by first | ((try simp only [rowsC_length, rowsA_length, mpC_length, sqC_length, tbC_length, tabI_length, tabB_length, ints_length, plsC_length, trC_length, sqsC_length, strsC_length, boolsC_length, tbB_length, List.length_append, List.length_cons, List.length_nil, List.length_set, List.length_replicate, rep_length]); first | omega | decide) | exact Nat.le_of_ble_eq_true rfl) tabI_set01 (Chg.there n_b2_p0.ne.symm Chg.here) rfl ?_)
     refine Ops_nil ?_
     refine thenA_n ?_
     refine wpA_region ?_
     refine Ops_quiet _ rfl rfl (QO.move rfl rfl) ?_
     refine Ops_quiet _ rfl rfl (QO.move rfl rfl) ?_
     have hq := chk ho1; clear ho1; obtain ⟨ck4, ho1⟩ := hq
     refine Ops_quiet _ rfl rfl (QO.idxArr rfl sz81 sz5 rfl rfl (by omega) (by omega)) ?_
     refine Ops_loud rfl (LO.store' (xs' := tabI .u8 (fset (fset x2 (x1).toNat (x2 (r3.1).toNat)) (r3.1).toNat (x2 (x1).toNat)) 10) rfl sz5 rfl rfl rfl ((upd_ne _ _ n_b2_p0.ne).trans (upd_same _ _ _)) (by first | ((try simp only [rowsC_length, rowsA_length, mpC_length, sqC_length, tbC_length, tabI_length, tabB_length, ints_length, plsC_length, trC_length, sqsC_length, strsC_length, boolsC_length, tbB_length, List.length_append, List.length_cons, List.length_nil, List.length_set, List.length_replicate, rep_length]); first | omega | decide) | exact Nat.le_of_ble_eq_true rfl) tabI_set01 (Chg.there n_b2_p0.ne.symm Chg.here) rfl ?_)
     refine Ops_nil ?_
     refine blockA_n ?_
     refine thenA_n ?_
     refine wpA_region ?_
     refine Ops_quiet _ rfl rfl (QO.move rfl rfl) ?_
     refine Ops_quiet _ rfl rfl (QO.bin rfl rfl rfl rfl) ?_
     refine Ops_quiet _ rfl rfl (QO.assign rfl rfl) ?_
     refine Ops_nil ?_
     obtain rfl := Option.some.inj ho1
     dsimp only at hk1
     exact thenA_n ⟨k1, Nat.lt_succ_self _, _, _, _, hk1, (Sub.cons rfl (Sub.cons rfl (Sub.cons rfl (Sub.cons rfl Sub.nil)))), (Le.upd_left (Le.upd_left (Le.upd_left (Le.under (Le.under (Le.under (Le.refl _) hb1) hb2) h_p0) ((upd_ne _ _ n_b1_p0.ne).trans ((upd_ne _ _ n_b2_b1.ne.symm).trans (upd_same _ _ _))) (by first | rfl | (simp; done))) ((upd_ne _ _ n_b2_p0.ne).trans (upd_same _ _ _)) (by first | rfl | (simp; done))) (upd_same _ _ _) (by first | rfl | (simp; done)))⟩
    ·replace ho1 := cond_f ho1 g2
     refine wpA_exit ?_
     refine thenA_e ?_
     refine thenA_e ?_
     obtain rfl := Option.some.inj ho1
     obtain rfl := Option.some.inj hk1
     exact ⟨rfl, _, _, _, rfl, (Sub.cons rfl (Sub.cons rfl (Sub.cons rfl (Sub.cons rfl Sub.nil)))), (Le.upd_left (Le.upd_left (Le.upd_left (Le.under (Le.under (Le.under (Le.refl _) hb1) hb2) h_p0) ((upd_ne _ _ n_b1_p0.ne).trans ((upd_ne _ _ n_b2_b1.ne.symm).trans (upd_same _ _ _))) (by first | rfl | (simp; done))) ((upd_ne _ _ n_b2_p0.ne).trans (upd_same _ _ _)) (by first | rfl | (simp; done))) (upd_same _ _ _) (by first | rfl | (simp; done)))⟩
  ·intro e s' h' hq
   cases R1 with
   | next x => exact hq.elim
   | ret r => exact hq.elim
   | stop x id =>
    obtain ⟨rfl, x4, x5, x6, rfl, hsub1, hle1⟩ := hq
    try dsimp only at hm
    by_cases hid1 : id = 0
    ·subst hid1
     rw [if_pos rfl] at hm
     refine blockA_s ?_
     refine thenA_n ?_
     refine wpA_weaken hsub1.ok hle1 ?_
     refine wpA_seq ?_
     refine wpA_region ?_
     refine Ops_quiet _ rfl rfl (QO.loadRow (cs := tabI .u8 x5 10) (hr := (rdAll ((upd_ne _ _ n_b2_p0.ne).trans (upd_same _ _ _)))) rfl sz81 rfl rfl (tabI_length _ _ _)) ?_
     refine Ops_loud rfl (LO.storeAll (cs := tabI .u8 x5 10) rfl sz81 rfl rfl (tabI_one _ _ _) (tabI_length _ _ _) ((upd_ne _ _ n_b1_p0.ne).trans ((upd_ne _ _ n_b2_b1.ne.symm).trans (upd_same _ _ _))) (tabI_length _ _ _) (Chg.there n_b1_p0.ne.symm (Chg.there n_b2_b1.ne Chg.here)) rfl ?_)
     refine Ops_nil ?_
     refine thenA_n ?_
     refine wpA_ret ?_
     obtain rfl := Option.some.inj hm
     exact retA_r (h2 := upd (h) p0 (.own 69 (srcC A_s l_s.length c_s x6) 3)) (Res.one rfl (res1.row (cs := tabI .u8 x5 10) (hr := (rdAll ((upd_ne _ _ n_b1_p0.ne).trans ((upd_ne _ _ n_b2_b1.ne.symm).trans (upd_same _ _ _))))) sz81 rfl rfl (tabI_length _ _ _))) (Le.upd_left (Le.under (Le.under (Le.under (Le.refl _) hb1) hb2) h_p0) (upd_same _ _ _) (by first | rfl | (simp; done))) ⟨rfl, rfl⟩
    rw [if_neg hid1] at hm
    exact absurd hm (by simp)

/-! loop.example/g01195/spec.l01Draw -/
theorem c_spec_l01Draw {a0 : Rng} {p0 : Nat} {l_s : List Int} {A_s : Option Addr} {c_s : Nat} {h : Hp} {r : Sq × Rng} (hm : m_spec_l01Draw a0 l_s = some r) (hs_s : RdS h A_s (ints .u8 l_s)) (h_p0 : h p0 = none) :
    CC Try.prog 47 #[.pointer (some ⟨p0, 0, none⟩)] (upd (h) p0 (.own 69 (srcC A_s l_s.length c_s a0) 3)) (fun v h' => v = .agg (sqC r.1).toArray ∧ h' = upd (h) p0 (.own 69 (srcC A_s l_s.length c_s r.2) 3)) := by
 unfold m_spec_l01Draw at hm
 refine CC.enter Try.func47 rfl Try.ntmps47 rfl ?_
 refine wpA_seq ?_
 refine wpA_region ?_
 refine Ops_loud rfl (LO.alloc rfl zr28 rfl (fun b1 hb1 => ?_))
 simp only [upd_noneA] at hb1
 obtain ⟨n_b1_p0, hb1⟩ := hb1
 refine Ops_nil ?_
 refine thenA_n ?_
 refine wpA_seq ?_
 refine wpA_region ?_
 refine Ops_quiet _ rfl rfl (QO.move rfl rfl) ?_
 have hq := Option.bind_eq_some_iff.1 hm; clear hm; obtain ⟨r1, hr1, hm⟩ := hq
 have hd1 : Del (upd (upd (h) p0 (.own 69 (srcC A_s l_s.length c_s a0) 3)) b1 (.own 28 (sqC sq0) 101)) p0 (.own 69 (srcC A_s l_s.length c_s a0) 3) (upd (h) b1 (.own 28 (sqC sq0) 101)) := (Del.there n_b1_p0.ne.symm (Del.here h_p0))
 refine Ops_call _ _ rfl rfl (EO.fn rfl Try.func53 rfl rfl (Evs.cons rfl Evs.nil)) (CC.mono (CC.atLe (c_spec_l01Known (h := upd (h) b1 (.own 28 (sqC sq0) 101)) hr1 (RdS.le hs_s (Le.under (Le.refl _) hb1)) hd1.none) hd1.le) ?_)
 rintro _ _ ⟨rfl, rfl⟩
 refine Ops_loud rfl (LO.alloc rfl zr28 rfl (fun b2 hb2 => ?_))
 simp only [upd_noneA] at hb2
 obtain ⟨n_b2_p0, n_b2_b1, hb2⟩ := hb2
 refine Ops_loud rfl (LO.storeAll (cs := sqC r1.1) rfl sz28 rfl rfl (sqC_one _) (sqC_length _) (upd_same _ _ _) (sqC_length _) Chg.here rfl ?_)
 refine Ops_nil ?_
 refine thenA_n ?_
 refine wpA_seq ?_
 refine wpA_region ?_
 refine Ops_quiet _ rfl rfl (QO.fieldAt (fo := 0) rfl sz28 rfl rfl sz2 rfl rfl) ?_
 refine Ops_quiet _ rfl rfl (QO.load rfl sz2 rfl rfl (by (refine (rd_own (upd_same _ _ _) _).trans ?_); exact rfl)) ?_
 refine Ops_quiet _ rfl rfl (QO.assign rfl rfl) ?_
 refine Ops_nil ?_
 refine thenA_n ?_
 refine wpA_seq ?_
 refine wpA_seq ?_
 refine wpA_region ?_
 refine Ops_quiet _ rfl rfl (QO.move rfl rfl) ?_
 refine Ops_loud rfl (LO.slice' [(0, .int .i64 0), (1, .int .i64 0), (2, .int .i64 1), (3, .int .i64 2), (4, .int .i64 4)] (r := ints .i64 [0, 0, 1, 2, 4]) rfl sz29 sz2 zr2 (by first | rfl | (simp [rowsC_length, rowsA_length, mpC_length, sqC_length, tbC_length, tabI_length, tabB_length, ints_length, plsC_length, trC_length, sqsC_length, strsC_length, boolsC_length, tbB_length, List.length_append, List.length_cons, List.length_nil, List.length_set, List.length_replicate, rep_length]; done)) (by decide) (by decide) (by decide) rfl rfl (by first | rfl | (simp [rowsC_length, rowsA_length, mpC_length, sqC_length, tbC_length, tabI_length, tabB_length, ints_length, plsC_length, trC_length, sqsC_length, strsC_length, boolsC_length, tbB_length, List.length_append, List.length_cons, List.length_nil, List.length_set, List.length_replicate, rep_length]; done)) rfl (fun b3 hb3 => ?_))
 simp only [upd_noneA] at hb3
 obtain ⟨n_b3_b2, n_b3_p0, n_b3_b1, hb3⟩ := hb3
 have hq := Option.bind_eq_some_iff.1 hm; clear hm; obtain ⟨r2, hr2, hm⟩ := hq
 have hd2 : Del (upd (upd (upd (upd (h) b1 (.own 28 (sqC sq0) 101)) p0 (.own 69 (srcC A_s l_s.length c_s r1.2) 3)) b2 (.own 28 (sqC r1.1) 101)) b3 (.own 2 (ints .i64 [0, 0, 1, 2, 4]) (5 * 1))) p0 (.own 69 (srcC A_s l_s.length c_s r1.2) 3) (upd (upd (upd (h) b1 (.own 28 (sqC sq0) 101)) b2 (.own 28 (sqC r1.1) 101)) b3 (.own 2 (ints .i64 [0, 0, 1, 2, 4]) (5 * 1))) := (Del.there n_b3_p0.ne.symm (Del.there n_b2_p0.ne.symm (Del.here (none_upd n_b1_p0.ne.symm h_p0))))
 refine Ops_call _ _ rfl rfl (EO.fn rfl Try.func26 rfl rfl (Evs.cons rfl (Evs.cons rfl Evs.nil))) (CC.mono (CC.atLe (c_spec_l01Pick (l1 := [0, 0, 1, 2, 4]) (A1 := some ⟨b3, 0, none⟩) (c1 := 5) (h := upd (upd (upd (h) b1 (.own 28 (sqC sq0) 101)) b2 (.own 28 (sqC r1.1) 101)) b3 (.own 2 (ints .i64 [0, 0, 1, 2, 4]) (5 * 1))) hr2 (RdS.le hs_s (Le.under (Le.under (Le.under (Le.refl _) hb1) hb2) hb3)) (RdS.own (upd_same _ _ _)) hd2.none) hd2.le) ?_)
 rintro _ _ ⟨rfl, rfl⟩
 refine Ops_quiet _ rfl rfl (QO.assign rfl rfl) ?_
 refine Ops_nil ?_
 refine thenA_n ?_
 refine wpA_block ?_
 obtain ⟨R1, hR, hm⟩ := Option.bind_eq_some_iff.1 hm
 obtain ⟨k1, hk1⟩ := loopV_some hR
 clear hR
 refine wpA_mono (Q := fun e s' h' => match (generalizing := false) R1 with | .stop x id => e = .exit id ∧ ∃ (x1 : Int) (x2 : Sq) (x3 : Rng), (x1, x2, x3) = x ∧ Sub s' [(0, .pointer (some ⟨p0, 0, none⟩)), (2, .pointer (some ⟨b1, 0, none⟩)), (3, .pointer (some ⟨b2, 0, none⟩)), (4, .int .i64 r1.1.order), (5, .int .i64 x1)] ∧ Le (upd (upd (upd (h) b1 (.own 28 (sqC sq0) 101)) b2 (.own 28 (sqC x2) 101)) p0 (.own 69 (srcC A_s l_s.length c_s x3) 3)) h' | .ret r => False | .next _ => False) ?_ ?_
 ·refine wpA_loop (fun k s' h' => ∃ (x1 : Int) (x2 : Sq) (x3 : Rng), loopW (m_spec_l01Draw_l0 l_s r1) k (x1, x2, x3) = some R1 ∧ Sub s' [(0, .pointer (some ⟨p0, 0, none⟩)), (2, .pointer (some ⟨b1, 0, none⟩)), (3, .pointer (some ⟨b2, 0, none⟩)), (4, .int .i64 r1.1.order), (5, .int .i64 x1)] ∧ Le (upd (upd (upd (h) b1 (.own 28 (sqC sq0) 101)) b2 (.own 28 (sqC x2) 101)) p0 (.own 69 (srcC A_s l_s.length c_s x3) 3)) h') (m := k1) ⟨r2.1, r1.1, r2.2, hk1, (Sub.cons rfl (Sub.cons rfl (Sub.cons rfl (Sub.cons rfl (Sub.cons rfl Sub.nil))))), (Le.upd_left (Le.upd_left (Le.upd_left (Le.under (Le.under (Le.under (Le.under (Le.refl _) hb1) hb2) hb3) h_p0) ((upd_ne _ _ n_b1_p0.ne).trans ((upd_ne _ _ n_b3_b1.ne.symm).trans ((upd_ne _ _ n_b2_b1.ne.symm).trans (upd_same _ _ _)))) (by first | rfl | (simp; done))) ((upd_ne _ _ n_b2_p0.ne).trans ((upd_ne _ _ n_b3_b2.ne.symm).trans (upd_same _ _ _))) (by first | rfl | (simp; done))) (upd_same _ _ _) (by first | rfl | (simp; done)))⟩ ?_
  rintro k1 s' h' ⟨x1, x2, x3, hk1, hsub, hle⟩
  refine wpA_weaken hsub.ok hle ?_
  clear hsub hle s' h'
  cases k1 with
  | zero => exact absurd hk1 (by simp [loopW])
  | succ k1 =>
   obtain ⟨o1, ho1, hk1⟩ := loopW_succ hk1
   unfold m_spec_l01Draw_l0 at ho1
   try dsimp only at ho1
   refine wpA_seq ?_
   refine wpA_seq ?_
   refine wpA_region ?_
   refine Ops_quiet _ rfl rfl (QO.move rfl rfl) ?_
   refine Ops_quiet _ rfl rfl (QO.bin rfl rfl rfl rfl) ?_
   refine Ops_nil ?_
   refine thenA_n ?_
   refine wpA_cond rfl (fun g1 => ?_) (fun g1 => ?_)
   ·replace ho1 := cond_t ho1 g1
    refine wpA_skip ?_
    refine thenA_n ?_
    refine wpA_seq ?_
    refine wpA_block ?_
    refine wpA_seq ?_
    refine wpA_seq ?_
    refine wpA_region ?_
    refine Ops_quiet _ rfl rfl (QO.move rfl rfl) ?_
    have hq := Option.bind_eq_some_iff.1 ho1; clear ho1; obtain ⟨r3, hr3, ho1⟩ := hq
    have hd3 : Del (upd (upd (upd (h) b1 (.own 28 (sqC sq0) 101)) b2 (.own 28 (sqC x2) 101)) p0 (.own 69 (srcC A_s l_s.length c_s x3) 3)) p0 (.own 69 (srcC A_s l_s.length c_s x3) 3) (upd (upd (h) b1 (.own 28 (sqC sq0) 101)) b2 (.own 28 (sqC x2) 101)) := (Del.here (none_upd n_b2_p0.ne.symm (none_upd n_b1_p0.ne.symm h_p0)))
    refine Ops_call _ _ rfl rfl (EO.fn rfl Try.func27 rfl rfl (Evs.cons rfl (Evs.cons rfl Evs.nil))) (CC.mono (CC.atLe (c_spec_l01Next (h := upd (upd (h) b1 (.own 28 (sqC sq0) 101)) b2 (.own 28 (sqC x2) 101)) hr3 (RdS.le hs_s (Le.under (Le.under (Le.refl _) hb1) hb2)) hd3.none) hd3.le) ?_)
    rintro _ _ ⟨rfl, rfl⟩
    refine Ops_quiet _ rfl rfl (QO.bin rfl rfl rfl rfl) ?_
    refine Ops_nil ?_
    refine thenA_n ?_
    refine wpA_cond rfl (fun g2 => ?_) (fun g2 => ?_)
    ·replace ho1 := cond_t ho1 g2
     refine wpA_region ?_
     refine Ops_quiet _ rfl rfl (QO.loadRow (cs := sqC x2) (hr := (rdAll ((upd_ne _ _ n_b2_p0.ne).trans (upd_same _ _ _)))) rfl sz28 rfl rfl (sqC_length _)) ?_
     have hq := Option.bind_eq_some_iff.1 ho1; clear ho1; obtain ⟨r4, hr4, ho1⟩ := hq
     refine Ops_call _ _ rfl rfl (EO.fn rfl Try.func54 rfl rfl (Evs.cons rfl Evs.nil)) (QC.cc (c_spec_l01Opposite hr4 ) ?_)
     refine Ops_loud rfl (LO.storeAll (cs := sqC r4) rfl sz28 rfl rfl (sqC_one _) (sqC_length _) ((upd_ne _ _ n_b2_p0.ne).trans (upd_same _ _ _)) (sqC_length _) (Chg.there n_b2_p0.ne.symm Chg.here) rfl ?_)
     refine Ops_nil ?_
     refine thenA_n ?_
     refine wpA_any (upd (upd (h) b1 (.own 28 (sqC sq0) 101)) b2 (.own 28 (sqC r4) 101)) [3, 7, 11, 14] [14] (by kernel_rfl) (by kernel_rfl) (DW.start ?_)
     refine DW.readK' 0 _ rfl (by kernel_rfl) rfl (Le.upd_left (Le.upd_left (Le.under (Le.under (Le.under (Le.refl _) hb1) hb2) h_p0) ((upd_ne _ _ n_b1_p0.ne).trans ((upd_ne _ _ n_b2_b1.ne.symm).trans (upd_same _ _ _))) (by first | rfl | (simp; done))) ((upd_ne _ _ n_b2_p0.ne).trans (upd_same _ _ _)) (by first | rfl | (simp; done))) (QO.loadRow (cs := sqC r4) (hr := (rdAll (upd_same _ _ _))) rfl sz28 rfl rfl (sqC_length _)) ?_
     refine DW.pure' 1 _ rfl (by kernel_rfl) rfl (fun _ => QO.move rfl rfl) ?_
     refine DW.pure' 2 _ rfl (by kernel_rfl) rfl (fun _ => QO.move rfl rfl) ?_
     refine DW.pure' 5 _ rfl (by kernel_rfl) rfl (fun _ => QO.move rfl rfl) ?_
     refine DW.pure' 6 _ rfl (by kernel_rfl) rfl (fun _ => QO.move rfl rfl) ?_
     refine DW.pure' 9 _ rfl (by kernel_rfl) rfl (fun _ => QO.move rfl rfl) ?_
     refine DW.pure' 10 _ rfl (by kernel_rfl) rfl (fun _ => QO.move rfl rfl) ?_
     have hq := Option.bind_eq_some_iff.1 ho1; clear ho1; obtain ⟨r5, hr5, ho1⟩ := hq
     have hd4 : Del (upd (upd (upd (h) b1 (.own 28 (sqC sq0) 101)) b2 (.own 28 (sqC r4) 101)) p0 (.own 69 (srcC A_s l_s.length c_s r3.2) 3)) p0 (.own 69 (srcC A_s l_s.length c_s r3.2) 3) (upd (upd (h) b1 (.own 28 (sqC sq0) 101)) b2 (.own 28 (sqC r4) 101)) := (Del.here (none_upd n_b2_p0.ne.symm (none_upd n_b1_p0.ne.symm h_p0)))
     refine DW.call 3 _ _ rfl (by kernel_rfl) rfl rfl (EO.fn rfl Try.func27 rfl rfl (Evs.cons rfl (Evs.cons rfl Evs.nil))) (CC.mono (CC.atLe (c_spec_l01Next (h := upd (upd (h) b1 (.own 28 (sqC sq0) 101)) b2 (.own 28 (sqC r4) 101)) hr5 (RdS.le hs_s (Le.under (Le.under (Le.refl _) hb1) hb2)) hd4.none) hd4.le) ?_)
     rintro _ _ ⟨rfl, rfl⟩
     refine ⟨(fun _ => (Le.upd_left (Le.upd_left (Le.under (Le.under (Le.under (Le.refl _) hb1) hb2) h_p0) ((upd_ne _ _ n_b1_p0.ne).trans ((upd_ne _ _ n_b2_b1.ne.symm).trans (upd_same _ _ _))) (by first | rfl | (simp; done))) ((upd_ne _ _ n_b2_p0.ne).trans (upd_same _ _ _)) (by first | rfl | (simp; done)))), ?_⟩
     refine DW.pure' 4 _ rfl (by kernel_rfl) rfl (fun _ => QO.conv rfl sz2 sz5 rfl) ?_
     have hq := Option.bind_eq_some_iff.1 ho1; clear ho1; obtain ⟨r6, hr6, ho1⟩ := hq
     have hd5 : Del (upd (upd (upd (h) b1 (.own 28 (sqC sq0) 101)) b2 (.own 28 (sqC r4) 101)) p0 (.own 69 (srcC A_s l_s.length c_s r5.2) 3)) p0 (.own 69 (srcC A_s l_s.length c_s r5.2) 3) (upd (upd (h) b1 (.own 28 (sqC sq0) 101)) b2 (.own 28 (sqC r4) 101)) := (Del.here (none_upd n_b2_p0.ne.symm (none_upd n_b1_p0.ne.symm h_p0)))
     refine DW.call 7 _ _ rfl (by kernel_rfl) rfl rfl (EO.fn rfl Try.func27 rfl rfl (Evs.cons rfl (Evs.cons rfl Evs.nil))) (CC.mono (CC.atLe (c_spec_l01Next (h := upd (upd (h) b1 (.own 28 (sqC sq0) 101)) b2 (.own 28 (sqC r4) 101)) hr6 (RdS.le hs_s (Le.under (Le.under (Le.refl _) hb1) hb2)) hd5.none) hd5.le) ?_)
     rintro _ _ ⟨rfl, rfl⟩
     refine ⟨(fun _ => (Le.upd_left (Le.upd_left (Le.under (Le.under (Le.under (Le.refl _) hb1) hb2) h_p0) ((upd_ne _ _ n_b1_p0.ne).trans ((upd_ne _ _ n_b2_b1.ne.symm).trans (upd_same _ _ _))) (by first | rfl | (simp; done))) ((upd_ne _ _ n_b2_p0.ne).trans (upd_same _ _ _)) (by first | rfl | (simp; done)))), ?_⟩
     refine DW.pure' 8 _ rfl (by kernel_rfl) rfl (fun _ => QO.conv rfl sz2 sz5 rfl) ?_
     have hq := Option.bind_eq_some_iff.1 ho1; clear ho1; obtain ⟨r7, hr7, ho1⟩ := hq
     have hd6 : Del (upd (upd (upd (h) b1 (.own 28 (sqC sq0) 101)) b2 (.own 28 (sqC r4) 101)) p0 (.own 69 (srcC A_s l_s.length c_s r6.2) 3)) p0 (.own 69 (srcC A_s l_s.length c_s r6.2) 3) (upd (upd (h) b1 (.own 28 (sqC sq0) 101)) b2 (.own 28 (sqC r4) 101)) := (Del.here (none_upd n_b2_p0.ne.symm (none_upd n_b1_p0.ne.symm h_p0)))
     refine DW.call 11 _ _ rfl (by kernel_rfl) rfl rfl (EO.fn rfl Try.func27 rfl rfl (Evs.cons rfl (Evs.cons rfl Evs.nil))) (CC.mono (CC.atLe (c_spec_l01Next (h := upd (upd (h) b1 (.own 28 (sqC sq0) 101)) b2 (.own 28 (sqC r4) 101)) hr7 (RdS.le hs_s (Le.under (Le.under (Le.refl _) hb1) hb2)) hd6.none) hd6.le) ?_)
     rintro _ _ ⟨rfl, rfl⟩
     refine ⟨(fun _ => (Le.upd_left (Le.upd_left (Le.under (Le.under (Le.under (Le.refl _) hb1) hb2) h_p0) ((upd_ne _ _ n_b1_p0.ne).trans ((upd_ne _ _ n_b2_b1.ne.symm).trans (upd_same _ _ _))) (by first | rfl | (simp; done))) ((upd_ne _ _ n_b2_p0.ne).trans (upd_same _ _ _)) (by first | rfl | (simp; done)))), ?_⟩
     refine DW.pure' 12 _ rfl (by kernel_rfl) rfl (fun _ => QO.conv rfl sz2 sz5 rfl) ?_
     have hq := Option.bind_eq_some_iff.1 ho1; clear ho1; obtain ⟨r8, hr8, ho1⟩ := hq
     refine DW.qcall' 13 _ _ _ rfl (by kernel_rfl) rfl (EO.fn rfl Try.func55 rfl rfl (Evs.cons rfl (Evs.cons rfl (Evs.cons rfl (Evs.cons rfl Evs.nil))))) (c_spec_l01Switch hr8 ) ?_
     refine DW.loud 14 rfl (by kernel_rfl) rfl rfl (LO.storeAll (cs := sqC r8) rfl sz28 rfl rfl (sqC_one _) (sqC_length _) ((upd_ne _ _ n_b2_p0.ne).trans (upd_same _ _ _)) (sqC_length _) (Chg.there n_b2_p0.ne.symm Chg.here) rfl ?_)
     refine ⟨(fun e => absurd e (by decide)), ?_⟩
     refine DW.done (by kernel_rfl) ?_ _
     refine blockA_n ?_
     refine thenA_n ?_
     refine wpA_region ?_
     refine Ops_quiet _ rfl rfl (QO.move rfl rfl) ?_
     refine Ops_quiet _ rfl rfl (QO.bin rfl rfl rfl rfl) ?_
     refine Ops_quiet _ rfl rfl (QO.assign rfl rfl) ?_
     refine Ops_nil ?_
     obtain rfl := Option.some.inj ho1
     dsimp only at hk1
     exact thenA_n ⟨k1, Nat.lt_succ_self _, _, _, _, hk1, (Sub.cons rfl (Sub.cons rfl (Sub.cons rfl (Sub.cons rfl (Sub.cons rfl Sub.nil))))), (Le.upd_left (Le.upd_left (Le.upd_left (Le.under (Le.under (Le.under (Le.refl _) hb1) hb2) h_p0) ((upd_ne _ _ n_b1_p0.ne).trans ((upd_ne _ _ n_b2_b1.ne.symm).trans (upd_same _ _ _))) (by first | rfl | (simp; done))) ((upd_ne _ _ n_b2_p0.ne).trans (upd_same _ _ _)) (by first | rfl | (simp; done))) (upd_same _ _ _) (by first | rfl | (simp; done)))⟩
    ·replace ho1 := cond_f ho1 g2
     refine wpA_skip ?_
     refine thenA_n ?_
     refine wpA_any (upd (upd (h) b1 (.own 28 (sqC sq0) 101)) b2 (.own 28 (sqC x2) 101)) [3, 7, 11, 14] [14] (by kernel_rfl) (by kernel_rfl) (DW.start ?_)
     refine DW.readK' 0 _ rfl (by kernel_rfl) rfl (Le.upd_left (Le.upd_left (Le.under (Le.under (Le.under (Le.refl _) hb1) hb2) h_p0) ((upd_ne _ _ n_b1_p0.ne).trans ((upd_ne _ _ n_b2_b1.ne.symm).trans (upd_same _ _ _))) (by first | rfl | (simp; done))) ((upd_ne _ _ n_b2_p0.ne).trans (upd_same _ _ _)) (by first | rfl | (simp; done))) (QO.loadRow (cs := sqC x2) (hr := (rdAll (upd_same _ _ _))) rfl sz28 rfl rfl (sqC_length _)) ?_
     refine DW.pure' 1 _ rfl (by kernel_rfl) rfl (fun _ => QO.move rfl rfl) ?_
     refine DW.pure' 2 _ rfl (by kernel_rfl) rfl (fun _ => QO.move rfl rfl) ?_
     refine DW.pure' 5 _ rfl (by kernel_rfl) rfl (fun _ => QO.move rfl rfl) ?_
     refine DW.pure' 6 _ rfl (by kernel_rfl) rfl (fun _ => QO.move rfl rfl) ?_
     refine DW.pure' 9 _ rfl (by kernel_rfl) rfl (fun _ => QO.move rfl rfl) ?_
     refine DW.pure' 10 _ rfl (by kernel_rfl) rfl (fun _ => QO.move rfl rfl) ?_
     have hq := Option.bind_eq_some_iff.1 ho1; clear ho1; obtain ⟨r9, hr9, ho1⟩ := hq
     have hd7 : Del (upd (upd (upd (h) b1 (.own 28 (sqC sq0) 101)) b2 (.own 28 (sqC x2) 101)) p0 (.own 69 (srcC A_s l_s.length c_s r3.2) 3)) p0 (.own 69 (srcC A_s l_s.length c_s r3.2) 3) (upd (upd (h) b1 (.own 28 (sqC sq0) 101)) b2 (.own 28 (sqC x2) 101)) := (Del.here (none_upd n_b2_p0.ne.symm (none_upd n_b1_p0.ne.symm h_p0)))
     refine DW.call 3 _ _ rfl (by kernel_rfl) rfl rfl (EO.fn rfl Try.func27 rfl rfl (Evs.cons rfl (Evs.cons rfl Evs.nil))) (CC.mono (CC.atLe (c_spec_l01Next (h := upd (upd (h) b1 (.own 28 (sqC sq0) 101)) b2 (.own 28 (sqC x2) 101)) hr9 (RdS.le hs_s (Le.under (Le.under (Le.refl _) hb1) hb2)) hd7.none) hd7.le) ?_)
     rintro _ _ ⟨rfl, rfl⟩
     refine ⟨(fun _ => (Le.upd_left (Le.upd_left (Le.under (Le.under (Le.under (Le.refl _) hb1) hb2) h_p0) ((upd_ne _ _ n_b1_p0.ne).trans ((upd_ne _ _ n_b2_b1.ne.symm).trans (upd_same _ _ _))) (by first | rfl | (simp; done))) ((upd_ne _ _ n_b2_p0.ne).trans (upd_same _ _ _)) (by first | rfl | (simp; done)))), ?_⟩
     refine DW.pure' 4 _ rfl (by kernel_rfl) rfl (fun _ => QO.conv rfl sz2 sz5 rfl) ?_
     have hq := Option.bind_eq_some_iff.1 ho1; clear ho1; obtain ⟨r10, hr10, ho1⟩ := hq
     have hd8 : Del (upd (upd (upd (h) b1 (.own 28 (sqC sq0) 101)) b2 (.own 28 (sqC x2) 101)) p0 (.own 69 (srcC A_s l_s.length c_s r9.2) 3)) p0 (.own 69 (srcC A_s l_s.length c_s r9.2) 3) (upd (upd (h) b1 (.own 28 (sqC sq0) 101)) b2 (.own 28 (sqC x2) 101)) := (Del.here (none_upd n_b2_p0.ne.symm (none_upd n_b1_p0.ne.symm h_p0)))
     refine DW.call 7 _ _ rfl (by kernel_rfl) rfl rfl (EO.fn rfl Try.func27 rfl rfl (Evs.cons rfl (Evs.cons rfl Evs.nil))) (CC.mono (CC.atLe (c_spec_l01Next (h := upd (upd (h) b1 (.own 28 (sqC sq0) 101)) b2 (.own 28 (sqC x2) 101)) hr10 (RdS.le hs_s (Le.under (Le.under (Le.refl _) hb1) hb2)) hd8.none) hd8.le) ?_)
     rintro _ _ ⟨rfl, rfl⟩
     refine ⟨(fun _ => (Le.upd_left (Le.upd_left (Le.under (Le.under (Le.under (Le.refl _) hb1) hb2) h_p0) ((upd_ne _ _ n_b1_p0.ne).trans ((upd_ne _ _ n_b2_b1.ne.symm).trans (upd_same _ _ _))) (by first | rfl | (simp; done))) ((upd_ne _ _ n_b2_p0.ne).trans (upd_same _ _ _)) (by first | rfl | (simp; done)))), ?_⟩
     refine DW.pure' 8 _ rfl (by kernel_rfl) rfl (fun _ => QO.conv rfl sz2 sz5 rfl) ?_
     have hq := Option.bind_eq_some_iff.1 ho1; clear ho1; obtain ⟨r11, hr11, ho1⟩ := hq
     have hd9 : Del (upd (upd (upd (h) b1 (.own 28 (sqC sq0) 101)) b2 (.own 28 (sqC x2) 101)) p0 (.own 69 (srcC A_s l_s.length c_s r10.2) 3)) p0 (.own 69 (srcC A_s l_s.length c_s r10.2) 3) (upd (upd (h) b1 (.own 28 (sqC sq0) 101)) b2 (.own 28 (sqC x2) 101)) := (Del.here (none_upd n_b2_p0.ne.symm (none_upd n_b1_p0.ne.symm h_p0)))
     refine DW.call 11 _ _ rfl (by kernel_rfl) rfl rfl (EO.fn rfl Try.func27 rfl rfl (Evs.cons rfl (Evs.cons rfl Evs.nil))) (CC.mono (CC.atLe (c_spec_l01Next (h := upd (upd (h) b1 (.own 28 (sqC sq0) 101)) b2 (.own 28 (sqC x2) 101)) hr11 (RdS.le hs_s (Le.under (Le.under (Le.refl _) hb1) hb2)) hd9.none) hd9.le) ?_)
     rintro _ _ ⟨rfl, rfl⟩
     refine ⟨(fun _ => (Le.upd_left (Le.upd_left (Le.under (Le.under (Le.under (Le.refl _) hb1) hb2) h_p0) ((upd_ne _ _ n_b1_p0.ne).trans ((upd_ne _ _ n_b2_b1.ne.symm).trans (upd_same _ _ _))) (by first | rfl | (simp; done))) ((upd_ne _ _ n_b2_p0.ne).trans (upd_same _ _ _)) (by first | rfl | (simp; done)))), ?_⟩
     refine DW.pure' 12 _ rfl (by kernel_rfl) rfl (fun _ => QO.conv rfl sz2 sz5 rfl) ?_
     have hq := Option.bind_eq_some_iff.1 ho1; clear ho1; obtain ⟨r12, hr12, ho1⟩ := hq
     refine DW.qcall' 13 _ _ _ rfl (by kernel_rfl) rfl (EO.fn rfl Try.func55 rfl rfl (Evs.cons rfl (Evs.cons rfl (Evs.cons rfl (Evs.cons rfl Evs.nil))))) (c_spec_l01Switch hr12 ) ?_
     refine DW.loud 14 rfl (by kernel_rfl) rfl rfl (LO.storeAll (cs := sqC r12) rfl sz28 rfl rfl (sqC_one _) (sqC_length _) ((upd_ne _ _ n_b2_p0.ne).trans (upd_same _ _ _)) (sqC_length _) (Chg.there n_b2_p0.ne.symm Chg.here) rfl ?_)
     refine ⟨(fun e => absurd e (by decide)), ?_⟩
     refine DW.done (by kernel_rfl) ?_ _
     refine blockA_n ?_
     refine thenA_n ?_
     refine wpA_region ?_
     refine Ops_quiet _ rfl rfl (QO.move rfl rfl) ?_
     refine Ops_quiet _ rfl rfl (QO.bin rfl rfl rfl rfl) ?_
     refine Ops_quiet _ rfl rfl (QO.assign rfl rfl) ?_
     refine Ops_nil ?_
     obtain rfl := Option.some.inj ho1
     dsimp only at hk1
     exact thenA_n ⟨k1, Nat.lt_succ_self _, _, _, _, hk1, (Sub.cons rfl (Sub.cons rfl (Sub.cons rfl (Sub.cons rfl (Sub.cons rfl Sub.nil))))), (Le.upd_left (Le.upd_left (Le.upd_left (Le.under (Le.under (Le.under (Le.refl _) hb1) hb2) h_p0) ((upd_ne _ _ n_b1_p0.ne).trans ((upd_ne _ _ n_b2_b1.ne.symm).trans (upd_same _ _ _))) (by first | rfl | (simp; done))) ((upd_ne _ _ n_b2_p0.ne).trans (upd_same _ _ _)) (by first | rfl | (simp; done))) (upd_same _ _ _) (by first | rfl | (simp; done)))⟩
   ·replace ho1 := cond_f ho1 g1
    refine wpA_exit ?_
    refine thenA_e ?_
    refine thenA_e ?_
    obtain rfl := Option.some.inj ho1
    obtain rfl := Option.some.inj hk1
    exact ⟨rfl, _, _, _, rfl, (Sub.cons rfl (Sub.cons rfl (Sub.cons rfl (Sub.cons rfl (Sub.cons rfl Sub.nil))))), (Le.upd_left (Le.upd_left (Le.upd_left (Le.under (Le.under (Le.under (Le.refl _) hb1) hb2) h_p0) ((upd_ne _ _ n_b1_p0.ne).trans ((upd_ne _ _ n_b2_b1.ne.symm).trans (upd_same _ _ _))) (by first | rfl | (simp; done))) ((upd_ne _ _ n_b2_p0.ne).trans (upd_same _ _ _)) (by first | rfl | (simp; done))) (upd_same _ _ _) (by first | rfl | (simp; done)))⟩
 ·intro e s' h' hq
  cases R1 with
  | next x => exact hq.elim
  | ret r => exact hq.elim
  | stop x id =>
   obtain ⟨rfl, x4, x5, x6, rfl, hsub1, hle1⟩ := hq
   try dsimp only at hm
   by_cases hid1 : id = 0
   ·subst hid1
    rw [if_pos rfl] at hm
    refine blockA_s ?_
    refine thenA_n ?_
    refine wpA_weaken hsub1.ok hle1 ?_
    refine wpA_seq ?_
    refine wpA_seq ?_
    refine wpA_region ?_
    refine Ops_quiet _ rfl rfl (QO.move rfl rfl) ?_
    have hq := Option.bind_eq_some_iff.1 hm; clear hm; obtain ⟨r13, hr13, hm⟩ := hq
    have hd10 : Del (upd (upd (upd (h) b1 (.own 28 (sqC sq0) 101)) b2 (.own 28 (sqC x5) 101)) p0 (.own 69 (srcC A_s l_s.length c_s x6) 3)) p0 (.own 69 (srcC A_s l_s.length c_s x6) 3) (upd (upd (h) b1 (.own 28 (sqC sq0) 101)) b2 (.own 28 (sqC x5) 101)) := (Del.here (none_upd n_b2_p0.ne.symm (none_upd n_b1_p0.ne.symm h_p0)))
    refine Ops_call _ _ rfl rfl (EO.fn rfl Try.func27 rfl rfl (Evs.cons rfl (Evs.cons rfl Evs.nil))) (CC.mono (CC.atLe (c_spec_l01Next (h := upd (upd (h) b1 (.own 28 (sqC sq0) 101)) b2 (.own 28 (sqC x5) 101)) hr13 (RdS.le hs_s (Le.under (Le.under (Le.refl _) hb1) hb2)) hd10.none) hd10.le) ?_)
    rintro _ _ ⟨rfl, rfl⟩
    refine Ops_quiet _ rfl rfl (QO.bin rfl rfl rfl rfl) ?_
    refine Ops_nil ?_
    refine thenA_n ?_
    refine wpA_cond rfl (fun g3 => ?_) (fun g3 => ?_)
    ·replace hm := cond_t hm g3
     refine wpA_any (upd (upd (h) b1 (.own 28 (sqC sq0) 101)) b2 (.own 28 (sqC x5) 101)) [3, 6, 9, 11] [11] (by kernel_rfl) (by kernel_rfl) (DW.start ?_)
     refine DW.readK' 0 _ rfl (by kernel_rfl) rfl (Le.upd_left (Le.upd_left (Le.under (Le.under (Le.under (Le.refl _) hb1) hb2) h_p0) ((upd_ne _ _ n_b1_p0.ne).trans ((upd_ne _ _ n_b2_b1.ne.symm).trans (upd_same _ _ _))) (by first | rfl | (simp; done))) ((upd_ne _ _ n_b2_p0.ne).trans (upd_same _ _ _)) (by first | rfl | (simp; done))) (QO.loadRow (cs := sqC x5) (hr := (rdAll (upd_same _ _ _))) rfl sz28 rfl rfl (sqC_length _)) ?_
     refine DW.pure' 1 _ rfl (by kernel_rfl) rfl (fun _ => QO.move rfl rfl) ?_
     refine DW.pure' 2 _ rfl (by kernel_rfl) rfl (fun _ => QO.move rfl rfl) ?_
     refine DW.pure' 4 _ rfl (by kernel_rfl) rfl (fun _ => QO.move rfl rfl) ?_
     refine DW.pure' 5 _ rfl (by kernel_rfl) rfl (fun _ => QO.move rfl rfl) ?_
     refine DW.pure' 7 _ rfl (by kernel_rfl) rfl (fun _ => QO.move rfl rfl) ?_
     refine DW.pure' 8 _ rfl (by kernel_rfl) rfl (fun _ => QO.move rfl rfl) ?_
     have hq := Option.bind_eq_some_iff.1 hm; clear hm; obtain ⟨r14, hr14, hm⟩ := hq
     have hd11 : Del (upd (upd (upd (h) b1 (.own 28 (sqC sq0) 101)) b2 (.own 28 (sqC x5) 101)) p0 (.own 69 (srcC A_s l_s.length c_s r13.2) 3)) p0 (.own 69 (srcC A_s l_s.length c_s r13.2) 3) (upd (upd (h) b1 (.own 28 (sqC sq0) 101)) b2 (.own 28 (sqC x5) 101)) := (Del.here (none_upd n_b2_p0.ne.symm (none_upd n_b1_p0.ne.symm h_p0)))
     refine DW.call 3 _ _ rfl (by kernel_rfl) rfl rfl (EO.fn rfl Try.func57 rfl rfl (Evs.cons rfl (Evs.cons rfl Evs.nil))) (CC.mono (CC.atLe (c_spec_l01DrawPlaces (h := upd (upd (h) b1 (.own 28 (sqC sq0) 101)) b2 (.own 28 (sqC x5) 101)) hr14 (RdS.le hs_s (Le.under (Le.under (Le.refl _) hb1) hb2)) hd11.none) hd11.le) ?_)
     rintro _ _ ⟨rfl, rfl⟩
     refine ⟨(fun _ => (Le.upd_left (Le.upd_left (Le.under (Le.under (Le.under (Le.refl _) hb1) hb2) h_p0) ((upd_ne _ _ n_b1_p0.ne).trans ((upd_ne _ _ n_b2_b1.ne.symm).trans (upd_same _ _ _))) (by first | rfl | (simp; done))) ((upd_ne _ _ n_b2_p0.ne).trans (upd_same _ _ _)) (by first | rfl | (simp; done)))), ?_⟩
     have hq := Option.bind_eq_some_iff.1 hm; clear hm; obtain ⟨r15, hr15, hm⟩ := hq
     have hd12 : Del (upd (upd (upd (h) b1 (.own 28 (sqC sq0) 101)) b2 (.own 28 (sqC x5) 101)) p0 (.own 69 (srcC A_s l_s.length c_s r14.2) 3)) p0 (.own 69 (srcC A_s l_s.length c_s r14.2) 3) (upd (upd (h) b1 (.own 28 (sqC sq0) 101)) b2 (.own 28 (sqC x5) 101)) := (Del.here (none_upd n_b2_p0.ne.symm (none_upd n_b1_p0.ne.symm h_p0)))
     refine DW.call 6 _ _ rfl (by kernel_rfl) rfl rfl (EO.fn rfl Try.func57 rfl rfl (Evs.cons rfl (Evs.cons rfl Evs.nil))) (CC.mono (CC.atLe (c_spec_l01DrawPlaces (h := upd (upd (h) b1 (.own 28 (sqC sq0) 101)) b2 (.own 28 (sqC x5) 101)) hr15 (RdS.le hs_s (Le.under (Le.under (Le.refl _) hb1) hb2)) hd12.none) hd12.le) ?_)
     rintro _ _ ⟨rfl, rfl⟩
     refine ⟨(fun _ => (Le.upd_left (Le.upd_left (Le.under (Le.under (Le.under (Le.refl _) hb1) hb2) h_p0) ((upd_ne _ _ n_b1_p0.ne).trans ((upd_ne _ _ n_b2_b1.ne.symm).trans (upd_same _ _ _))) (by first | rfl | (simp; done))) ((upd_ne _ _ n_b2_p0.ne).trans (upd_same _ _ _)) (by first | rfl | (simp; done)))), ?_⟩
     have hq := Option.bind_eq_some_iff.1 hm; clear hm; obtain ⟨r16, hr16, hm⟩ := hq
     have hd13 : Del (upd (upd (upd (h) b1 (.own 28 (sqC sq0) 101)) b2 (.own 28 (sqC x5) 101)) p0 (.own 69 (srcC A_s l_s.length c_s r15.2) 3)) p0 (.own 69 (srcC A_s l_s.length c_s r15.2) 3) (upd (upd (h) b1 (.own 28 (sqC sq0) 101)) b2 (.own 28 (sqC x5) 101)) := (Del.here (none_upd n_b2_p0.ne.symm (none_upd n_b1_p0.ne.symm h_p0)))
     refine DW.call 9 _ _ rfl (by kernel_rfl) rfl rfl (EO.fn rfl Try.func57 rfl rfl (Evs.cons rfl (Evs.cons rfl Evs.nil))) (CC.mono (CC.atLe (c_spec_l01DrawPlaces (h := upd (upd (h) b1 (.own 28 (sqC sq0) 101)) b2 (.own 28 (sqC x5) 101)) hr16 (RdS.le hs_s (Le.under (Le.under (Le.refl _) hb1) hb2)) hd13.none) hd13.le) ?_)
     rintro _ _ ⟨rfl, rfl⟩
     refine ⟨(fun _ => (Le.upd_left (Le.upd_left (Le.under (Le.under (Le.under (Le.refl _) hb1) hb2) h_p0) ((upd_ne _ _ n_b1_p0.ne).trans ((upd_ne _ _ n_b2_b1.ne.symm).trans (upd_same _ _ _))) (by first | rfl | (simp; done))) ((upd_ne _ _ n_b2_p0.ne).trans (upd_same _ _ _)) (by first | rfl | (simp; done)))), ?_⟩
     have hq := Option.bind_eq_some_iff.1 hm; clear hm; obtain ⟨r17, hr17, hm⟩ := hq
     refine DW.qcall' 10 _ _ _ rfl (by kernel_rfl) rfl (EO.fn rfl Try.func56 rfl rfl (Evs.cons rfl (Evs.cons rfl (Evs.cons rfl (Evs.cons rfl Evs.nil))))) (c_spec_l01Moved hr17 ) ?_
     refine DW.loud 11 rfl (by kernel_rfl) rfl rfl (LO.storeAll (cs := sqC r17) rfl sz28 rfl rfl (sqC_one _) (sqC_length _) ((upd_ne _ _ n_b2_p0.ne).trans (upd_same _ _ _)) (sqC_length _) (Chg.there n_b2_p0.ne.symm Chg.here) rfl ?_)
     refine ⟨(fun e => absurd e (by decide)), ?_⟩
     refine DW.done (by kernel_rfl) ?_ _
     refine thenA_n ?_
     refine wpA_seq ?_
     refine wpA_region ?_
     refine Ops_quiet _ rfl rfl (QO.loadRow (cs := sqC r17) (hr := (rdAll ((upd_ne _ _ n_b2_p0.ne).trans (upd_same _ _ _)))) rfl sz28 rfl rfl (sqC_length _)) ?_
     have hq := Option.bind_eq_some_iff.1 hm; clear hm; obtain ⟨r18, hr18, hm⟩ := hq
     refine Ops_call _ _ rfl rfl (EO.fn rfl Try.func58 rfl rfl (Evs.cons rfl Evs.nil)) (QC.cc (c_spec_l01Ordered hr18 ) ?_)
     refine Ops_loud rfl (LO.storeAll (cs := sqC r18) rfl sz28 rfl rfl (sqC_one _) (sqC_length _) ((upd_ne _ _ n_b1_p0.ne).trans ((upd_ne _ _ n_b2_b1.ne.symm).trans (upd_same _ _ _))) (sqC_length _) (Chg.there n_b1_p0.ne.symm (Chg.there n_b2_b1.ne Chg.here)) rfl ?_)
     refine Ops_nil ?_
     refine thenA_n ?_
     refine wpA_ret ?_
     obtain rfl := Option.some.inj hm
     exact retA_r (h2 := upd (h) p0 (.own 69 (srcC A_s l_s.length c_s r16.2) 3)) (Res.one rfl (res1.row (cs := sqC r18) (hr := (rdAll ((upd_ne _ _ n_b1_p0.ne).trans ((upd_ne _ _ n_b2_b1.ne.symm).trans (upd_same _ _ _))))) sz28 rfl rfl (sqC_length _))) (Le.upd_left (Le.under (Le.under (Le.under (Le.refl _) hb1) hb2) h_p0) (upd_same _ _ _) (by first | rfl | (simp; done))) ⟨rfl, rfl⟩
    ·replace hm := cond_f hm g3
     refine wpA_skip ?_
     refine thenA_n ?_
     refine wpA_seq ?_
     refine wpA_region ?_
     refine Ops_quiet _ rfl rfl (QO.loadRow (cs := sqC x5) (hr := (rdAll ((upd_ne _ _ n_b2_p0.ne).trans (upd_same _ _ _)))) rfl sz28 rfl rfl (sqC_length _)) ?_
     have hq := Option.bind_eq_some_iff.1 hm; clear hm; obtain ⟨r19, hr19, hm⟩ := hq
     refine Ops_call _ _ rfl rfl (EO.fn rfl Try.func58 rfl rfl (Evs.cons rfl Evs.nil)) (QC.cc (c_spec_l01Ordered hr19 ) ?_)
     refine Ops_loud rfl (LO.storeAll (cs := sqC r19) rfl sz28 rfl rfl (sqC_one _) (sqC_length _) ((upd_ne _ _ n_b1_p0.ne).trans ((upd_ne _ _ n_b2_b1.ne.symm).trans (upd_same _ _ _))) (sqC_length _) (Chg.there n_b1_p0.ne.symm (Chg.there n_b2_b1.ne Chg.here)) rfl ?_)
     refine Ops_nil ?_
     refine thenA_n ?_
     refine wpA_ret ?_
     obtain rfl := Option.some.inj hm
     exact retA_r (h2 := upd (h) p0 (.own 69 (srcC A_s l_s.length c_s r13.2) 3)) (Res.one rfl (res1.row (cs := sqC r19) (hr := (rdAll ((upd_ne _ _ n_b1_p0.ne).trans ((upd_ne _ _ n_b2_b1.ne.symm).trans (upd_same _ _ _))))) sz28 rfl rfl (sqC_length _))) (Le.upd_left (Le.under (Le.under (Le.under (Le.refl _) hb1) hb2) h_p0) (upd_same _ _ _) (by first | rfl | (simp; done))) ⟨rfl, rfl⟩
   rw [if_neg hid1] at hm
   exact absurd hm (by simp)

/-! loop.example/g01195/spec.l01Broken -/
theorem c_spec_l01Broken {a0 : Rng} {p0 : Nat} {l_s : List Int} {A_s : Option Addr} {c_s : Nat} {a1 : Sq} {h : Hp} {r : Sq × Rng} (hm : m_spec_l01Broken a0 l_s a1 = some r) (hs_s : RdS h A_s (ints .u8 l_s)) (h_p0 : h p0 = none) :
    CC Try.prog 51 #[.pointer (some ⟨p0, 0, none⟩), .agg (sqC a1).toArray] (upd (h) p0 (.own 69 (srcC A_s l_s.length c_s a0) 3)) (fun v h' => v = .agg (sqC r.1).toArray ∧ h' = upd (h) p0 (.own 69 (srcC A_s l_s.length c_s r.2) 3)) := by
 unfold m_spec_l01Broken at hm
 refine CC.enter Try.func51 rfl Try.ntmps51 rfl ?_
 refine wpA_seq ?_
 refine wpA_region ?_
 refine Ops_loud rfl (LO.boxAgg rfl rfl rfl (fun b1 hb1 => ?_))
 simp only [upd_noneA] at hb1
 obtain ⟨n_b1_p0, hb1⟩ := hb1
 refine Ops_loud rfl (LO.alloc rfl zr28 rfl (fun b2 hb2 => ?_))
 simp only [upd_noneA] at hb2
 obtain ⟨n_b2_b1, n_b2_p0, hb2⟩ := hb2
 refine Ops_nil ?_
 refine thenA_n ?_
 refine wpA_seq ?_
 refine wpA_seq ?_
 refine wpA_region ?_
 refine Ops_quiet _ rfl rfl (QO.move rfl rfl) ?_
 have hq := Option.bind_eq_some_iff.1 hm; clear hm; obtain ⟨r1, hr1, hm⟩ := hq
 have hd1 : Del (upd (upd (upd (h) p0 (.own 69 (srcC A_s l_s.length c_s a0) 3)) b1 (.own 28 (sqC a1) 101)) b2 (.own 28 (sqC sq0) 101)) p0 (.own 69 (srcC A_s l_s.length c_s a0) 3) (upd (upd (h) b1 (.own 28 (sqC a1) 101)) b2 (.own 28 (sqC sq0) 101)) := (Del.there n_b2_p0.ne.symm (Del.there n_b1_p0.ne.symm (Del.here h_p0)))
 refine Ops_call _ _ rfl rfl (EO.fn rfl Try.func27 rfl rfl (Evs.cons rfl (Evs.cons rfl Evs.nil))) (CC.mono (CC.atLe (c_spec_l01Next (h := upd (upd (h) b1 (.own 28 (sqC a1) 101)) b2 (.own 28 (sqC sq0) 101)) hr1 (RdS.le hs_s (Le.under (Le.under (Le.refl _) hb1) hb2)) hd1.none) hd1.le) ?_)
 rintro _ _ ⟨rfl, rfl⟩
 refine Ops_nil ?_
 refine thenA_n ?_
 refine wpA_block ?_
 refine wpA_seq ?_
 refine wpA_region ?_
 refine Ops_quiet _ rfl rfl (QO.bin rfl rfl rfl rfl) ?_
 refine Ops_quiet _ rfl rfl (QO.assign rfl rfl) ?_
 refine Ops_nil ?_
 refine thenA_n ?_
 refine wpA_cond rfl (fun g1 => ?_) (fun g1 => ?_)
 ·replace hm := cond_t hm g1
  refine wpA_region ?_
  refine Ops_quiet _ rfl rfl (QO.fieldAt (fo := 1) rfl sz28 rfl rfl sz26 rfl rfl) ?_
  refine Ops_quiet _ rfl rfl (QO.idxArr rfl sz26 sz24 rfl rfl (by decide) (by decide)) ?_
  refine Ops_quiet _ rfl rfl (QO.idxArr rfl sz24 sz5 rfl rfl (by decide) (by decide)) ?_
  refine Ops_quiet _ rfl rfl (QO.load rfl sz5 rfl rfl (by (refine (rd_own ((upd_ne _ _ n_b1_p0.ne).trans ((upd_ne _ _ n_b2_b1.ne.symm).trans (upd_same _ _ _))) _).trans ?_); exact sqC_get (by omega) (by omega))) ?_
  refine Ops_quiet _ rfl rfl (QO.bin rfl rfl rfl rfl) ?_
  refine Ops_quiet _ rfl rfl (QO.fieldAt (fo := 1) rfl sz28 rfl rfl sz26 rfl rfl) ?_
  refine Ops_quiet _ rfl rfl (QO.idxArr rfl sz26 sz24 rfl rfl (by decide) (by decide)) ?_
  refine Ops_quiet _ rfl rfl (QO.idxArr rfl sz24 sz5 rfl rfl (by decide) (by decide)) ?_
  refine Ops_loud rfl (LO.store' (xs' := sqC (⟨a1.order, (tset a1.t 0 0 (IntKind.u8.wrap ((a1.t 0 0) + 1)))⟩ : Sq)) rfl sz5 rfl rfl rfl ((upd_ne _ _ n_b1_p0.ne).trans ((upd_ne _ _ n_b2_b1.ne.symm).trans (upd_same _ _ _))) (by first | ((try simp only [rowsC_length, rowsA_length, mpC_length, sqC_length, tbC_length, tabI_length, tabB_length, ints_length, plsC_length, trC_length, sqsC_length, strsC_length, boolsC_length, tbB_length, List.length_append, List.length_cons, List.length_nil, List.length_set, List.length_replicate, rep_length]); first | omega | decide) | exact Nat.le_of_ble_eq_true rfl) (sqC_set (by omega) (by omega)) (Chg.there n_b1_p0.ne.symm (Chg.there n_b2_b1.ne Chg.here)) rfl ?_)
  refine Ops_nil ?_
  refine blockA_n ?_
  refine thenA_n ?_
  refine wpA_seq ?_
  refine wpA_region ?_
  refine Ops_quiet _ rfl rfl (QO.loadRow (cs := sqC (⟨a1.order, (tset a1.t 0 0 (IntKind.u8.wrap ((a1.t 0 0) + 1)))⟩ : Sq)) (hr := (rdAll ((upd_ne _ _ n_b1_p0.ne).trans ((upd_ne _ _ n_b2_b1.ne.symm).trans (upd_same _ _ _))))) rfl sz28 rfl rfl (sqC_length _)) ?_
  refine Ops_loud rfl (LO.storeAll (cs := sqC (⟨a1.order, (tset a1.t 0 0 (IntKind.u8.wrap ((a1.t 0 0) + 1)))⟩ : Sq)) rfl sz28 rfl rfl (sqC_one _) (sqC_length _) ((upd_ne _ _ n_b2_p0.ne).trans (upd_same _ _ _)) (sqC_length _) (Chg.there n_b2_p0.ne.symm Chg.here) rfl ?_)
  refine Ops_nil ?_
  refine thenA_n ?_
  refine wpA_ret ?_
  obtain rfl := Option.some.inj hm
  exact retA_r (h2 := upd (h) p0 (.own 69 (srcC A_s l_s.length c_s r1.2) 3)) (Res.one rfl (res1.row (cs := sqC (⟨a1.order, (tset a1.t 0 0 (IntKind.u8.wrap ((a1.t 0 0) + 1)))⟩ : Sq)) (hr := (rdAll ((upd_ne _ _ n_b2_p0.ne).trans (upd_same _ _ _)))) sz28 rfl rfl (sqC_length _))) (Le.upd_left (Le.under (Le.under (Le.under (Le.refl _) hb1) hb2) h_p0) (upd_same _ _ _) (by first | rfl | (simp; done))) ⟨rfl, rfl⟩
 ·replace hm := cond_f hm g1
  refine wpA_seq ?_
  refine wpA_region ?_
  refine Ops_quiet _ rfl rfl (QO.bin rfl rfl rfl rfl) ?_
  refine Ops_quiet _ rfl rfl (QO.assign rfl rfl) ?_
  refine Ops_nil ?_
  refine thenA_n ?_
  refine wpA_cond rfl (fun g2 => ?_) (fun g2 => ?_)
  ·replace hm := cond_t hm g2
   refine wpA_region ?_
   refine Ops_quiet _ rfl rfl (QO.move rfl rfl) ?_
   refine Ops_quiet _ rfl rfl (QO.fieldAt (fo := 0) rfl sz28 rfl rfl sz2 rfl rfl) ?_
   refine Ops_quiet _ rfl rfl (QO.load rfl sz2 rfl rfl (by (refine (rd_own ((upd_ne _ _ n_b1_p0.ne).trans ((upd_ne _ _ n_b2_b1.ne.symm).trans (upd_same _ _ _))) _).trans ?_); exact rfl)) ?_
   refine Ops_quiet _ rfl rfl (QO.bin rfl rfl rfl rfl) ?_
   refine Ops_quiet _ rfl rfl (QO.fieldAt (fo := 0) rfl sz28 rfl rfl sz2 rfl rfl) ?_
   refine Ops_quiet _ rfl rfl (QO.load rfl sz2 rfl rfl (by (refine (rd_own ((upd_ne _ _ n_b1_p0.ne).trans ((upd_ne _ _ n_b2_b1.ne.symm).trans (upd_same _ _ _))) _).trans ?_); exact rfl)) ?_
   refine Ops_quiet _ rfl rfl (QO.bin rfl rfl rfl rfl) ?_
   refine Ops_loud rfl (LO.slice' [(0, .int .i64 0), (1, .int .i64 11), (2, .int .i64 (-1)), (3, .int .i64 (IntKind.i64.wrap (a1.order + 1))), (4, .int .i64 (IntKind.i64.wrap (a1.order - 1)))] (r := ints .i64 [0, 11, (-1), (IntKind.i64.wrap (a1.order + 1)), (IntKind.i64.wrap (a1.order - 1))]) rfl sz29 sz2 zr2 (by first | rfl | (simp [rowsC_length, rowsA_length, mpC_length, sqC_length, tbC_length, tabI_length, tabB_length, ints_length, plsC_length, trC_length, sqsC_length, strsC_length, boolsC_length, tbB_length, List.length_append, List.length_cons, List.length_nil, List.length_set, List.length_replicate, rep_length]; done)) (by decide) (by decide) (by decide) rfl rfl (by first | rfl | (simp [rowsC_length, rowsA_length, mpC_length, sqC_length, tbC_length, tabI_length, tabB_length, ints_length, plsC_length, trC_length, sqsC_length, strsC_length, boolsC_length, tbB_length, List.length_append, List.length_cons, List.length_nil, List.length_set, List.length_replicate, rep_length]; done)) rfl (fun b3 hb3 => ?_))
   simp only [upd_noneA] at hb3
   obtain ⟨n_b3_p0, n_b3_b2, n_b3_b1, hb3⟩ := hb3
   have hq := Option.bind_eq_some_iff.1 hm; clear hm; obtain ⟨r2, hr2, hm⟩ := hq
   have hd2 : Del (upd (upd (upd (upd (h) b1 (.own 28 (sqC a1) 101)) b2 (.own 28 (sqC sq0) 101)) p0 (.own 69 (srcC A_s l_s.length c_s r1.2) 3)) b3 (.own 2 (ints .i64 [0, 11, (-1), (IntKind.i64.wrap (a1.order + 1)), (IntKind.i64.wrap (a1.order - 1))]) (5 * 1))) p0 (.own 69 (srcC A_s l_s.length c_s r1.2) 3) (upd (upd (upd (h) b1 (.own 28 (sqC a1) 101)) b2 (.own 28 (sqC sq0) 101)) b3 (.own 2 (ints .i64 [0, 11, (-1), (IntKind.i64.wrap (a1.order + 1)), (IntKind.i64.wrap (a1.order - 1))]) (5 * 1))) := (Del.there n_b3_p0.ne.symm (Del.here (none_upd n_b2_p0.ne.symm (none_upd n_b1_p0.ne.symm h_p0))))
   refine Ops_call _ _ rfl rfl (EO.fn rfl Try.func26 rfl rfl (Evs.cons rfl (Evs.cons rfl Evs.nil))) (CC.mono (CC.atLe (c_spec_l01Pick (l1 := [0, 11, (-1), (IntKind.i64.wrap (a1.order + 1)), (IntKind.i64.wrap (a1.order - 1))]) (A1 := some ⟨b3, 0, none⟩) (c1 := 5) (h := upd (upd (upd (h) b1 (.own 28 (sqC a1) 101)) b2 (.own 28 (sqC sq0) 101)) b3 (.own 2 (ints .i64 [0, 11, (-1), (IntKind.i64.wrap (a1.order + 1)), (IntKind.i64.wrap (a1.order - 1))]) (5 * 1))) hr2 (RdS.le hs_s (Le.under (Le.under (Le.under (Le.refl _) hb1) hb2) hb3)) (RdS.own (upd_same _ _ _)) hd2.none) hd2.le) ?_)
   rintro _ _ ⟨rfl, rfl⟩
   refine Ops_quiet _ rfl rfl (QO.fieldAt (fo := 0) rfl sz28 rfl rfl sz2 rfl rfl) ?_
   refine Ops_loud rfl (LO.store' (xs' := sqC (⟨r2.1, a1.t⟩ : Sq)) rfl sz2 rfl rfl rfl ((upd_ne _ _ n_b1_p0.ne).trans ((upd_ne _ _ n_b3_b1.ne.symm).trans ((upd_ne _ _ n_b2_b1.ne.symm).trans (upd_same _ _ _)))) (by first | ((try simp only [rowsC_length, rowsA_length, mpC_length, sqC_length, tbC_length, tabI_length, tabB_length, ints_length, plsC_length, trC_length, sqsC_length, strsC_length, boolsC_length, tbB_length, List.length_append, List.length_cons, List.length_nil, List.length_set, List.length_replicate, rep_length]); first | omega | decide) | exact Nat.le_of_ble_eq_true rfl) sqC_setOrd (Chg.there n_b1_p0.ne.symm (Chg.there n_b3_b1.ne (Chg.there n_b2_b1.ne Chg.here))) rfl ?_)
   refine Ops_nil ?_
   refine blockA_n ?_
   refine thenA_n ?_
   refine wpA_seq ?_
   refine wpA_region ?_
   refine Ops_quiet _ rfl rfl (QO.loadRow (cs := sqC (⟨r2.1, a1.t⟩ : Sq)) (hr := (rdAll ((upd_ne _ _ n_b1_p0.ne).trans ((upd_ne _ _ n_b3_b1.ne.symm).trans ((upd_ne _ _ n_b2_b1.ne.symm).trans (upd_same _ _ _)))))) rfl sz28 rfl rfl (sqC_length _)) ?_
   refine Ops_loud rfl (LO.storeAll (cs := sqC (⟨r2.1, a1.t⟩ : Sq)) rfl sz28 rfl rfl (sqC_one _) (sqC_length _) ((upd_ne _ _ n_b2_p0.ne).trans ((upd_ne _ _ n_b3_b2.ne.symm).trans (upd_same _ _ _))) (sqC_length _) (Chg.there n_b2_p0.ne.symm (Chg.there n_b3_b2.ne Chg.here)) rfl ?_)
   refine Ops_nil ?_
   refine thenA_n ?_
   refine wpA_ret ?_
   obtain rfl := Option.some.inj hm
   exact retA_r (h2 := upd (h) p0 (.own 69 (srcC A_s l_s.length c_s r2.2) 3)) (Res.one rfl (res1.row (cs := sqC (⟨r2.1, a1.t⟩ : Sq)) (hr := (rdAll ((upd_ne _ _ n_b2_p0.ne).trans ((upd_ne _ _ n_b3_b2.ne.symm).trans (upd_same _ _ _))))) sz28 rfl rfl (sqC_length _))) (Le.upd_left (Le.under (Le.under (Le.under (Le.under (Le.refl _) hb1) hb2) hb3) h_p0) (upd_same _ _ _) (by first | rfl | (simp; done))) ⟨rfl, rfl⟩
  ·replace hm := cond_f hm g2
   refine wpA_seq ?_
   refine wpA_region ?_
   refine Ops_quiet _ rfl rfl (QO.bin rfl rfl rfl rfl) ?_
   refine Ops_quiet _ rfl rfl (QO.assign rfl rfl) ?_
   refine Ops_nil ?_
   refine thenA_n ?_
   refine wpA_cond rfl (fun g3 => ?_) (fun g3 => ?_)
   ·replace hm := cond_t hm g3
    refine wpA_region ?_
    refine Ops_quiet _ rfl rfl (QO.move rfl rfl) ?_
    refine Ops_loud rfl (LO.slice' [(0, .int .i64 1), (1, .int .i64 255)] (r := ints .i64 [1, 255]) rfl sz29 sz2 zr2 (by first | rfl | (simp [rowsC_length, rowsA_length, mpC_length, sqC_length, tbC_length, tabI_length, tabB_length, ints_length, plsC_length, trC_length, sqsC_length, strsC_length, boolsC_length, tbB_length, List.length_append, List.length_cons, List.length_nil, List.length_set, List.length_replicate, rep_length]; done)) (by decide) (by decide) (by decide) rfl rfl (by first | rfl | (simp [rowsC_length, rowsA_length, mpC_length, sqC_length, tbC_length, tabI_length, tabB_length, ints_length, plsC_length, trC_length, sqsC_length, strsC_length, boolsC_length, tbB_length, List.length_append, List.length_cons, List.length_nil, List.length_set, List.length_replicate, rep_length]; done)) rfl (fun b4 hb4 => ?_))
    simp only [upd_noneA] at hb4
    obtain ⟨n_b4_p0, n_b4_b2, n_b4_b1, hb4⟩ := hb4
    have hq := Option.bind_eq_some_iff.1 hm; clear hm; obtain ⟨r3, hr3, hm⟩ := hq
    have hd3 : Del (upd (upd (upd (upd (h) b1 (.own 28 (sqC a1) 101)) b2 (.own 28 (sqC sq0) 101)) p0 (.own 69 (srcC A_s l_s.length c_s r1.2) 3)) b4 (.own 2 (ints .i64 [1, 255]) (2 * 1))) p0 (.own 69 (srcC A_s l_s.length c_s r1.2) 3) (upd (upd (upd (h) b1 (.own 28 (sqC a1) 101)) b2 (.own 28 (sqC sq0) 101)) b4 (.own 2 (ints .i64 [1, 255]) (2 * 1))) := (Del.there n_b4_p0.ne.symm (Del.here (none_upd n_b2_p0.ne.symm (none_upd n_b1_p0.ne.symm h_p0))))
    refine Ops_call _ _ rfl rfl (EO.fn rfl Try.func26 rfl rfl (Evs.cons rfl (Evs.cons rfl Evs.nil))) (CC.mono (CC.atLe (c_spec_l01Pick (l1 := [1, 255]) (A1 := some ⟨b4, 0, none⟩) (c1 := 2) (h := upd (upd (upd (h) b1 (.own 28 (sqC a1) 101)) b2 (.own 28 (sqC sq0) 101)) b4 (.own 2 (ints .i64 [1, 255]) (2 * 1))) hr3 (RdS.le hs_s (Le.under (Le.under (Le.under (Le.refl _) hb1) hb2) hb4)) (RdS.own (upd_same _ _ _)) hd3.none) hd3.le) ?_)
    rintro _ _ ⟨rfl, rfl⟩
    refine Ops_quiet _ rfl rfl (QO.conv rfl sz2 sz5 rfl) ?_
    refine Ops_quiet _ rfl rfl (QO.fieldAt (fo := 1) rfl sz28 rfl rfl sz26 rfl rfl) ?_
    refine Ops_quiet _ rfl rfl (QO.idxArr rfl sz26 sz24 rfl rfl (by decide) (by decide)) ?_
    refine Ops_quiet _ rfl rfl (QO.idxArr rfl sz24 sz5 rfl rfl (by decide) (by decide)) ?_
    refine Ops_loud rfl (LO.store' (xs' := sqC (⟨a1.order, (tset a1.t 9 9 (IntKind.u8.wrap r3.1))⟩ : Sq)) rfl sz5 rfl rfl rfl ((upd_ne _ _ n_b1_p0.ne).trans ((upd_ne _ _ n_b4_b1.ne.symm).trans ((upd_ne _ _ n_b2_b1.ne.symm).trans (upd_same _ _ _)))) (by first | ((try simp only [rowsC_length, rowsA_length, mpC_length, sqC_length, tbC_length, tabI_length, tabB_length, ints_length, plsC_length, trC_length, sqsC_length, strsC_length, boolsC_length, tbB_length, List.length_append, List.length_cons, List.length_nil, List.length_set, List.length_replicate, rep_length]); first | omega | decide) | exact Nat.le_of_ble_eq_true rfl) (sqC_set (by omega) (by omega)) (Chg.there n_b1_p0.ne.symm (Chg.there n_b4_b1.ne (Chg.there n_b2_b1.ne Chg.here))) rfl ?_)
    refine Ops_nil ?_
    refine blockA_n ?_
    refine thenA_n ?_
    refine wpA_seq ?_
    refine wpA_region ?_
    refine Ops_quiet _ rfl rfl (QO.loadRow (cs := sqC (⟨a1.order, (tset a1.t 9 9 (IntKind.u8.wrap r3.1))⟩ : Sq)) (hr := (rdAll ((upd_ne _ _ n_b1_p0.ne).trans ((upd_ne _ _ n_b4_b1.ne.symm).trans ((upd_ne _ _ n_b2_b1.ne.symm).trans (upd_same _ _ _)))))) rfl sz28 rfl rfl (sqC_length _)) ?_
    refine Ops_loud rfl (LO.storeAll (cs := sqC (⟨a1.order, (tset a1.t 9 9 (IntKind.u8.wrap r3.1))⟩ : Sq)) rfl sz28 rfl rfl (sqC_one _) (sqC_length _) ((upd_ne _ _ n_b2_p0.ne).trans ((upd_ne _ _ n_b4_b2.ne.symm).trans (upd_same _ _ _))) (sqC_length _) (Chg.there n_b2_p0.ne.symm (Chg.there n_b4_b2.ne Chg.here)) rfl ?_)
    refine Ops_nil ?_
    refine thenA_n ?_
    refine wpA_ret ?_
    obtain rfl := Option.some.inj hm
    exact retA_r (h2 := upd (h) p0 (.own 69 (srcC A_s l_s.length c_s r3.2) 3)) (Res.one rfl (res1.row (cs := sqC (⟨a1.order, (tset a1.t 9 9 (IntKind.u8.wrap r3.1))⟩ : Sq)) (hr := (rdAll ((upd_ne _ _ n_b2_p0.ne).trans ((upd_ne _ _ n_b4_b2.ne.symm).trans (upd_same _ _ _))))) sz28 rfl rfl (sqC_length _))) (Le.upd_left (Le.under (Le.under (Le.under (Le.under (Le.refl _) hb1) hb2) hb4) h_p0) (upd_same _ _ _) (by first | rfl | (simp; done))) ⟨rfl, rfl⟩
   ·replace hm := cond_f hm g3
    refine wpA_skip ?_
    refine blockA_n ?_
    refine thenA_n ?_
    refine wpA_seq ?_
    refine wpA_region ?_
    refine Ops_quiet _ rfl rfl (QO.loadRow (cs := sqC a1) (hr := (rdAll ((upd_ne _ _ n_b1_p0.ne).trans ((upd_ne _ _ n_b2_b1.ne.symm).trans (upd_same _ _ _))))) rfl sz28 rfl rfl (sqC_length _)) ?_
    refine Ops_loud rfl (LO.storeAll (cs := sqC a1) rfl sz28 rfl rfl (sqC_one _) (sqC_length _) ((upd_ne _ _ n_b2_p0.ne).trans (upd_same _ _ _)) (sqC_length _) (Chg.there n_b2_p0.ne.symm Chg.here) rfl ?_)
    refine Ops_nil ?_
    refine thenA_n ?_
    refine wpA_ret ?_
    obtain rfl := Option.some.inj hm
    exact retA_r (h2 := upd (h) p0 (.own 69 (srcC A_s l_s.length c_s r1.2) 3)) (Res.one rfl (res1.row (cs := sqC a1) (hr := (rdAll ((upd_ne _ _ n_b2_p0.ne).trans (upd_same _ _ _)))) sz28 rfl rfl (sqC_length _))) (Le.upd_left (Le.under (Le.under (Le.under (Le.refl _) hb1) hb2) h_p0) (upd_same _ _ _) (by first | rfl | (simp; done))) ⟨rfl, rfl⟩

/-! loop.example/g01195/spec.l01DrawSquare -/
theorem c_spec_l01DrawSquare {a0 : Rng} {p0 : Nat} {l_s : List Int} {A_s : Option Addr} {c_s : Nat} {h : Hp} {r : Sq × Rng} (hm : m_spec_l01DrawSquare a0 l_s = some r) (hs_s : RdS h A_s (ints .u8 l_s)) (h_p0 : h p0 = none) :
    CC Try.prog 52 #[.pointer (some ⟨p0, 0, none⟩)] (upd (h) p0 (.own 69 (srcC A_s l_s.length c_s a0) 3)) (fun v h' => v = .agg (sqC r.1).toArray ∧ h' = upd (h) p0 (.own 69 (srcC A_s l_s.length c_s r.2) 3)) := by
 unfold m_spec_l01DrawSquare at hm
 refine CC.enter Try.func52 rfl Try.ntmps52 rfl ?_
 refine wpA_seq ?_
 refine wpA_region ?_
 refine Ops_loud rfl (LO.alloc rfl zr28 rfl (fun b1 hb1 => ?_))
 simp only [upd_noneA] at hb1
 obtain ⟨n_b1_p0, hb1⟩ := hb1
 refine Ops_nil ?_
 refine thenA_n ?_
 refine wpA_seq ?_
 refine wpA_region ?_
 refine Ops_quiet _ rfl rfl (QO.move rfl rfl) ?_
 have hq := Option.bind_eq_some_iff.1 hm; clear hm; obtain ⟨r1, hr1, hm⟩ := hq
 have hd1 : Del (upd (upd (h) p0 (.own 69 (srcC A_s l_s.length c_s a0) 3)) b1 (.own 28 (sqC sq0) 101)) p0 (.own 69 (srcC A_s l_s.length c_s a0) 3) (upd (h) b1 (.own 28 (sqC sq0) 101)) := (Del.there n_b1_p0.ne.symm (Del.here h_p0))
 refine Ops_call _ _ rfl rfl (EO.fn rfl Try.func47 rfl rfl (Evs.cons rfl Evs.nil)) (CC.mono (CC.atLe (c_spec_l01Draw (h := upd (h) b1 (.own 28 (sqC sq0) 101)) hr1 (RdS.le hs_s (Le.under (Le.refl _) hb1)) hd1.none) hd1.le) ?_)
 rintro _ _ ⟨rfl, rfl⟩
 refine Ops_loud rfl (LO.alloc rfl zr28 rfl (fun b2 hb2 => ?_))
 simp only [upd_noneA] at hb2
 obtain ⟨n_b2_p0, n_b2_b1, hb2⟩ := hb2
 refine Ops_loud rfl (LO.storeAll (cs := sqC r1.1) rfl sz28 rfl rfl (sqC_one _) (sqC_length _) (upd_same _ _ _) (sqC_length _) Chg.here rfl ?_)
 refine Ops_nil ?_
 refine thenA_n ?_
 refine wpA_seq ?_
 refine wpA_region ?_
 refine Ops_quiet _ rfl rfl (QO.fieldAt (fo := 0) rfl sz28 rfl rfl sz2 rfl rfl) ?_
 refine Ops_quiet _ rfl rfl (QO.load rfl sz2 rfl rfl (by (refine (rd_own (upd_same _ _ _) _).trans ?_); exact rfl)) ?_
 refine Ops_quiet _ rfl rfl (QO.assign rfl rfl) ?_
 refine Ops_nil ?_
 refine thenA_n ?_
 refine wpA_seq ?_
 refine wpA_seq ?_
 refine wpA_region ?_
 refine Ops_quiet _ rfl rfl (QO.move rfl rfl) ?_
 have hq := Option.bind_eq_some_iff.1 hm; clear hm; obtain ⟨r2, hr2, hm⟩ := hq
 have hd2 : Del (upd (upd (upd (h) b1 (.own 28 (sqC sq0) 101)) p0 (.own 69 (srcC A_s l_s.length c_s r1.2) 3)) b2 (.own 28 (sqC r1.1) 101)) p0 (.own 69 (srcC A_s l_s.length c_s r1.2) 3) (upd (upd (h) b1 (.own 28 (sqC sq0) 101)) b2 (.own 28 (sqC r1.1) 101)) := (Del.there n_b2_p0.ne.symm (Del.here (none_upd n_b1_p0.ne.symm h_p0)))
 refine Ops_call _ _ rfl rfl (EO.fn rfl Try.func27 rfl rfl (Evs.cons rfl (Evs.cons rfl Evs.nil))) (CC.mono (CC.atLe (c_spec_l01Next (h := upd (upd (h) b1 (.own 28 (sqC sq0) 101)) b2 (.own 28 (sqC r1.1) 101)) hr2 (RdS.le hs_s (Le.under (Le.under (Le.refl _) hb1) hb2)) hd2.none) hd2.le) ?_)
 rintro _ _ ⟨rfl, rfl⟩
 refine Ops_quiet _ rfl rfl (QO.bin rfl rfl rfl rfl) ?_
 refine Ops_nil ?_
 refine thenA_n ?_
 refine wpA_cond rfl (fun g1 => ?_) (fun g1 => ?_)
 ·replace hm := cond_t hm g1
  refine wpA_seq ?_
  refine wpA_region ?_
  refine Ops_quiet _ rfl rfl (QO.loadRow (cs := sqC r1.1) (hr := (rdAll ((upd_ne _ _ n_b2_p0.ne).trans (upd_same _ _ _)))) rfl sz28 rfl rfl (sqC_length _)) ?_
  refine Ops_loud rfl (LO.storeAll (cs := sqC r1.1) rfl sz28 rfl rfl (sqC_one _) (sqC_length _) ((upd_ne _ _ n_b1_p0.ne).trans ((upd_ne _ _ n_b2_b1.ne.symm).trans (upd_same _ _ _))) (sqC_length _) (Chg.there n_b1_p0.ne.symm (Chg.there n_b2_b1.ne Chg.here)) rfl ?_)
  refine Ops_nil ?_
  refine thenA_n ?_
  refine wpA_ret ?_
  refine thenA_r ?_
  obtain rfl := Option.some.inj hm
  exact retA_r (h2 := upd (h) p0 (.own 69 (srcC A_s l_s.length c_s r2.2) 3)) (Res.one rfl (res1.row (cs := sqC r1.1) (hr := (rdAll ((upd_ne _ _ n_b1_p0.ne).trans ((upd_ne _ _ n_b2_b1.ne.symm).trans (upd_same _ _ _))))) sz28 rfl rfl (sqC_length _))) (Le.upd_left (Le.under (Le.under (Le.under (Le.refl _) hb1) hb2) h_p0) (upd_same _ _ _) (by first | rfl | (simp; done))) ⟨rfl, rfl⟩
 ·replace hm := cond_f hm g1
  refine wpA_skip ?_
  refine thenA_n ?_
  refine wpA_seq ?_
  refine wpA_any (upd (upd (h) b1 (.own 28 (sqC sq0) 101)) b2 (.own 28 (sqC r1.1) 101)) [3, 6, 9, 11] [11] (by kernel_rfl) (by kernel_rfl) (DW.start ?_)
  refine DW.readK' 0 _ rfl (by kernel_rfl) rfl (Le.upd_left (Le.upd_left (Le.under (Le.under (Le.under (Le.refl _) hb1) hb2) h_p0) ((upd_ne _ _ n_b1_p0.ne).trans ((upd_ne _ _ n_b2_b1.ne.symm).trans (upd_same _ _ _))) (by first | rfl | (simp; done))) ((upd_ne _ _ n_b2_p0.ne).trans (upd_same _ _ _)) (by first | rfl | (simp; done))) (QO.loadRow (cs := sqC r1.1) (hr := (rdAll (upd_same _ _ _))) rfl sz28 rfl rfl (sqC_length _)) ?_
  refine DW.pure' 1 _ rfl (by kernel_rfl) rfl (fun _ => QO.move rfl rfl) ?_
  refine DW.pure' 2 _ rfl (by kernel_rfl) rfl (fun _ => QO.move rfl rfl) ?_
  refine DW.pure' 4 _ rfl (by kernel_rfl) rfl (fun _ => QO.move rfl rfl) ?_
  refine DW.pure' 5 _ rfl (by kernel_rfl) rfl (fun _ => QO.move rfl rfl) ?_
  refine DW.pure' 7 _ rfl (by kernel_rfl) rfl (fun _ => QO.move rfl rfl) ?_
  refine DW.pure' 8 _ rfl (by kernel_rfl) rfl (fun _ => QO.move rfl rfl) ?_
  have hq := Option.bind_eq_some_iff.1 hm; clear hm; obtain ⟨r3, hr3, hm⟩ := hq
  have hd3 : Del (upd (upd (upd (h) b1 (.own 28 (sqC sq0) 101)) b2 (.own 28 (sqC r1.1) 101)) p0 (.own 69 (srcC A_s l_s.length c_s r2.2) 3)) p0 (.own 69 (srcC A_s l_s.length c_s r2.2) 3) (upd (upd (h) b1 (.own 28 (sqC sq0) 101)) b2 (.own 28 (sqC r1.1) 101)) := (Del.here (none_upd n_b2_p0.ne.symm (none_upd n_b1_p0.ne.symm h_p0)))
  refine DW.call 3 _ _ rfl (by kernel_rfl) rfl rfl (EO.fn rfl Try.func57 rfl rfl (Evs.cons rfl (Evs.cons rfl Evs.nil))) (CC.mono (CC.atLe (c_spec_l01DrawPlaces (h := upd (upd (h) b1 (.own 28 (sqC sq0) 101)) b2 (.own 28 (sqC r1.1) 101)) hr3 (RdS.le hs_s (Le.under (Le.under (Le.refl _) hb1) hb2)) hd3.none) hd3.le) ?_)
  rintro _ _ ⟨rfl, rfl⟩
  refine ⟨(fun _ => (Le.upd_left (Le.upd_left (Le.under (Le.under (Le.under (Le.refl _) hb1) hb2) h_p0) ((upd_ne _ _ n_b1_p0.ne).trans ((upd_ne _ _ n_b2_b1.ne.symm).trans (upd_same _ _ _))) (by first | rfl | (simp; done))) ((upd_ne _ _ n_b2_p0.ne).trans (upd_same _ _ _)) (by first | rfl | (simp; done)))), ?_⟩
  have hq := Option.bind_eq_some_iff.1 hm; clear hm; obtain ⟨r4, hr4, hm⟩ := hq
  have hd4 : Del (upd (upd (upd (h) b1 (.own 28 (sqC sq0) 101)) b2 (.own 28 (sqC r1.1) 101)) p0 (.own 69 (srcC A_s l_s.length c_s r3.2) 3)) p0 (.own 69 (srcC A_s l_s.length c_s r3.2) 3) (upd (upd (h) b1 (.own 28 (sqC sq0) 101)) b2 (.own 28 (sqC r1.1) 101)) := (Del.here (none_upd n_b2_p0.ne.symm (none_upd n_b1_p0.ne.symm h_p0)))
  refine DW.call 6 _ _ rfl (by kernel_rfl) rfl rfl (EO.fn rfl Try.func57 rfl rfl (Evs.cons rfl (Evs.cons rfl Evs.nil))) (CC.mono (CC.atLe (c_spec_l01DrawPlaces (h := upd (upd (h) b1 (.own 28 (sqC sq0) 101)) b2 (.own 28 (sqC r1.1) 101)) hr4 (RdS.le hs_s (Le.under (Le.under (Le.refl _) hb1) hb2)) hd4.none) hd4.le) ?_)
  rintro _ _ ⟨rfl, rfl⟩
  refine ⟨(fun _ => (Le.upd_left (Le.upd_left (Le.under (Le.under (Le.under (Le.refl _) hb1) hb2) h_p0) ((upd_ne _ _ n_b1_p0.ne).trans ((upd_ne _ _ n_b2_b1.ne.symm).trans (upd_same _ _ _))) (by first | rfl | (simp; done))) ((upd_ne _ _ n_b2_p0.ne).trans (upd_same _ _ _)) (by first | rfl | (simp; done)))), ?_⟩
  have hq := Option.bind_eq_some_iff.1 hm; clear hm; obtain ⟨r5, hr5, hm⟩ := hq
  have hd5 : Del (upd (upd (upd (h) b1 (.own 28 (sqC sq0) 101)) b2 (.own 28 (sqC r1.1) 101)) p0 (.own 69 (srcC A_s l_s.length c_s r4.2) 3)) p0 (.own 69 (srcC A_s l_s.length c_s r4.2) 3) (upd (upd (h) b1 (.own 28 (sqC sq0) 101)) b2 (.own 28 (sqC r1.1) 101)) := (Del.here (none_upd n_b2_p0.ne.symm (none_upd n_b1_p0.ne.symm h_p0)))
  refine DW.call 9 _ _ rfl (by kernel_rfl) rfl rfl (EO.fn rfl Try.func57 rfl rfl (Evs.cons rfl (Evs.cons rfl Evs.nil))) (CC.mono (CC.atLe (c_spec_l01DrawPlaces (h := upd (upd (h) b1 (.own 28 (sqC sq0) 101)) b2 (.own 28 (sqC r1.1) 101)) hr5 (RdS.le hs_s (Le.under (Le.under (Le.refl _) hb1) hb2)) hd5.none) hd5.le) ?_)
  rintro _ _ ⟨rfl, rfl⟩
  refine ⟨(fun _ => (Le.upd_left (Le.upd_left (Le.under (Le.under (Le.under (Le.refl _) hb1) hb2) h_p0) ((upd_ne _ _ n_b1_p0.ne).trans ((upd_ne _ _ n_b2_b1.ne.symm).trans (upd_same _ _ _))) (by first | rfl | (simp; done))) ((upd_ne _ _ n_b2_p0.ne).trans (upd_same _ _ _)) (by first | rfl | (simp; done)))), ?_⟩
  have hq := Option.bind_eq_some_iff.1 hm; clear hm; obtain ⟨r6, hr6, hm⟩ := hq
  refine DW.qcall' 10 _ _ _ rfl (by kernel_rfl) rfl (EO.fn rfl Try.func56 rfl rfl (Evs.cons rfl (Evs.cons rfl (Evs.cons rfl (Evs.cons rfl Evs.nil))))) (c_spec_l01Moved hr6 ) ?_
  refine DW.loud 11 rfl (by kernel_rfl) rfl rfl (LO.storeAll (cs := sqC r6) rfl sz28 rfl rfl (sqC_one _) (sqC_length _) ((upd_ne _ _ n_b1_p0.ne).trans ((upd_ne _ _ n_b2_b1.ne.symm).trans (upd_same _ _ _))) (sqC_length _) (Chg.there n_b1_p0.ne.symm (Chg.there n_b2_b1.ne Chg.here)) rfl ?_)
  refine ⟨(fun e => absurd e (by decide)), ?_⟩
  refine DW.done (by kernel_rfl) ?_ _
  refine thenA_n ?_
  refine wpA_ret ?_
  obtain rfl := Option.some.inj hm
  exact retA_r (h2 := upd (h) p0 (.own 69 (srcC A_s l_s.length c_s r5.2) 3)) (Res.one rfl (res1.row (cs := sqC r6) (hr := (rdAll ((upd_ne _ _ n_b1_p0.ne).trans ((upd_ne _ _ n_b2_b1.ne.symm).trans (upd_same _ _ _))))) sz28 rfl rfl (sqC_length _))) (Le.upd_left (Le.under (Le.under (Le.under (Le.refl _) hb1) hb2) h_p0) (upd_same _ _ _) (by first | rfl | (simp; done))) ⟨rfl, rfl⟩

/-! loop.example/g01195/spec.l01Spoil -/
theorem c_spec_l01Spoil {a0 : Rng} {p0 : Nat} {l_s : List Int} {A_s : Option Addr} {c_s : Nat} {h : Hp} {r : Sq × Rng} (hm : m_spec_l01Spoil a0 l_s = some r) (hs_s : RdS h A_s (ints .u8 l_s)) (h_p0 : h p0 = none) :
    CC Try.prog 46 #[.pointer (some ⟨p0, 0, none⟩)] (upd (h) p0 (.own 69 (srcC A_s l_s.length c_s a0) 3)) (fun v h' => v = .agg (sqC r.1).toArray ∧ h' = upd (h) p0 (.own 69 (srcC A_s l_s.length c_s r.2) 3)) := by
 unfold m_spec_l01Spoil at hm
 refine CC.enter Try.func46 rfl Try.ntmps46 rfl ?_
 refine wpA_seq ?_
 refine wpA_region ?_
 refine Ops_loud rfl (LO.alloc rfl zr28 rfl (fun b1 hb1 => ?_))
 simp only [upd_noneA] at hb1
 obtain ⟨n_b1_p0, hb1⟩ := hb1
 refine Ops_nil ?_
 refine thenA_n ?_
 refine wpA_seq ?_
 refine wpA_seq ?_
 refine wpA_region ?_
 refine Ops_quiet _ rfl rfl (QO.move rfl rfl) ?_
 have hq := Option.bind_eq_some_iff.1 hm; clear hm; obtain ⟨r1, hr1, hm⟩ := hq
 have hd1 : Del (upd (upd (h) p0 (.own 69 (srcC A_s l_s.length c_s a0) 3)) b1 (.own 28 (sqC sq0) 101)) p0 (.own 69 (srcC A_s l_s.length c_s a0) 3) (upd (h) b1 (.own 28 (sqC sq0) 101)) := (Del.there n_b1_p0.ne.symm (Del.here h_p0))
 refine Ops_call _ _ rfl rfl (EO.fn rfl Try.func27 rfl rfl (Evs.cons rfl (Evs.cons rfl Evs.nil))) (CC.mono (CC.atLe (c_spec_l01Next (h := upd (h) b1 (.own 28 (sqC sq0) 101)) hr1 (RdS.le hs_s (Le.under (Le.refl _) hb1)) hd1.none) hd1.le) ?_)
 rintro _ _ ⟨rfl, rfl⟩
 refine Ops_quiet _ rfl rfl (QO.bin rfl rfl rfl rfl) ?_
 refine Ops_nil ?_
 refine thenA_n ?_
 refine wpA_cond rfl (fun g1 => ?_) (fun g1 => ?_)
 ·replace hm := cond_t hm g1
  refine wpA_seq ?_
  refine wpA_region ?_
  refine Ops_quiet _ rfl rfl (QO.move rfl rfl) ?_
  refine Ops_quiet _ rfl rfl (QO.move rfl rfl) ?_
  have hq := Option.bind_eq_some_iff.1 hm; clear hm; obtain ⟨r2, hr2, hm⟩ := hq
  have hd2 : Del (upd (upd (h) b1 (.own 28 (sqC sq0) 101)) p0 (.own 69 (srcC A_s l_s.length c_s r1.2) 3)) p0 (.own 69 (srcC A_s l_s.length c_s r1.2) 3) (upd (h) b1 (.own 28 (sqC sq0) 101)) := (Del.here (none_upd n_b1_p0.ne.symm h_p0))
  refine Ops_call _ _ rfl rfl (EO.fn rfl Try.func47 rfl rfl (Evs.cons rfl Evs.nil)) (CC.mono (CC.atLe (c_spec_l01Draw (h := upd (h) b1 (.own 28 (sqC sq0) 101)) hr2 (RdS.le hs_s (Le.under (Le.refl _) hb1)) hd2.none) hd2.le) ?_)
  rintro _ _ ⟨rfl, rfl⟩
  have hq := Option.bind_eq_some_iff.1 hm; clear hm; obtain ⟨r3, hr3, hm⟩ := hq
  have hd3 : Del (upd (upd (h) b1 (.own 28 (sqC sq0) 101)) p0 (.own 69 (srcC A_s l_s.length c_s r2.2) 3)) p0 (.own 69 (srcC A_s l_s.length c_s r2.2) 3) (upd (h) b1 (.own 28 (sqC sq0) 101)) := (Del.here (none_upd n_b1_p0.ne.symm h_p0))
  refine Ops_call _ _ rfl rfl (EO.fn rfl Try.func51 rfl rfl (Evs.cons rfl (Evs.cons rfl Evs.nil))) (CC.mono (CC.atLe (c_spec_l01Broken (h := upd (h) b1 (.own 28 (sqC sq0) 101)) hr3 (RdS.le hs_s (Le.under (Le.refl _) hb1)) hd3.none) hd3.le) ?_)
  rintro _ _ ⟨rfl, rfl⟩
  refine Ops_loud rfl (LO.storeAll (cs := sqC r3.1) rfl sz28 rfl rfl (sqC_one _) (sqC_length _) ((upd_ne _ _ n_b1_p0.ne).trans (upd_same _ _ _)) (sqC_length _) (Chg.there n_b1_p0.ne.symm Chg.here) rfl ?_)
  refine Ops_nil ?_
  refine thenA_n ?_
  refine wpA_ret ?_
  refine thenA_r ?_
  obtain rfl := Option.some.inj hm
  exact retA_r (h2 := upd (h) p0 (.own 69 (srcC A_s l_s.length c_s r3.2) 3)) (Res.one rfl (res1.row (cs := sqC r3.1) (hr := (rdAll ((upd_ne _ _ n_b1_p0.ne).trans (upd_same _ _ _)))) sz28 rfl rfl (sqC_length _))) (Le.upd_left (Le.under (Le.under (Le.refl _) hb1) h_p0) (upd_same _ _ _) (by first | rfl | (simp; done))) ⟨rfl, rfl⟩
 ·replace hm := cond_f hm g1
  refine wpA_skip ?_
  refine thenA_n ?_
  refine wpA_seq ?_
  refine wpA_region ?_
  refine Ops_quiet _ rfl rfl (QO.move rfl rfl) ?_
  refine Ops_quiet _ rfl rfl (QO.move rfl rfl) ?_
  have hq := Option.bind_eq_some_iff.1 hm; clear hm; obtain ⟨r4, hr4, hm⟩ := hq
  have hd4 : Del (upd (upd (h) b1 (.own 28 (sqC sq0) 101)) p0 (.own 69 (srcC A_s l_s.length c_s r1.2) 3)) p0 (.own 69 (srcC A_s l_s.length c_s r1.2) 3) (upd (h) b1 (.own 28 (sqC sq0) 101)) := (Del.here (none_upd n_b1_p0.ne.symm h_p0))
  refine Ops_call _ _ rfl rfl (EO.fn rfl Try.func52 rfl rfl (Evs.cons rfl Evs.nil)) (CC.mono (CC.atLe (c_spec_l01DrawSquare (h := upd (h) b1 (.own 28 (sqC sq0) 101)) hr4 (RdS.le hs_s (Le.under (Le.refl _) hb1)) hd4.none) hd4.le) ?_)
  rintro _ _ ⟨rfl, rfl⟩
  have hq := Option.bind_eq_some_iff.1 hm; clear hm; obtain ⟨r5, hr5, hm⟩ := hq
  have hd5 : Del (upd (upd (h) b1 (.own 28 (sqC sq0) 101)) p0 (.own 69 (srcC A_s l_s.length c_s r4.2) 3)) p0 (.own 69 (srcC A_s l_s.length c_s r4.2) 3) (upd (h) b1 (.own 28 (sqC sq0) 101)) := (Del.here (none_upd n_b1_p0.ne.symm h_p0))
  refine Ops_call _ _ rfl rfl (EO.fn rfl Try.func51 rfl rfl (Evs.cons rfl (Evs.cons rfl Evs.nil))) (CC.mono (CC.atLe (c_spec_l01Broken (h := upd (h) b1 (.own 28 (sqC sq0) 101)) hr5 (RdS.le hs_s (Le.under (Le.refl _) hb1)) hd5.none) hd5.le) ?_)
  rintro _ _ ⟨rfl, rfl⟩
  refine Ops_loud rfl (LO.storeAll (cs := sqC r5.1) rfl sz28 rfl rfl (sqC_one _) (sqC_length _) ((upd_ne _ _ n_b1_p0.ne).trans (upd_same _ _ _)) (sqC_length _) (Chg.there n_b1_p0.ne.symm Chg.here) rfl ?_)
  refine Ops_nil ?_
  refine thenA_n ?_
  refine wpA_ret ?_
  obtain rfl := Option.some.inj hm
  exact retA_r (h2 := upd (h) p0 (.own 69 (srcC A_s l_s.length c_s r5.2) 3)) (Res.one rfl (res1.row (cs := sqC r5.1) (hr := (rdAll ((upd_ne _ _ n_b1_p0.ne).trans (upd_same _ _ _)))) sz28 rfl rfl (sqC_length _))) (Le.upd_left (Le.under (Le.under (Le.refl _) hb1) h_p0) (upd_same _ _ _) (by first | rfl | (simp; done))) ⟨rfl, rfl⟩

/-! loop.example/g01195/spec.l04DrawLoop -/
theorem c_spec_l04DrawLoop {a0 : Rng} {p0 : Nat} {l_s : List Int} {A_s : Option Addr} {c_s : Nat} {h : Hp} {r : Sq × Rng} (hm : m_spec_l04DrawLoop a0 l_s = some r) (hs_s : RdS h A_s (ints .u8 l_s)) (h_p0 : h p0 = none) :
    CC Try.prog 41 #[.pointer (some ⟨p0, 0, none⟩)] (upd (h) p0 (.own 69 (srcC A_s l_s.length c_s a0) 3)) (fun v h' => v = .agg (sqC r.1).toArray ∧ h' = upd (h) p0 (.own 69 (srcC A_s l_s.length c_s r.2) 3)) := by
 unfold m_spec_l04DrawLoop at hm
 refine CC.enter Try.func41 rfl Try.ntmps41 rfl ?_
 refine wpA_seq ?_
 refine wpA_region ?_
 refine Ops_loud rfl (LO.alloc rfl zr28 rfl (fun b1 hb1 => ?_))
 simp only [upd_noneA] at hb1
 obtain ⟨n_b1_p0, hb1⟩ := hb1
 refine Ops_nil ?_
 refine thenA_n ?_
 refine wpA_seq ?_
 refine wpA_seq ?_
 refine wpA_region ?_
 refine Ops_quiet _ rfl rfl (QO.move rfl rfl) ?_
 have hq := Option.bind_eq_some_iff.1 hm; clear hm; obtain ⟨r1, hr1, hm⟩ := hq
 have hd1 : Del (upd (upd (h) p0 (.own 69 (srcC A_s l_s.length c_s a0) 3)) b1 (.own 28 (sqC sq0) 101)) p0 (.own 69 (srcC A_s l_s.length c_s a0) 3) (upd (h) b1 (.own 28 (sqC sq0) 101)) := (Del.there n_b1_p0.ne.symm (Del.here h_p0))
 refine Ops_call _ _ rfl rfl (EO.fn rfl Try.func27 rfl rfl (Evs.cons rfl (Evs.cons rfl Evs.nil))) (CC.mono (CC.atLe (c_spec_l01Next (h := upd (h) b1 (.own 28 (sqC sq0) 101)) hr1 (RdS.le hs_s (Le.under (Le.refl _) hb1)) hd1.none) hd1.le) ?_)
 rintro _ _ ⟨rfl, rfl⟩
 refine Ops_quiet _ rfl rfl (QO.bin rfl rfl rfl rfl) ?_
 refine Ops_nil ?_
 refine thenA_n ?_
 refine wpA_cond rfl (fun g1 => ?_) (fun g1 => ?_)
 ·replace hm := cond_t hm g1
  refine wpA_seq ?_
  refine wpA_region ?_
  refine Ops_quiet _ rfl rfl (QO.move rfl rfl) ?_
  have hq := Option.bind_eq_some_iff.1 hm; clear hm; obtain ⟨r2, hr2, hm⟩ := hq
  have hd2 : Del (upd (upd (h) b1 (.own 28 (sqC sq0) 101)) p0 (.own 69 (srcC A_s l_s.length c_s r1.2) 3)) p0 (.own 69 (srcC A_s l_s.length c_s r1.2) 3) (upd (h) b1 (.own 28 (sqC sq0) 101)) := (Del.here (none_upd n_b1_p0.ne.symm h_p0))
  refine Ops_call _ _ rfl rfl (EO.fn rfl Try.func46 rfl rfl (Evs.cons rfl Evs.nil)) (CC.mono (CC.atLe (c_spec_l01Spoil (h := upd (h) b1 (.own 28 (sqC sq0) 101)) hr2 (RdS.le hs_s (Le.under (Le.refl _) hb1)) hd2.none) hd2.le) ?_)
  rintro _ _ ⟨rfl, rfl⟩
  refine Ops_loud rfl (LO.storeAll (cs := sqC r2.1) rfl sz28 rfl rfl (sqC_one _) (sqC_length _) ((upd_ne _ _ n_b1_p0.ne).trans (upd_same _ _ _)) (sqC_length _) (Chg.there n_b1_p0.ne.symm Chg.here) rfl ?_)
  refine Ops_nil ?_
  refine thenA_n ?_
  refine wpA_ret ?_
  refine thenA_r ?_
  obtain rfl := Option.some.inj hm
  exact retA_r (h2 := upd (h) p0 (.own 69 (srcC A_s l_s.length c_s r2.2) 3)) (Res.one rfl (res1.row (cs := sqC r2.1) (hr := (rdAll ((upd_ne _ _ n_b1_p0.ne).trans (upd_same _ _ _)))) sz28 rfl rfl (sqC_length _))) (Le.upd_left (Le.under (Le.under (Le.refl _) hb1) h_p0) (upd_same _ _ _) (by first | rfl | (simp; done))) ⟨rfl, rfl⟩
 ·replace hm := cond_f hm g1
  refine wpA_skip ?_
  refine thenA_n ?_
  refine wpA_seq ?_
  refine wpA_region ?_
  refine Ops_quiet _ rfl rfl (QO.move rfl rfl) ?_
  have hq := Option.bind_eq_some_iff.1 hm; clear hm; obtain ⟨r3, hr3, hm⟩ := hq
  have hd3 : Del (upd (upd (h) b1 (.own 28 (sqC sq0) 101)) p0 (.own 69 (srcC A_s l_s.length c_s r1.2) 3)) p0 (.own 69 (srcC A_s l_s.length c_s r1.2) 3) (upd (h) b1 (.own 28 (sqC sq0) 101)) := (Del.here (none_upd n_b1_p0.ne.symm h_p0))
  refine Ops_call _ _ rfl rfl (EO.fn rfl Try.func47 rfl rfl (Evs.cons rfl Evs.nil)) (CC.mono (CC.atLe (c_spec_l01Draw (h := upd (h) b1 (.own 28 (sqC sq0) 101)) hr3 (RdS.le hs_s (Le.under (Le.refl _) hb1)) hd3.none) hd3.le) ?_)
  rintro _ _ ⟨rfl, rfl⟩
  refine Ops_loud rfl (LO.storeAll (cs := sqC r3.1) rfl sz28 rfl rfl (sqC_one _) (sqC_length _) ((upd_ne _ _ n_b1_p0.ne).trans (upd_same _ _ _)) (sqC_length _) (Chg.there n_b1_p0.ne.symm Chg.here) rfl ?_)
  refine Ops_nil ?_
  refine thenA_n ?_
  refine wpA_ret ?_
  obtain rfl := Option.some.inj hm
  exact retA_r (h2 := upd (h) p0 (.own 69 (srcC A_s l_s.length c_s r3.2) 3)) (Res.one rfl (res1.row (cs := sqC r3.1) (hr := (rdAll ((upd_ne _ _ n_b1_p0.ne).trans (upd_same _ _ _)))) sz28 rfl rfl (sqC_length _))) (Le.upd_left (Le.under (Le.under (Le.refl _) hb1) h_p0) (upd_same _ _ _) (by first | rfl | (simp; done))) ⟨rfl, rfl⟩

/-! loop.example/g01195/spec.l10DrawSum -/
theorem c_spec_l10DrawSum {a0 : Rng} {p0 : Nat} {l_s : List Int} {A_s : Option Addr} {c_s : Nat} {a1 : Int} {a2 : Int} {h : Hp} {r : (List Int) × Rng} (hm : m_spec_l10DrawSum a0 l_s a1 a2 = some r) (hs_s : RdS h A_s (ints .u8 l_s)) (h_p0 : h p0 = none) :
    CC Try.prog 42 #[.pointer (some ⟨p0, 0, none⟩), .int .i64 a1, .int .i64 a2] (upd (h) p0 (.own 69 (srcC A_s l_s.length c_s a0) 3)) (fun v h' => ∃ (b0 cap0 : Nat), (upd (h) p0 (.own 69 (srcC A_s l_s.length c_s r.2) 3)) b0 = none ∧ r.1.length ≤ cap0 ∧ cap0 ≤ maxLen ∧ v = .slice (some ⟨b0, 0, none⟩) r.1.length cap0 ∧ h' = upd (upd (h) p0 (.own 69 (srcC A_s l_s.length c_s r.2) 3)) b0 (.own 2 (ints .i64 r.1) (cap0 * 1))) := by
 unfold m_spec_l10DrawSum at hm
 refine CC.enter Try.func42 rfl Try.ntmps42 rfl ?_
 refine wpA_seq ?_
 refine wpA_region ?_
 refine Ops_quiet _ rfl rfl (QO.assign rfl rfl) ?_
 refine Ops_nil ?_
 refine thenA_n ?_
 refine wpA_seq ?_
 refine wpA_region ?_
 refine Ops_loud rfl (LO.sliceNil rfl sz29 sz2 rfl (fun b1 hb1 => ?_))
 simp only [upd_noneA] at hb1
 obtain ⟨n_b1_p0, hb1⟩ := hb1
 refine Ops_quiet _ rfl rfl (QO.assign rfl rfl) ?_
 refine Ops_nil ?_
 refine thenA_n ?_
 refine wpA_seq ?_
 refine wpA_seq ?_
 refine wpA_region ?_
 refine Ops_quiet _ rfl rfl (QO.assign rfl rfl) ?_
 refine Ops_nil ?_
 refine thenA_n ?_
 refine wpA_block ?_
 obtain ⟨R1, hR, hm⟩ := Option.bind_eq_some_iff.1 hm
 obtain ⟨k1, hk1⟩ := loopV_some hR
 clear hR
 refine wpA_mono (Q := fun e s' h' => match (generalizing := false) R1 with | .stop x id => e = .exit id ∧ ∃ (x1 : (List Int)) (x2 : Int) (x3 : Rng) (b2 cap_b2 : Nat), (x1, x2, x3) = x ∧ (upd (h) p0 (.own 69 (srcC A_s l_s.length c_s x3) 3)) b2 = none ∧ x1.length ≤ cap_b2 ∧ cap_b2 ≤ maxLen ∧ Sub s' [(0, .pointer (some ⟨p0, 0, none⟩)), (1, .int .i64 a1), (2, .int .i64 a2), (7, .slice (some ⟨b2, 0, none⟩) x1.length cap_b2), (8, .int .i64 x2)] ∧ Le (upd (upd (h) p0 (.own 69 (srcC A_s l_s.length c_s x3) 3)) b2 (.own 2 (ints .i64 x1) (cap_b2 * 1))) h' | .ret r => False | .next _ => False) ?_ ?_
 ·refine wpA_loop (fun k s' h' => ∃ (x1 : (List Int)) (x2 : Int) (x3 : Rng) (b2 cap_b2 : Nat), loopW (m_spec_l10DrawSum_l0 l_s a1 a2) k (x1, x2, x3) = some R1 ∧ (upd (h) p0 (.own 69 (srcC A_s l_s.length c_s x3) 3)) b2 = none ∧ x1.length ≤ cap_b2 ∧ cap_b2 ≤ maxLen ∧ Sub s' [(0, .pointer (some ⟨p0, 0, none⟩)), (1, .int .i64 a1), (2, .int .i64 a2), (7, .slice (some ⟨b2, 0, none⟩) x1.length cap_b2), (8, .int .i64 x2)] ∧ Le (upd (upd (h) p0 (.own 69 (srcC A_s l_s.length c_s x3) 3)) b2 (.own 2 (ints .i64 x1) (cap_b2 * 1))) h') (m := k1) ⟨[], 0, a0, b1, 0, hk1, (none_upd n_b1_p0.ne hb1), (by first | assumption | (simp; done) | omega), (by first | assumption | (simp only [maxLen]; omega)), (Sub.cons rfl (Sub.cons rfl (Sub.cons rfl (Sub.cons rfl (Sub.cons rfl Sub.nil))))), (Le.upd_left (Le.upd_left (Le.under (Le.under (Le.refl _) h_p0) hb1) ((upd_ne _ _ n_b1_p0.ne.symm).trans (upd_same _ _ _)) (by first | rfl | (simp; done))) (upd_same _ _ _) (by first | rfl | (simp; done)))⟩ ?_
  rintro k1 s' h' ⟨x1, x2, x3, b2, cap_b2, hk1, hb2, hk_b2, hc_b2, hsub, hle⟩
  refine wpA_weaken hsub.ok hle ?_
  clear hsub hle s' h'
  simp only [upd_noneA] at hb2
  obtain ⟨n_b2_p0, hb2⟩ := hb2
  cases k1 with
  | zero => exact absurd hk1 (by simp [loopW])
  | succ k1 =>
   obtain ⟨o1, ho1, hk1⟩ := loopW_succ hk1
   unfold m_spec_l10DrawSum_l0 at ho1
   try dsimp only at ho1
   refine wpA_seq ?_
   refine wpA_seq ?_
   refine wpA_region ?_
   refine Ops_quiet _ rfl rfl (QO.move rfl rfl) ?_
   refine Ops_quiet _ rfl rfl (QO.move rfl rfl) ?_
   refine Ops_quiet _ rfl rfl (QO.bin rfl rfl rfl rfl) ?_
   refine Ops_nil ?_
   refine thenA_n ?_
   refine wpA_cond rfl (fun g1 => ?_) (fun g1 => ?_)
   ·replace ho1 := cond_t ho1 g1
    refine wpA_skip ?_
    refine thenA_n ?_
    refine wpA_seq ?_
    refine wpA_block ?_
    refine wpA_region ?_
    refine Ops_quiet _ rfl rfl (QO.move rfl rfl) ?_
    refine Ops_quiet _ rfl rfl (QO.move rfl rfl) ?_
    refine Ops_quiet _ rfl rfl (QO.move rfl rfl) ?_
    have hq := Option.bind_eq_some_iff.1 ho1; clear ho1; obtain ⟨r1, hr1, ho1⟩ := hq
    have hd1 : Del (upd (upd (h) p0 (.own 69 (srcC A_s l_s.length c_s x3) 3)) b2 (.own 2 (ints .i64 x1) (cap_b2 * 1))) p0 (.own 69 (srcC A_s l_s.length c_s x3) 3) (upd (h) b2 (.own 2 (ints .i64 x1) (cap_b2 * 1))) := (Del.there n_b2_p0.ne.symm (Del.here h_p0))
    refine Ops_call _ _ rfl rfl (EO.fn rfl Try.func27 rfl rfl (Evs.cons rfl (Evs.cons rfl Evs.nil))) (CC.mono (CC.atLe (c_spec_l01Next (h := upd (h) b2 (.own 2 (ints .i64 x1) (cap_b2 * 1))) hr1 (RdS.le hs_s (Le.under (Le.refl _) hb2)) hd1.none) hd1.le) ?_)
    rintro _ _ ⟨rfl, rfl⟩
    refine Ops_quiet _ rfl rfl (QO.move rfl rfl) ?_
    have hq := Option.bind_eq_some_iff.1 ho1; clear ho1; obtain ⟨r2, hr2, ho1⟩ := hq
    have hd2 : Del (upd (upd (h) b2 (.own 2 (ints .i64 x1) (cap_b2 * 1))) p0 (.own 69 (srcC A_s l_s.length c_s r1.2) 3)) p0 (.own 69 (srcC A_s l_s.length c_s r1.2) 3) (upd (h) b2 (.own 2 (ints .i64 x1) (cap_b2 * 1))) := (Del.here (none_upd n_b2_p0.ne.symm h_p0))
    refine Ops_call _ _ rfl rfl (EO.fn rfl Try.func27 rfl rfl (Evs.cons rfl (Evs.cons rfl Evs.nil))) (CC.mono (CC.atLe (c_spec_l01Next (h := upd (h) b2 (.own 2 (ints .i64 x1) (cap_b2 * 1))) hr2 (RdS.le hs_s (Le.under (Le.refl _) hb2)) hd2.none) hd2.le) ?_)
    rintro _ _ ⟨rfl, rfl⟩
    refine Ops_quiet _ rfl rfl (QO.bin rfl rfl rfl rfl) ?_
    refine Ops_loud rfl (LO.slice1 (r := ints .i64 [(IntKind.i64.wrap (r1.1 * r2.1))]) rfl sz29 sz2 zr2 (by first | rfl | (simp [rowsC_length, rowsA_length, mpC_length, sqC_length, tbC_length, tabI_length, tabB_length, ints_length, plsC_length, trC_length, sqsC_length, strsC_length, boolsC_length, tbB_length, List.length_append, List.length_cons, List.length_nil, List.length_set, List.length_replicate, rep_length]; done)) (by decide) (by decide) rfl rfl (by first | rfl | (simp [rowsC_length, rowsA_length, mpC_length, sqC_length, tbC_length, tabI_length, tabB_length, ints_length, plsC_length, trC_length, sqsC_length, strsC_length, boolsC_length, tbB_length, List.length_append, List.length_cons, List.length_nil, List.length_set, List.length_replicate, rep_length]; done)) rfl (fun b3 hb3 => ?_))
    simp only [upd_noneA] at hb3
    obtain ⟨n_b3_p0, n_b3_b2, hb3⟩ := hb3
    have hq := chk ho1; clear ho1; obtain ⟨ck1, ho1⟩ := hq
    refine Ops_loud rfl (LO.append2 (ys := ints .i64 [(IntKind.i64.wrap (r1.1 * r2.1))]) (k' := (x1 ++ [(IntKind.i64.wrap (r1.1 * r2.1))]).length) (xs' := ints .i64 (x1 ++ [(IntKind.i64.wrap (r1.1 * r2.1))])) rfl sz29 el2 rfl rfl (Del.drop n_b3_b2.ne (none_upd n_b3_p0.ne hb3) (Del.there n_b2_p0.ne (Del.here hb2))) (by first | assumption | omega) (by first | assumption | (simp only [maxLen]; omega)) (by first | rfl | (simp [rowsC_length, rowsA_length, mpC_length, sqC_length, tbC_length, tabI_length, tabB_length, ints_length, plsC_length, trC_length, sqsC_length, strsC_length, boolsC_length, tbB_length, List.length_append, List.length_cons, List.length_nil, List.length_set, List.length_replicate, rep_length]; done) | (simp [rowsC_length, rowsA_length, mpC_length, sqC_length, tbC_length, tabI_length, tabB_length, ints_length, plsC_length, trC_length, sqsC_length, strsC_length, boolsC_length, tbB_length, List.length_append, List.length_cons, List.length_nil, List.length_set, List.length_replicate, rep_length]; omega)) (by first | rfl | (simp [rowsC_length, rowsA_length, mpC_length, sqC_length, tbC_length, tabI_length, tabB_length, ints_length, plsC_length, trC_length, sqsC_length, strsC_length, boolsC_length, tbB_length, List.length_append, List.length_cons, List.length_nil, List.length_set, List.length_replicate, rep_length]; done) | (simp [rowsC_length, rowsA_length, mpC_length, sqC_length, tbC_length, tabI_length, tabB_length, ints_length, plsC_length, trC_length, sqsC_length, strsC_length, boolsC_length, tbB_length, List.length_append, List.length_cons, List.length_nil, List.length_set, List.length_replicate, rep_length]; omega)) (RdS.own (upd_same _ _ _)) (by first | assumption | exact tabI_one _ _ _ | exact tbC_one _ | exact sqC_one _ | exact tabB_one _ _ | exact ints_one _ _ | exact plsC_one _ | exact strsC_one _ | exact srcC_one _ _ _ _ | (intro v hv; simp at hv; subst hv; rfl)) (by decide) (by omega) (by decide) (by decide) rfl (by first | rfl | (simp [rowsC_length, rowsA_length, mpC_length, sqC_length, tbC_length, tabI_length, tabB_length, ints_length, plsC_length, trC_length, sqsC_length, strsC_length, boolsC_length, tbB_length, List.length_append, List.length_cons, List.length_nil, List.length_set, List.length_replicate, rep_length]; done) | (simp [rowsC_length, rowsA_length, mpC_length, sqC_length, tbC_length, tabI_length, tabB_length, ints_length, plsC_length, trC_length, sqsC_length, strsC_length, boolsC_length, tbB_length, List.length_append, List.length_cons, List.length_nil, List.length_set, List.length_replicate, rep_length]; omega)) (by first | rfl | (simp [ints, plsC, sqsC, boolsC, strsC]; done)) (fun b4 cap_b4 hb4 hk_b4 hc_b4 => ?_))
    simp only [upd_noneA] at hb4
    obtain ⟨n_b4_p0, hb4⟩ := hb4
    refine Ops_quiet _ rfl rfl (QO.assign rfl rfl) ?_
    refine Ops_nil ?_
    refine blockA_n ?_
    refine thenA_n ?_
    refine wpA_region ?_
    refine Ops_quiet _ rfl rfl (QO.move rfl rfl) ?_
    refine Ops_quiet _ rfl rfl (QO.bin rfl rfl rfl rfl) ?_
    refine Ops_quiet _ rfl rfl (QO.assign rfl rfl) ?_
    refine Ops_nil ?_
    obtain rfl := Option.some.inj ho1
    dsimp only at hk1
    exact thenA_n ⟨k1, Nat.lt_succ_self _, _, _, _, b4, cap_b4, hk1, (none_upd n_b4_p0.ne hb4), (by first | assumption | (simp; done) | omega), (by first | assumption | (simp only [maxLen]; omega)), (Sub.cons rfl (Sub.cons rfl (Sub.cons rfl (Sub.cons rfl (Sub.cons rfl Sub.nil))))), (Le.upd_left (Le.upd_left (Le.under (Le.under (Le.refl _) h_p0) hb4) ((upd_ne _ _ n_b4_p0.ne.symm).trans (upd_same _ _ _)) (by first | rfl | (simp; done))) (upd_same _ _ _) (by first | rfl | (simp; done)))⟩
   ·replace ho1 := cond_f ho1 g1
    refine wpA_exit ?_
    refine thenA_e ?_
    refine thenA_e ?_
    obtain rfl := Option.some.inj ho1
    obtain rfl := Option.some.inj hk1
    exact ⟨rfl, _, _, _, b2, cap_b2, rfl, (none_upd n_b2_p0.ne hb2), (by first | assumption | (simp; done) | omega), (by first | assumption | (simp only [maxLen]; omega)), (Sub.cons rfl (Sub.cons rfl (Sub.cons rfl (Sub.cons rfl (Sub.cons rfl Sub.nil))))), (Le.upd_left (Le.upd_left (Le.under (Le.under (Le.refl _) h_p0) hb2) ((upd_ne _ _ n_b2_p0.ne.symm).trans (upd_same _ _ _)) (by first | rfl | (simp; done))) (upd_same _ _ _) (by first | rfl | (simp; done)))⟩
 ·intro e s' h' hq
  cases R1 with
  | next x => exact hq.elim
  | ret r => exact hq.elim
  | stop x id =>
   obtain ⟨rfl, x4, x5, x6, b5, cap_b5, rfl, hb5, hk_b5, hc_b5, hsub1, hle1⟩ := hq
   try dsimp only at hm
   simp only [upd_noneA] at hb5
   obtain ⟨n_b5_p0, hb5⟩ := hb5
   by_cases hid1 : id = 0
   ·subst hid1
    rw [if_pos rfl] at hm
    refine blockA_s ?_
    refine thenA_n ?_
    refine wpA_weaken hsub1.ok hle1 ?_
    refine wpA_seq ?_
    refine wpA_region ?_
    refine Ops_quiet _ rfl rfl (QO.move rfl rfl) ?_
    refine Ops_quiet _ rfl rfl (QO.assign rfl rfl) ?_
    refine Ops_nil ?_
    refine thenA_n ?_
    refine wpA_ret ?_
    obtain rfl := Option.some.inj hm
    exact retA_r (h2 := upd (upd (h) p0 (.own 69 (srcC A_s l_s.length c_s x6) 3)) b5 (.own 2 (ints .i64 x4) (cap_b5 * 1))) (Res.one rfl (rfl)) (Le.upd_left (Le.upd_left (Le.under (Le.under (Le.refl _) h_p0) hb5) ((upd_ne _ _ n_b5_p0.ne.symm).trans (upd_same _ _ _)) (by first | rfl | (simp; done))) (upd_same _ _ _) (by first | rfl | (simp; done))) ⟨b5, cap_b5, (none_upd n_b5_p0.ne hb5), (by first | assumption | omega | (simp only [List.length_set, List.length_replicate]; first | done | assumption | omega)), (by first | assumption | (simp only [maxLen]; omega)), rfl, rfl⟩
   rw [if_neg hid1] at hm
   exact absurd hm (by simp)

/-! loop.example/g01195/spec.l10Draw -/
theorem c_spec_l10Draw {a0 : Rng} {p0 : Nat} {l_s : List Int} {A_s : Option Addr} {c_s : Nat} {a1 : Int} {h : Hp} {r : Sq × Int × (List (List Int)) × Rng} (hm : m_spec_l10Draw a0 l_s a1 = some r) (hs_s : RdS h A_s (ints .u8 l_s)) (h_p0 : h p0 = none) :
    CC Try.prog 34 #[.pointer (some ⟨p0, 0, none⟩), .int .i64 a1] (upd (h) p0 (.own 69 (srcC A_s l_s.length c_s a0) 3)) (fun v h' => ∃ (g2 : List (Option Nat × Nat)) (b2 cap2 : Nat), FrF (upd (h) p0 (.own 69 (srcC A_s l_s.length c_s r.2.2.2) 3)) g2 ∧ OkF g2 r.2.2.1 ∧ (famH (upd (h) p0 (.own 69 (srcC A_s l_s.length c_s r.2.2.2) 3)) 2 1 (ints .i64) g2 r.2.2.1) b2 = none ∧ r.2.2.1.length ≤ cap2 ∧ cap2 ≤ maxLen ∧ v = .tuple #[.agg (sqC r.1).toArray, .int .i64 r.2.1, .slice (some ⟨b2, 0, none⟩) r.2.2.1.length cap2] ∧ h' = upd (famH (upd (h) p0 (.own 69 (srcC A_s l_s.length c_s r.2.2.2) 3)) 2 1 (ints .i64) g2 r.2.2.1) b2 (.own 29 (rowsC g2 r.2.2.1) (cap2 * 1))) := by
 unfold m_spec_l10Draw at hm
 refine CC.enter Try.func34 rfl Try.ntmps34 rfl ?_
 refine wpA_seq ?_
 refine wpA_region ?_
 refine Ops_loud rfl (LO.alloc rfl zr28 rfl (fun b1 hb1 => ?_))
 simp only [upd_noneA] at hb1
 obtain ⟨n_b1_p0, hb1⟩ := hb1
 refine Ops_quiet _ rfl rfl (QO.assign rfl rfl) ?_
 refine Ops_quiet _ rfl rfl (QO.assign rfl rfl) ?_
 refine Ops_nil ?_
 refine thenA_n ?_
 refine wpA_seq ?_
 refine wpA_region ?_
 refine Ops_quiet _ rfl rfl (QO.move rfl rfl) ?_
 have hq := Option.bind_eq_some_iff.1 hm; clear hm; obtain ⟨r1, hr1, hm⟩ := hq
 have hd1 : Del (upd (upd (h) p0 (.own 69 (srcC A_s l_s.length c_s a0) 3)) b1 (.own 28 (sqC sq0) 101)) p0 (.own 69 (srcC A_s l_s.length c_s a0) 3) (upd (h) b1 (.own 28 (sqC sq0) 101)) := (Del.there n_b1_p0.ne.symm (Del.here h_p0))
 refine Ops_call _ _ rfl rfl (EO.fn rfl Try.func41 rfl rfl (Evs.cons rfl Evs.nil)) (CC.mono (CC.atLe (c_spec_l04DrawLoop (h := upd (h) b1 (.own 28 (sqC sq0) 101)) hr1 (RdS.le hs_s (Le.under (Le.refl _) hb1)) hd1.none) hd1.le) ?_)
 rintro _ _ ⟨rfl, rfl⟩
 refine Ops_quiet _ rfl rfl (QO.move rfl rfl) ?_
 refine Ops_loud rfl (LO.slice' [(0, .int .i64 2), (1, .int .i64 2), (2, .int .i64 3), (3, .int .i64 3), (4, .int .i64 5), (5, .int .i64 7)] (r := ints .i64 [2, 2, 3, 3, 5, 7]) rfl sz29 sz2 zr2 (by first | rfl | (simp [rowsC_length, rowsA_length, mpC_length, sqC_length, tbC_length, tabI_length, tabB_length, ints_length, plsC_length, trC_length, sqsC_length, strsC_length, boolsC_length, tbB_length, List.length_append, List.length_cons, List.length_nil, List.length_set, List.length_replicate, rep_length]; done)) (by decide) (by decide) (by decide) rfl rfl (by first | rfl | (simp [rowsC_length, rowsA_length, mpC_length, sqC_length, tbC_length, tabI_length, tabB_length, ints_length, plsC_length, trC_length, sqsC_length, strsC_length, boolsC_length, tbB_length, List.length_append, List.length_cons, List.length_nil, List.length_set, List.length_replicate, rep_length]; done)) rfl (fun b2 hb2 => ?_))
 simp only [upd_noneA] at hb2
 obtain ⟨n_b2_p0, n_b2_b1, hb2⟩ := hb2
 have hq := Option.bind_eq_some_iff.1 hm; clear hm; obtain ⟨r2, hr2, hm⟩ := hq
 have hd2 : Del (upd (upd (upd (h) b1 (.own 28 (sqC sq0) 101)) p0 (.own 69 (srcC A_s l_s.length c_s r1.2) 3)) b2 (.own 2 (ints .i64 [2, 2, 3, 3, 5, 7]) (6 * 1))) p0 (.own 69 (srcC A_s l_s.length c_s r1.2) 3) (upd (upd (h) b1 (.own 28 (sqC sq0) 101)) b2 (.own 2 (ints .i64 [2, 2, 3, 3, 5, 7]) (6 * 1))) := (Del.there n_b2_p0.ne.symm (Del.here (none_upd n_b1_p0.ne.symm h_p0)))
 refine Ops_call _ _ rfl rfl (EO.fn rfl Try.func26 rfl rfl (Evs.cons rfl (Evs.cons rfl Evs.nil))) (CC.mono (CC.atLe (c_spec_l01Pick (l1 := [2, 2, 3, 3, 5, 7]) (A1 := some ⟨b2, 0, none⟩) (c1 := 6) (h := upd (upd (h) b1 (.own 28 (sqC sq0) 101)) b2 (.own 2 (ints .i64 [2, 2, 3, 3, 5, 7]) (6 * 1))) hr2 (RdS.le hs_s (Le.under (Le.under (Le.refl _) hb1) hb2)) (RdS.own (upd_same _ _ _)) hd2.none) hd2.le) ?_)
 rintro _ _ ⟨rfl, rfl⟩
 refine Ops_loud rfl (LO.sliceNil rfl sz61 sz29 rfl (fun b3 hb3 => ?_))
 simp only [upd_noneA] at hb3
 obtain ⟨n_b3_p0, n_b3_b2, n_b3_b1, hb3⟩ := hb3
 refine Ops_loud rfl (LO.alloc rfl zr28 rfl (fun b4 hb4 => ?_))
 simp only [upd_noneA] at hb4
 obtain ⟨n_b4_b3, n_b4_p0, n_b4_b2, n_b4_b1, hb4⟩ := hb4
 refine Ops_loud rfl (LO.storeAll (cs := sqC r1.1) rfl sz28 rfl rfl (sqC_one _) (sqC_length _) (upd_same _ _ _) (sqC_length _) Chg.here rfl ?_)
 refine Ops_quiet _ rfl rfl (QO.assign rfl rfl) ?_
 refine Ops_quiet _ rfl rfl (QO.assign rfl rfl) ?_
 refine Ops_nil ?_
 refine thenA_n ?_
 refine wpA_seq ?_
 refine wpA_block ?_
 obtain ⟨R1, hR, hm⟩ := Option.bind_eq_some_iff.1 hm
 obtain ⟨k1, hk1⟩ := loopV_some hR
 clear hR
 refine wpA_mono (Q := fun e s' h' => match (generalizing := false) R1 with | .stop x id => e = .exit id ∧ ∃ (x1 : Int) (x2 : (List (List Int))) (x3 : Rng) (g_f1 : List (Option Nat × Nat)) (b5 cap_b5 : Nat), (x1, x2, x3) = x ∧ FrF (upd (upd (upd (h) b1 (.own 28 (sqC sq0) 101)) p0 (.own 69 (srcC A_s l_s.length c_s x3) 3)) b4 (.own 28 (sqC r1.1) 101)) g_f1 ∧ OkF g_f1 x2 ∧ (famH (upd (upd (upd (h) b1 (.own 28 (sqC sq0) 101)) p0 (.own 69 (srcC A_s l_s.length c_s x3) 3)) b4 (.own 28 (sqC r1.1) 101)) 2 1 (ints .i64) g_f1 x2) b5 = none ∧ x2.length ≤ cap_b5 ∧ cap_b5 ≤ maxLen ∧ Sub s' [(0, .pointer (some ⟨p0, 0, none⟩)), (1, .int .i64 x1), (4, .pointer (some ⟨b1, 0, none⟩)), (7, .pointer (some ⟨b4, 0, none⟩)), (8, .int .i64 r2.1), (9, .slice (some ⟨b5, 0, none⟩) x2.length cap_b5)] ∧ Le (upd (famH (upd (upd (upd (h) b1 (.own 28 (sqC sq0) 101)) p0 (.own 69 (srcC A_s l_s.length c_s x3) 3)) b4 (.own 28 (sqC r1.1) 101)) 2 1 (ints .i64) g_f1 x2) b5 (.own 29 (rowsC g_f1 x2) (cap_b5 * 1))) h' | .ret r => False | .next _ => False) ?_ ?_
 ·refine wpA_loop (fun k s' h' => ∃ (x1 : Int) (x2 : (List (List Int))) (x3 : Rng) (g_f1 : List (Option Nat × Nat)) (b5 cap_b5 : Nat), loopW (m_spec_l10Draw_l0 l_s r1 r2) k (x1, x2, x3) = some R1 ∧ FrF (upd (upd (upd (h) b1 (.own 28 (sqC sq0) 101)) p0 (.own 69 (srcC A_s l_s.length c_s x3) 3)) b4 (.own 28 (sqC r1.1) 101)) g_f1 ∧ OkF g_f1 x2 ∧ (famH (upd (upd (upd (h) b1 (.own 28 (sqC sq0) 101)) p0 (.own 69 (srcC A_s l_s.length c_s x3) 3)) b4 (.own 28 (sqC r1.1) 101)) 2 1 (ints .i64) g_f1 x2) b5 = none ∧ x2.length ≤ cap_b5 ∧ cap_b5 ≤ maxLen ∧ Sub s' [(0, .pointer (some ⟨p0, 0, none⟩)), (1, .int .i64 x1), (4, .pointer (some ⟨b1, 0, none⟩)), (7, .pointer (some ⟨b4, 0, none⟩)), (8, .int .i64 r2.1), (9, .slice (some ⟨b5, 0, none⟩) x2.length cap_b5)] ∧ Le (upd (famH (upd (upd (upd (h) b1 (.own 28 (sqC sq0) 101)) p0 (.own 69 (srcC A_s l_s.length c_s x3) 3)) b4 (.own 28 (sqC r1.1) 101)) 2 1 (ints .i64) g_f1 x2) b5 (.own 29 (rowsC g_f1 x2) (cap_b5 * 1))) h') (m := k1) ⟨a1, [], r2.2, [], b3, 0, hk1, FrF.nil, OkF.nil, (none_famH NeF.nil (none_upd n_b4_b3.ne.symm (none_upd n_b3_p0.ne (none_upd n_b3_b1.ne hb3)))), (by first | assumption | (simp; done) | omega), (by first | assumption | (simp only [maxLen]; omega)), (Sub.cons rfl (Sub.cons rfl (Sub.cons rfl (Sub.cons rfl (Sub.cons rfl (Sub.cons rfl Sub.nil)))))), (Le.upd_left (Le.upd_left (Le.upd_left (Le.upd_left (Le.under (Le.under (Le.under (Le.under (Le.under (Le.refl _) hb1) hb2) h_p0) hb3) hb4) ((upd_ne _ _ n_b4_b1.ne.symm).trans ((upd_ne _ _ n_b3_b1.ne.symm).trans ((upd_ne _ _ n_b1_p0.ne).trans ((upd_ne _ _ n_b2_b1.ne.symm).trans (upd_same _ _ _))))) (by first | rfl | (simp; done))) ((upd_ne _ _ n_b4_p0.ne.symm).trans ((upd_ne _ _ n_b3_p0.ne.symm).trans (upd_same _ _ _))) (by first | rfl | (simp; done))) (upd_same _ _ _) (by first | rfl | (simp; done))) ((upd_ne _ _ n_b4_b3.ne.symm).trans (upd_same _ _ _)) (by first | rfl | (simp; done)))⟩ ?_
  rintro k1 s' h' ⟨x1, x2, x3, g_f1, b5, cap_b5, hk1, hf1, okf_f1, hb5, hk_b5, hc_b5, hsub, hle⟩
  refine wpA_weaken hsub.ok hle ?_
  clear hsub hle s' h'
  simp only [frF_updA, frF_updOA] at hf1
  obtain ⟨n_f1_b4, n_f1_p0, n_f1_b1, hf1⟩ := hf1
  simp only [upd_noneA, updO_noneA, famH_noneA] at hb5
  obtain ⟨n_b5_f1, n_b5_b4, n_b5_p0, n_b5_b1, hb5⟩ := hb5
  cases k1 with
  | zero => exact absurd hk1 (by simp [loopW])
  | succ k1 =>
   obtain ⟨o1, ho1, hk1⟩ := loopW_succ hk1
   unfold m_spec_l10Draw_l0 at ho1
   try dsimp only at ho1
   refine wpA_seq ?_
   refine wpA_seq ?_
   refine wpA_region ?_
   refine Ops_quiet _ rfl rfl (QO.move rfl rfl) ?_
   refine Ops_quiet _ rfl rfl (QO.bin rfl rfl rfl rfl) ?_
   refine Ops_nil ?_
   refine thenA_n ?_
   refine wpA_cond rfl (fun g1 => ?_) (fun g1 => ?_)
   ·replace ho1 := cond_t ho1 g1
    refine wpA_skip ?_
    refine thenA_n ?_
    refine wpA_seq ?_
    refine wpA_block ?_
    refine wpA_region ?_
    refine Ops_quiet _ rfl rfl (QO.move rfl rfl) ?_
    refine Ops_quiet _ rfl rfl (QO.move rfl rfl) ?_
    refine Ops_quiet _ rfl rfl (QO.fieldAt (fo := 0) rfl sz28 rfl rfl sz2 rfl rfl) ?_
    refine Ops_quiet _ rfl rfl (QO.load rfl sz2 rfl rfl (by (refine (rd_own ((upd_ne _ _ n_b5_b4.ne.symm).trans ((famH_ne n_f1_b4).trans (upd_same _ _ _))) _).trans ?_); exact rfl)) ?_
    refine Ops_quiet _ rfl rfl (QO.move rfl rfl) ?_
    have hq := Option.bind_eq_some_iff.1 ho1; clear ho1; obtain ⟨r3, hr3, ho1⟩ := hq
    have hd3 : Del (upd (famH (upd (upd (upd (h) b1 (.own 28 (sqC sq0) 101)) p0 (.own 69 (srcC A_s l_s.length c_s x3) 3)) b4 (.own 28 (sqC r1.1) 101)) 2 1 (ints .i64) g_f1 x2) b5 (.own 29 (rowsC g_f1 x2) (cap_b5 * 1))) p0 (.own 69 (srcC A_s l_s.length c_s x3) 3) (upd (famH (upd (upd (h) b1 (.own 28 (sqC sq0) 101)) b4 (.own 28 (sqC r1.1) 101)) 2 1 (ints .i64) g_f1 x2) b5 (.own 29 (rowsC g_f1 x2) (cap_b5 * 1))) := (Del.there n_b5_p0.ne.symm (Del.thereF n_f1_p0 (Del.there n_b4_p0.ne.symm (Del.here (none_upd n_b1_p0.ne.symm h_p0)))))
    refine Ops_call _ _ rfl rfl (EO.fn rfl Try.func42 rfl rfl (Evs.cons rfl (Evs.cons rfl (Evs.cons rfl Evs.nil)))) (CC.mono (CC.atLe (c_spec_l10DrawSum (h := upd (famH (upd (upd (h) b1 (.own 28 (sqC sq0) 101)) b4 (.own 28 (sqC r1.1) 101)) 2 1 (ints .i64) g_f1 x2) b5 (.own 29 (rowsC g_f1 x2) (cap_b5 * 1))) hr3 (RdS.le hs_s (Le.under (Le.underF (Le.under (Le.under (Le.refl _) hb1) hb4) hf1) hb5)) hd3.none) hd3.le) ?_)
    rintro _ _ ⟨b6, cap_b6, hb6, hk_b6, hc_b6, rfl, rfl⟩
    simp only [upd_noneA, updO_noneA, famH_noneA] at hb6
    obtain ⟨n_b6_p0, n_b6_b5, n_b6_f1, n_b6_b4, n_b6_b1, hb6⟩ := hb6
    refine Ops_loud rfl (LO.slice1 (r := [.slice (some ⟨b6, 0, none⟩) r3.1.length cap_b6]) rfl sz61 sz29 zr29 rfl (by decide) (by decide) rfl rfl rfl rfl (fun b7 hb7 => ?_))
    simp only [upd_noneA, updO_noneA, famH_noneA] at hb7
    obtain ⟨n_b7_b6, n_b7_p0, n_b7_b5, n_b7_f1, n_b7_b4, n_b7_b1, hb7⟩ := hb7
    have hq := chk ho1; clear ho1; obtain ⟨ck1, ho1⟩ := hq
    refine Ops_loud rfl (LO.append2 (ys := [.slice (some ⟨b6, 0, none⟩) r3.1.length cap_b6]) (k' := (x2 ++ [r3.1]).length) (xs' := rowsC (g_f1 ++ [((some b6), cap_b6)]) (x2 ++ [r3.1])) rfl sz61 el29 rfl rfl (Del.drop n_b7_b5.ne (none_upd n_b7_b6.ne (none_upd n_b7_p0.ne (none_famH n_b7_f1 (none_upd n_b7_b4.ne (none_upd n_b7_b1.ne hb7))))) (Del.there n_b6_b5.ne.symm (Del.there n_b5_p0.ne (Del.here (none_famH n_b5_f1 (none_upd n_b5_b4.ne (none_upd n_b5_b1.ne hb5))))))) (by first | assumption | omega | (simp only [List.length_set, List.length_replicate]; first | done | assumption | omega)) (by first | assumption | (simp only [maxLen]; omega)) (by first | rfl | (simp [rowsC_length, rowsA_length, mpC_length, sqC_length, tbC_length, tabI_length, tabB_length, ints_length, plsC_length, trC_length, sqsC_length, strsC_length, boolsC_length, tbB_length, List.length_append, List.length_cons, List.length_nil, List.length_set, List.length_replicate, rep_length]; done) | (simp [rowsC_length, rowsA_length, mpC_length, sqC_length, tbC_length, tabI_length, tabB_length, ints_length, plsC_length, trC_length, sqsC_length, strsC_length, boolsC_length, tbB_length, List.length_append, List.length_cons, List.length_nil, List.length_set, List.length_replicate, rep_length]; omega)) (by first | rfl | (simp [rowsC_length, rowsA_length, mpC_length, sqC_length, tbC_length, tabI_length, tabB_length, ints_length, plsC_length, trC_length, sqsC_length, strsC_length, boolsC_length, tbB_length, List.length_append, List.length_cons, List.length_nil, List.length_set, List.length_replicate, rep_length]; done) | (simp [rowsC_length, rowsA_length, mpC_length, sqC_length, tbC_length, tabI_length, tabB_length, ints_length, plsC_length, trC_length, sqsC_length, strsC_length, boolsC_length, tbB_length, List.length_append, List.length_cons, List.length_nil, List.length_set, List.length_replicate, rep_length]; omega)) (RdS.own (upd_same _ _ _)) (by intro v hv; simp at hv; subst hv; rfl) (by decide) (by omega) (by decide) (by decide) rfl (by first | rfl | (simp [rowsC_length, rowsA_length, mpC_length, sqC_length, tbC_length, tabI_length, tabB_length, ints_length, plsC_length, trC_length, sqsC_length, strsC_length, boolsC_length, tbB_length, List.length_append, List.length_cons, List.length_nil, List.length_set, List.length_replicate, rep_length]; done) | (simp [rowsC_length, rowsA_length, mpC_length, sqC_length, tbC_length, tabI_length, tabB_length, ints_length, plsC_length, trC_length, sqsC_length, strsC_length, boolsC_length, tbB_length, List.length_append, List.length_cons, List.length_nil, List.length_set, List.length_replicate, rep_length]; omega)) (rowsC_snoc (B := (some b6)) (l' := r3.1) (c' := cap_b6) (okf_f1).len) (fun b8 cap_b8 hb8 hk_b8 hc_b8 => ?_))
    simp only [upd_noneA, updO_noneA, famH_noneA] at hb8
    obtain ⟨n_b8_b6, n_b8_p0, n_b8_f1, n_b8_b4, n_b8_b1, hb8⟩ := hb8
    refine Ops_quiet _ rfl rfl (QO.assign rfl rfl) ?_
    refine Ops_nil ?_
    refine blockA_n ?_
    refine thenA_n ?_
    refine wpA_region ?_
    refine Ops_quiet _ rfl rfl (QO.move rfl rfl) ?_
    refine Ops_quiet _ rfl rfl (QO.bin rfl rfl rfl rfl) ?_
    refine Ops_quiet _ rfl rfl (QO.assign rfl rfl) ?_
    refine Ops_nil ?_
    obtain rfl := Option.some.inj ho1
    dsimp only at hk1
    exact thenA_n ⟨k1, Nat.lt_succ_self _, _, _, _, (g_f1 ++ [((some b6), cap_b6)]), b8, cap_b8, hk1, (FrF.snoc (frF_upd n_f1_b4 (frF_upd n_f1_p0 (frF_upd n_f1_b1 hf1))) (frO_some (none_upd n_b6_b4.ne (none_upd n_b6_p0.ne (none_upd n_b6_b1.ne hb6))))), (OkF.snoc okf_f1 (NeF.of n_b6_f1) (OkO.some (by first | assumption | omega | (simp only [List.length_set, List.length_replicate]; first | done | assumption | omega)) (by first | assumption | (simp only [maxLen]; omega)))), (none_famH (NeF.snoc n_b8_f1 (NeO.of ⟨n_b8_b6.ne⟩)) (none_upd n_b8_b4.ne (none_upd n_b8_p0.ne (none_upd n_b8_b1.ne hb8)))), (by first | assumption | (simp; done) | omega), (by first | assumption | (simp only [maxLen]; omega)), (Sub.cons rfl (Sub.cons rfl (Sub.cons rfl (Sub.cons rfl (Sub.cons rfl (Sub.cons rfl Sub.nil)))))), (Le.upd_left (Le.snocRow okf_f1 (Le.famH_left (Le.upd_left (Le.upd_left (Le.upd_left (Le.under (Le.under (Le.under (Le.underF (Le.under (Le.under (Le.refl _) hb1) hb4) hf1) h_p0) hb6) hb8) ((upd_ne _ _ n_b8_b1.ne.symm).trans ((upd_ne _ _ n_b6_b1.ne.symm).trans ((upd_ne _ _ n_b1_p0.ne).trans ((famH_ne n_f1_b1).trans ((upd_ne _ _ n_b4_b1.ne.symm).trans (upd_same _ _ _)))))) (by first | rfl | (simp; done))) ((upd_ne _ _ n_b8_p0.ne.symm).trans ((upd_ne _ _ n_b6_p0.ne.symm).trans (upd_same _ _ _))) (by first | rfl | (simp; done))) ((upd_ne _ _ n_b8_b4.ne.symm).trans ((upd_ne _ _ n_b6_b4.ne.symm).trans ((upd_ne _ _ n_b4_p0.ne).trans ((famH_ne n_f1_b4).trans (upd_same _ _ _))))) (by first | rfl | (simp; done))) okf_f1 (fun i hi => (LkO.there (NeF.neO n_b8_f1 i) (LkO.there (NeF.neO n_b6_f1 i) (LkO.there (NeF.neO n_f1_p0 i) (famH_row okf_f1 hi)))))) (LkO.of ((upd_ne _ _ n_b8_b6.ne.symm).trans (upd_same _ _ _)))) (upd_same _ _ _) (by first | rfl | (simp; done)))⟩
   ·replace ho1 := cond_f ho1 g1
    refine wpA_exit ?_
    refine thenA_e ?_
    refine thenA_e ?_
    obtain rfl := Option.some.inj ho1
    obtain rfl := Option.some.inj hk1
    exact ⟨rfl, _, _, _, g_f1, b5, cap_b5, rfl, (frF_upd n_f1_b4 (frF_upd n_f1_p0 (frF_upd n_f1_b1 hf1))), okf_f1, (none_famH n_b5_f1 (none_upd n_b5_b4.ne (none_upd n_b5_p0.ne (none_upd n_b5_b1.ne hb5)))), (by first | assumption | (simp; done) | omega), (by first | assumption | (simp only [maxLen]; omega)), (Sub.cons rfl (Sub.cons rfl (Sub.cons rfl (Sub.cons rfl (Sub.cons rfl (Sub.cons rfl Sub.nil)))))), (Le.upd_left (Le.famH_left (Le.upd_left (Le.upd_left (Le.upd_left (Le.under (Le.underF (Le.under (Le.under (Le.under (Le.refl _) hb1) h_p0) hb4) hf1) hb5) ((upd_ne _ _ n_b5_b1.ne.symm).trans ((famH_ne n_f1_b1).trans ((upd_ne _ _ n_b4_b1.ne.symm).trans ((upd_ne _ _ n_b1_p0.ne).trans (upd_same _ _ _))))) (by first | rfl | (simp; done))) ((upd_ne _ _ n_b5_p0.ne.symm).trans ((famH_ne n_f1_p0).trans ((upd_ne _ _ n_b4_p0.ne.symm).trans (upd_same _ _ _)))) (by first | rfl | (simp; done))) ((upd_ne _ _ n_b5_b4.ne.symm).trans ((famH_ne n_f1_b4).trans (upd_same _ _ _))) (by first | rfl | (simp; done))) okf_f1 (fun i hi => (LkO.there (NeF.neO n_b5_f1 i) (famH_row okf_f1 hi)))) (upd_same _ _ _) (by first | rfl | (simp; done)))⟩
 ·intro e s' h' hq
  cases R1 with
  | next x => exact hq.elim
  | ret r => exact hq.elim
  | stop x id =>
   obtain ⟨rfl, x4, x5, x6, g_f2, b9, cap_b9, rfl, hf2, okf_f2, hb9, hk_b9, hc_b9, hsub1, hle1⟩ := hq
   try dsimp only at hm
   simp only [frF_updA, frF_updOA] at hf2
   obtain ⟨n_f2_b4, n_f2_p0, n_f2_b1, hf2⟩ := hf2
   simp only [upd_noneA, updO_noneA, famH_noneA] at hb9
   obtain ⟨n_b9_f2, n_b9_b4, n_b9_p0, n_b9_b1, hb9⟩ := hb9
   by_cases hid1 : id = 0
   ·subst hid1
    rw [if_pos rfl] at hm
    refine blockA_s ?_
    refine thenA_n ?_
    refine wpA_weaken hsub1.ok hle1 ?_
    refine wpA_seq ?_
    refine wpA_seq ?_
    refine wpA_region ?_
    refine Ops_quiet _ rfl rfl (QO.move rfl rfl) ?_
    have hq := Option.bind_eq_some_iff.1 hm; clear hm; obtain ⟨r4, hr4, hm⟩ := hq
    have hd4 : Del (upd (famH (upd (upd (upd (h) b1 (.own 28 (sqC sq0) 101)) p0 (.own 69 (srcC A_s l_s.length c_s x6) 3)) b4 (.own 28 (sqC r1.1) 101)) 2 1 (ints .i64) g_f2 x5) b9 (.own 29 (rowsC g_f2 x5) (cap_b9 * 1))) p0 (.own 69 (srcC A_s l_s.length c_s x6) 3) (upd (famH (upd (upd (h) b1 (.own 28 (sqC sq0) 101)) b4 (.own 28 (sqC r1.1) 101)) 2 1 (ints .i64) g_f2 x5) b9 (.own 29 (rowsC g_f2 x5) (cap_b9 * 1))) := (Del.there n_b9_p0.ne.symm (Del.thereF n_f2_p0 (Del.there n_b4_p0.ne.symm (Del.here (none_upd n_b1_p0.ne.symm h_p0)))))
    refine Ops_call _ _ rfl rfl (EO.fn rfl Try.func27 rfl rfl (Evs.cons rfl (Evs.cons rfl Evs.nil))) (CC.mono (CC.atLe (c_spec_l01Next (h := upd (famH (upd (upd (h) b1 (.own 28 (sqC sq0) 101)) b4 (.own 28 (sqC r1.1) 101)) 2 1 (ints .i64) g_f2 x5) b9 (.own 29 (rowsC g_f2 x5) (cap_b9 * 1))) hr4 (RdS.le hs_s (Le.under (Le.underF (Le.under (Le.under (Le.refl _) hb1) hb4) hf2) hb9)) hd4.none) hd4.le) ?_)
    rintro _ _ ⟨rfl, rfl⟩
    refine Ops_nil ?_
    refine thenA_n ?_
    refine wpA_block ?_
    refine wpA_seq ?_
    refine wpA_region ?_
    refine Ops_quiet _ rfl rfl (QO.bin rfl rfl rfl rfl) ?_
    refine Ops_quiet _ rfl rfl (QO.assign rfl rfl) ?_
    refine Ops_nil ?_
    refine thenA_n ?_
    refine wpA_cond rfl (fun g2 => ?_) (fun g2 => ?_)
    ·replace hm := cond_t hm g2
     refine wpA_region ?_
     refine Ops_quiet _ rfl rfl (QO.move rfl rfl) ?_
     refine Ops_loud rfl (LO.slice' [(0, .int .i64 4), (1, .int .i64 1), (2, .int .i64 11)] (r := ints .i64 [4, 1, 11]) rfl sz29 sz2 zr2 (by first | rfl | (simp [rowsC_length, rowsA_length, mpC_length, sqC_length, tbC_length, tabI_length, tabB_length, ints_length, plsC_length, trC_length, sqsC_length, strsC_length, boolsC_length, tbB_length, List.length_append, List.length_cons, List.length_nil, List.length_set, List.length_replicate, rep_length]; done)) (by decide) (by decide) (by decide) rfl rfl (by first | rfl | (simp [rowsC_length, rowsA_length, mpC_length, sqC_length, tbC_length, tabI_length, tabB_length, ints_length, plsC_length, trC_length, sqsC_length, strsC_length, boolsC_length, tbB_length, List.length_append, List.length_cons, List.length_nil, List.length_set, List.length_replicate, rep_length]; done)) rfl (fun b10 hb10 => ?_))
     simp only [upd_noneA, updO_noneA, famH_noneA] at hb10
     obtain ⟨n_b10_p0, n_b10_b9, n_b10_f2, n_b10_b4, n_b10_b1, hb10⟩ := hb10
     have hq := Option.bind_eq_some_iff.1 hm; clear hm; obtain ⟨r5, hr5, hm⟩ := hq
     have hd5 : Del (upd (upd (upd (famH (upd (upd (h) b1 (.own 28 (sqC sq0) 101)) b4 (.own 28 (sqC r1.1) 101)) 2 1 (ints .i64) g_f2 x5) b9 (.own 29 (rowsC g_f2 x5) (cap_b9 * 1))) p0 (.own 69 (srcC A_s l_s.length c_s r4.2) 3)) b10 (.own 2 (ints .i64 [4, 1, 11]) (3 * 1))) p0 (.own 69 (srcC A_s l_s.length c_s r4.2) 3) (upd (upd (famH (upd (upd (h) b1 (.own 28 (sqC sq0) 101)) b4 (.own 28 (sqC r1.1) 101)) 2 1 (ints .i64) g_f2 x5) b9 (.own 29 (rowsC g_f2 x5) (cap_b9 * 1))) b10 (.own 2 (ints .i64 [4, 1, 11]) (3 * 1))) := (Del.there n_b10_p0.ne.symm (Del.here (none_upd n_b9_p0.ne.symm (none_famH n_f2_p0 (none_upd n_b4_p0.ne.symm (none_upd n_b1_p0.ne.symm h_p0))))))
     refine Ops_call _ _ rfl rfl (EO.fn rfl Try.func26 rfl rfl (Evs.cons rfl (Evs.cons rfl Evs.nil))) (CC.mono (CC.atLe (c_spec_l01Pick (l1 := [4, 1, 11]) (A1 := some ⟨b10, 0, none⟩) (c1 := 3) (h := upd (upd (famH (upd (upd (h) b1 (.own 28 (sqC sq0) 101)) b4 (.own 28 (sqC r1.1) 101)) 2 1 (ints .i64) g_f2 x5) b9 (.own 29 (rowsC g_f2 x5) (cap_b9 * 1))) b10 (.own 2 (ints .i64 [4, 1, 11]) (3 * 1))) hr5 (RdS.le hs_s (Le.under (Le.under (Le.underF (Le.under (Le.under (Le.refl _) hb1) hb4) hf2) hb9) hb10)) (RdS.own (upd_same _ _ _)) hd5.none) hd5.le) ?_)
     rintro _ _ ⟨rfl, rfl⟩
     refine Ops_quiet _ rfl rfl (QO.assign rfl rfl) ?_
     refine Ops_nil ?_
     refine blockA_n ?_
     refine thenA_n ?_
     refine wpA_seq ?_
     refine wpA_region ?_
     refine Ops_quiet _ rfl rfl (QO.loadRow (cs := sqC r1.1) (hr := (rdAll ((upd_ne _ _ n_b4_p0.ne).trans ((upd_ne _ _ n_b10_b4.ne.symm).trans ((upd_ne _ _ n_b9_b4.ne.symm).trans ((famH_ne n_f2_b4).trans (upd_same _ _ _))))))) rfl sz28 rfl rfl (sqC_length _)) ?_
     refine Ops_quiet _ rfl rfl (QO.move rfl rfl) ?_
     refine Ops_quiet _ rfl rfl (QO.move rfl rfl) ?_
     refine Ops_loud rfl (LO.storeAll (cs := sqC r1.1) rfl sz28 rfl rfl (sqC_one _) (sqC_length _) ((upd_ne _ _ n_b1_p0.ne).trans ((upd_ne _ _ n_b10_b1.ne.symm).trans ((upd_ne _ _ n_b9_b1.ne.symm).trans ((famH_ne n_f2_b1).trans ((upd_ne _ _ n_b4_b1.ne.symm).trans (upd_same _ _ _)))))) (sqC_length _) (Chg.there n_b1_p0.ne.symm (Chg.there n_b10_b1.ne (Chg.there n_b9_b1.ne (Chg.thereF n_f2_b1 (Chg.there n_b4_b1.ne Chg.here))))) rfl ?_)
     refine Ops_quiet _ rfl rfl (QO.assign rfl rfl) ?_
     refine Ops_quiet _ rfl rfl (QO.assign rfl rfl) ?_
     refine Ops_nil ?_
     refine thenA_n ?_
     refine wpA_ret ?_
     obtain rfl := Option.some.inj hm
     exact retA_r (h2 := upd (famH (upd (h) p0 (.own 69 (srcC A_s l_s.length c_s r5.2) 3)) 2 1 (ints .i64) g_f2 x5) b9 (.own 29 (rowsC g_f2 x5) (cap_b9 * 1))) (Res.three rfl (res1.row (cs := sqC r1.1) (hr := (rdAll ((upd_ne _ _ n_b1_p0.ne).trans ((upd_ne _ _ n_b10_b1.ne.symm).trans ((upd_ne _ _ n_b9_b1.ne.symm).trans ((famH_ne n_f2_b1).trans ((upd_ne _ _ n_b4_b1.ne.symm).trans (upd_same _ _ _)))))))) sz28 rfl rfl (sqC_length _)) (rfl) (rfl)) (Le.upd_left (Le.famH_left (Le.upd_left (Le.under (Le.under (Le.under (Le.underF (Le.under (Le.under (Le.refl _) hb1) hb4) hf2) hb9) hb10) h_p0) (upd_same _ _ _) (by first | rfl | (simp; done))) okf_f2 (fun i hi => (LkO.there (NeF.neO n_f2_p0 i) (LkO.there (NeF.neO n_b10_f2 i) (LkO.there (NeF.neO n_b9_f2 i) (famH_row okf_f2 hi)))))) ((upd_ne _ _ n_b9_p0.ne).trans ((upd_ne _ _ n_b10_b9.ne.symm).trans (upd_same _ _ _))) (by first | rfl | (simp; done))) ⟨g_f2, b9, cap_b9, (frF_upd n_f2_p0 hf2), okf_f2, (none_famH n_b9_f2 (none_upd n_b9_p0.ne hb9)), (by first | assumption | omega | (simp only [List.length_set, List.length_replicate]; first | done | assumption | omega)), (by first | assumption | (simp only [maxLen]; omega)), rfl, rfl⟩
    ·replace hm := cond_f hm g2
     refine wpA_seq ?_
     refine wpA_region ?_
     refine Ops_quiet _ rfl rfl (QO.bin rfl rfl rfl rfl) ?_
     refine Ops_quiet _ rfl rfl (QO.assign rfl rfl) ?_
     refine Ops_nil ?_
     refine thenA_n ?_
     refine wpA_cond rfl (fun g3 => ?_) (fun g3 => ?_)
     ·replace hm := cond_t hm g3
      refine wpA_seq ?_
      refine wpA_region ?_
      refine Ops_quiet _ rfl rfl (QO.move rfl rfl) ?_
      refine Ops_quiet _ rfl rfl (QO.lenSl rfl sz61 rfl) ?_
      refine Ops_quiet _ rfl rfl (QO.bin rfl rfl rfl rfl) ?_
      refine Ops_nil ?_
      refine thenA_n ?_
      refine wpA_cond rfl (fun g4 => ?_) (fun g4 => ?_)
      ·replace hm := cond_t hm g4
       refine wpA_region ?_
       refine Ops_quiet _ rfl rfl (QO.move rfl rfl) ?_
       refine Ops_quiet _ rfl rfl (QO.move rfl rfl) ?_
       have hq := chk hm; clear hm; obtain ⟨ck2, hm⟩ := hq
       refine Ops_quiet _ rfl rfl (QO.idxSl rfl sz61 sz29 rfl rfl (by omega) (by omega)) ?_
       refine Ops_quiet (.slice (adO (g_f2.getD 0 (none, 0)).1) (x5.getD 0 []).length (g_f2.getD 0 (none, 0)).2) rfl rfl (QO.load rfl sz29 rfl rfl (by (refine (rd_own ((upd_ne _ _ n_b9_p0.ne).trans (upd_same _ _ _)) _).trans ?_); exact rowsC_get (by omega))) ?_
       refine Ops_loud rfl (LO.slice1 (r := ints .i64 [0]) rfl sz29 sz2 zr2 (by first | rfl | (simp [rowsC_length, rowsA_length, mpC_length, sqC_length, tbC_length, tabI_length, tabB_length, ints_length, plsC_length, trC_length, sqsC_length, strsC_length, boolsC_length, tbB_length, List.length_append, List.length_cons, List.length_nil, List.length_set, List.length_replicate, rep_length]; done)) (by decide) (by decide) rfl rfl (by first | rfl | (simp [rowsC_length, rowsA_length, mpC_length, sqC_length, tbC_length, tabI_length, tabB_length, ints_length, plsC_length, trC_length, sqsC_length, strsC_length, boolsC_length, tbB_length, List.length_append, List.length_cons, List.length_nil, List.length_set, List.length_replicate, rep_length]; done)) rfl (fun b11 hb11 => ?_))
       simp only [upd_noneA, updO_noneA, famH_noneA] at hb11
       obtain ⟨n_b11_p0, n_b11_b9, n_b11_f2, n_b11_b4, n_b11_b1, hb11⟩ := hb11
       have hq := chk hm; clear hm; obtain ⟨ck3, hm⟩ := hq
       refine Ops_loud rfl (LO.appendO (xs := ints .i64 (x5.getD 0 [])) (ys := ints .i64 [0]) (k' := ((x5.getD 0 []) ++ [0]).length) (xs' := ints .i64 ((x5.getD 0 []) ++ [0])) rfl sz29 el2 rfl rfl (show DelO _ _ (.own 2 (ints .i64 (x5.getD 0 [])) ((g_f2.getD 0 (none, 0)).2 * 1)) _ from (DelO.drop (NeF.neO n_b11_f2 0) (none_upd n_b11_p0.ne (none_upd n_b11_b9.ne (none_famH (NeF.hole n_b11_f2 0) (none_upd n_b11_b4.ne (none_upd n_b11_b1.ne hb11))))) (DelO.there (NeF.neO n_f2_p0 0) (DelO.there (NeF.neO n_b9_f2 0) (DelO.row okf_f2 (frF_upd n_f2_b4 (frF_upd n_f2_b1 hf2)) (by omega)))))) (okf_f2.ok 0 (by omega)) (by first | rfl | (simp [rowsC_length, rowsA_length, mpC_length, sqC_length, tbC_length, tabI_length, tabB_length, ints_length, plsC_length, trC_length, sqsC_length, strsC_length, boolsC_length, tbB_length, List.length_append, List.length_cons, List.length_nil, List.length_set, List.length_replicate, rep_length]; done) | (simp [rowsC_length, rowsA_length, mpC_length, sqC_length, tbC_length, tabI_length, tabB_length, ints_length, plsC_length, trC_length, sqsC_length, strsC_length, boolsC_length, tbB_length, List.length_append, List.length_cons, List.length_nil, List.length_set, List.length_replicate, rep_length]; omega)) (by first | rfl | (simp [rowsC_length, rowsA_length, mpC_length, sqC_length, tbC_length, tabI_length, tabB_length, ints_length, plsC_length, trC_length, sqsC_length, strsC_length, boolsC_length, tbB_length, List.length_append, List.length_cons, List.length_nil, List.length_set, List.length_replicate, rep_length]; done) | (simp [rowsC_length, rowsA_length, mpC_length, sqC_length, tbC_length, tabI_length, tabB_length, ints_length, plsC_length, trC_length, sqsC_length, strsC_length, boolsC_length, tbB_length, List.length_append, List.length_cons, List.length_nil, List.length_set, List.length_replicate, rep_length]; omega)) (RdS.own (upd_same _ _ _)) (by first | assumption | exact tabI_one _ _ _ | exact tbC_one _ | exact sqC_one _ | exact tabB_one _ _ | exact ints_one _ _ | exact plsC_one _ | exact strsC_one _ | exact srcC_one _ _ _ _ | (intro v hv; simp at hv; subst hv; rfl)) (fun _ => by decide) (by omega) (by decide) (by decide) rfl (by first | rfl | (simp [rowsC_length, rowsA_length, mpC_length, sqC_length, tbC_length, tabI_length, tabB_length, ints_length, plsC_length, trC_length, sqsC_length, strsC_length, boolsC_length, tbB_length, List.length_append, List.length_cons, List.length_nil, List.length_set, List.length_replicate, rep_length]; done) | (simp [rowsC_length, rowsA_length, mpC_length, sqC_length, tbC_length, tabI_length, tabB_length, ints_length, plsC_length, trC_length, sqsC_length, strsC_length, boolsC_length, tbB_length, List.length_append, List.length_cons, List.length_nil, List.length_set, List.length_replicate, rep_length]; omega)) (by first | rfl | (simp [ints, plsC, sqsC, boolsC, strsC]; done)) (fun b12 cap_b12 hb12 hk_b12 hc_b12 => ?_))
       have n_b1_f3 := n_f2_b1.hole 0
       have n_b4_f3 := n_f2_b4.hole 0
       have n_b9_f3 := n_b9_f2.hole 0
       have n_p0_f3 := n_f2_p0.hole 0
       have hf3 := hf2.hole 0
       simp only [upd_noneA, updO_noneA, famH_noneA] at hb12
       obtain ⟨n_b12_p0, n_b12_b9, n_b12_f3, n_b12_b4, n_b12_b1, hb12⟩ := hb12
       have hq := chk hm; clear hm; obtain ⟨ck4, hm⟩ := hq
       refine Ops_quiet _ rfl rfl (QO.idxSl rfl sz61 sz29 rfl rfl (by omega) (by omega)) ?_
       refine Ops_loud rfl (LO.store' (xs' := rowsC (g_f2.set 0 (some b12, cap_b12)) (x5.set 0 ((x5.getD 0 []) ++ [0]))) rfl sz29 rfl rfl rfl ((upd_ne _ _ n_b12_b9.ne.symm).trans ((upd_ne _ _ n_b9_p0.ne).trans (upd_same _ _ _))) (by first | ((try simp only [rowsC_length, rowsA_length, mpC_length, sqC_length, tbC_length, tabI_length, tabB_length, ints_length, plsC_length, trC_length, sqsC_length, strsC_length, boolsC_length, tbB_length, List.length_append, List.length_cons, List.length_nil, List.length_set, List.length_replicate, rep_length]); first | omega | decide) | exact Nat.le_of_ble_eq_true rfl) (rowsC_set (i := 0) (B := some b12) (l' := ((x5.getD 0 []) ++ [0])) (c' := cap_b12) okf_f2.len (by omega)) (Chg.there n_b12_b9.ne (Chg.there n_b9_p0.ne.symm Chg.here)) rfl ?_)
       refine Ops_nil ?_
       refine blockA_n ?_
       refine thenA_n ?_
       refine wpA_seq ?_
       refine wpA_region ?_
       refine Ops_quiet _ rfl rfl (QO.loadRow (cs := sqC r1.1) (hr := (rdAll ((upd_ne _ _ n_b12_b4.ne.symm).trans ((upd_ne _ _ n_b4_p0.ne).trans ((upd_ne _ _ n_b9_b4.ne.symm).trans ((famH_ne n_b4_f3).trans (upd_same _ _ _))))))) rfl sz28 rfl rfl (sqC_length _)) ?_
       refine Ops_quiet _ rfl rfl (QO.move rfl rfl) ?_
       refine Ops_quiet _ rfl rfl (QO.move rfl rfl) ?_
       refine Ops_loud rfl (LO.storeAll (cs := sqC r1.1) rfl sz28 rfl rfl (sqC_one _) (sqC_length _) ((upd_ne _ _ n_b12_b1.ne.symm).trans ((upd_ne _ _ n_b1_p0.ne).trans ((upd_ne _ _ n_b9_b1.ne.symm).trans ((famH_ne n_b1_f3).trans ((upd_ne _ _ n_b4_b1.ne.symm).trans (upd_same _ _ _)))))) (sqC_length _) (Chg.there n_b12_b1.ne (Chg.there n_b1_p0.ne.symm (Chg.there n_b9_b1.ne (Chg.thereF n_b1_f3 (Chg.there n_b4_b1.ne Chg.here))))) rfl ?_)
       refine Ops_quiet _ rfl rfl (QO.assign rfl rfl) ?_
       refine Ops_quiet _ rfl rfl (QO.assign rfl rfl) ?_
       refine Ops_nil ?_
       refine thenA_n ?_
       refine wpA_ret ?_
       obtain rfl := Option.some.inj hm
       exact retA_r (h2 := upd (famH (upd (h) p0 (.own 69 (srcC A_s l_s.length c_s r4.2) 3)) 2 1 (ints .i64) (g_f2.set 0 (some b12, cap_b12)) (x5.set 0 ((x5.getD 0 []) ++ [0]))) b9 (.own 29 (rowsC (g_f2.set 0 (some b12, cap_b12)) (x5.set 0 ((x5.getD 0 []) ++ [0]))) (cap_b9 * 1))) (Res.three rfl (res1.row (cs := sqC r1.1) (hr := (rdAll ((upd_ne _ _ n_b12_b1.ne.symm).trans ((upd_ne _ _ n_b1_p0.ne).trans ((upd_ne _ _ n_b9_b1.ne.symm).trans ((famH_ne n_b1_f3).trans ((upd_ne _ _ n_b4_b1.ne.symm).trans (upd_same _ _ _)))))))) sz28 rfl rfl (sqC_length _)) (rfl) (rfl)) (Le.upd_left (Le.putRow okf_f2 (by omega) (NeF.of n_b12_f3) (Le.famH_hole (Le.upd_left (Le.under (Le.under (Le.under (Le.underF (Le.under (Le.under (Le.refl _) hb1) hb4) hf3) hb9) h_p0) hb12) ((upd_ne _ _ n_b12_p0.ne.symm).trans (upd_same _ _ _)) (by first | rfl | (simp; done))) okf_f2 (fun i hi hne => (LkO.there (NeF.neOH n_b12_f3 hne) (LkO.there (NeF.neOH n_p0_f3 hne) (LkO.there (NeF.neOH n_b9_f3 hne) (famH_rowH okf_f2 hi hne)))))) (LkO.of (upd_same _ _ _))) ((upd_ne _ _ n_b12_b9.ne.symm).trans ((upd_ne _ _ n_b9_p0.ne).trans (upd_same _ _ _))) (by first | rfl | (simp; done))) ⟨(g_f2.set 0 (some b12, cap_b12)), b9, cap_b9, (FrF.put (frF_upd n_p0_f3 hf3) (frO_some (none_upd n_b12_p0.ne hb12))), (NeOF.putRow okf_f2 (by omega) (NeF.of n_b12_f3) (OkO.some (by first | assumption | omega | (simp only [List.length_set, List.length_replicate]; first | done | assumption | omega)) (by first | assumption | (simp only [maxLen]; omega)))), (none_famH (NeF.put n_b9_f3 (NeO.of ⟨n_b12_b9.ne.symm⟩)) (none_upd n_b9_p0.ne hb9)), (by first | assumption | omega | (simp only [List.length_set, List.length_replicate]; first | done | assumption | omega)), (by first | assumption | (simp only [maxLen]; omega)), (by first | rfl | simp only [List.length_set]), rfl⟩
      ·replace hm := cond_f hm g4
       refine wpA_skip ?_
       refine blockA_n ?_
       refine thenA_n ?_
       refine wpA_seq ?_
       refine wpA_region ?_
       refine Ops_quiet _ rfl rfl (QO.loadRow (cs := sqC r1.1) (hr := (rdAll ((upd_ne _ _ n_b4_p0.ne).trans ((upd_ne _ _ n_b9_b4.ne.symm).trans ((famH_ne n_f2_b4).trans (upd_same _ _ _)))))) rfl sz28 rfl rfl (sqC_length _)) ?_
       refine Ops_quiet _ rfl rfl (QO.move rfl rfl) ?_
       refine Ops_quiet _ rfl rfl (QO.move rfl rfl) ?_
       refine Ops_loud rfl (LO.storeAll (cs := sqC r1.1) rfl sz28 rfl rfl (sqC_one _) (sqC_length _) ((upd_ne _ _ n_b1_p0.ne).trans ((upd_ne _ _ n_b9_b1.ne.symm).trans ((famH_ne n_f2_b1).trans ((upd_ne _ _ n_b4_b1.ne.symm).trans (upd_same _ _ _))))) (sqC_length _) (Chg.there n_b1_p0.ne.symm (Chg.there n_b9_b1.ne (Chg.thereF n_f2_b1 (Chg.there n_b4_b1.ne Chg.here)))) rfl ?_)
       refine Ops_quiet _ rfl rfl (QO.assign rfl rfl) ?_
       refine Ops_quiet _ rfl rfl (QO.assign rfl rfl) ?_
       refine Ops_nil ?_
       refine thenA_n ?_
       refine wpA_ret ?_
       obtain rfl := Option.some.inj hm
       exact retA_r (h2 := upd (famH (upd (h) p0 (.own 69 (srcC A_s l_s.length c_s r4.2) 3)) 2 1 (ints .i64) g_f2 x5) b9 (.own 29 (rowsC g_f2 x5) (cap_b9 * 1))) (Res.three rfl (res1.row (cs := sqC r1.1) (hr := (rdAll ((upd_ne _ _ n_b1_p0.ne).trans ((upd_ne _ _ n_b9_b1.ne.symm).trans ((famH_ne n_f2_b1).trans ((upd_ne _ _ n_b4_b1.ne.symm).trans (upd_same _ _ _))))))) sz28 rfl rfl (sqC_length _)) (rfl) (rfl)) (Le.upd_left (Le.famH_left (Le.upd_left (Le.under (Le.under (Le.underF (Le.under (Le.under (Le.refl _) hb1) hb4) hf2) hb9) h_p0) (upd_same _ _ _) (by first | rfl | (simp; done))) okf_f2 (fun i hi => (LkO.there (NeF.neO n_f2_p0 i) (LkO.there (NeF.neO n_b9_f2 i) (famH_row okf_f2 hi))))) ((upd_ne _ _ n_b9_p0.ne).trans (upd_same _ _ _)) (by first | rfl | (simp; done))) ⟨g_f2, b9, cap_b9, (frF_upd n_f2_p0 hf2), okf_f2, (none_famH n_b9_f2 (none_upd n_b9_p0.ne hb9)), (by first | assumption | omega | (simp only [List.length_set, List.length_replicate]; first | done | assumption | omega)), (by first | assumption | (simp only [maxLen]; omega)), rfl, rfl⟩
     ·replace hm := cond_f hm g3
      refine wpA_seq ?_
      refine wpA_region ?_
      refine Ops_quiet _ rfl rfl (QO.bin rfl rfl rfl rfl) ?_
      refine Ops_quiet _ rfl rfl (QO.assign rfl rfl) ?_
      refine Ops_nil ?_
      refine thenA_n ?_
      refine wpA_cond rfl (fun g5 => ?_) (fun g5 => ?_)
      ·replace hm := cond_t hm g5
       refine wpA_seq ?_
       refine wpA_region ?_
       refine Ops_quiet _ rfl rfl (QO.move rfl rfl) ?_
       refine Ops_quiet _ rfl rfl (QO.lenSl rfl sz61 rfl) ?_
       refine Ops_quiet _ rfl rfl (QO.bin rfl rfl rfl rfl) ?_
       refine Ops_quiet _ rfl rfl (QO.move rfl rfl) ?_
       refine Ops_case 53 rfl (fun g6 => ?_) (fun g6 => ?_)
       ·replace hm := cond_t hm g6
        refine Ops_quiet _ rfl rfl (QO.move rfl rfl) ?_
        have hq := chk hm; clear hm; obtain ⟨ck5, hm⟩ := hq
        refine Ops_quiet _ rfl rfl (QO.idxSl rfl sz61 sz29 rfl rfl (by omega) (by omega)) ?_
        refine Ops_quiet (.slice (adO (g_f2.getD 0 (none, 0)).1) (x5.getD 0 []).length (g_f2.getD 0 (none, 0)).2) rfl rfl (QO.load rfl sz29 rfl rfl (by (refine (rd_own ((upd_ne _ _ n_b9_p0.ne).trans (upd_same _ _ _)) _).trans ?_); exact rowsC_get (by omega))) ?_
        refine Ops_quiet _ rfl rfl (QO.lenSl rfl sz29 rfl) ?_
        refine Ops_quiet _ rfl rfl (QO.bin rfl rfl rfl rfl) ?_
        refine Ops_quiet _ rfl rfl (QO.pick_t rfl rfl rfl) ?_
        refine Ops_nil ?_
        refine thenA_n ?_
        refine wpA_cond rfl (fun g7 => ?_) (fun g7 => ?_)
        ·replace hm := cond_t hm g7
         refine wpA_seq ?_
         refine wpA_region ?_
         refine Ops_quiet _ rfl rfl (QO.move rfl rfl) ?_
         have hq := chk hm; clear hm; obtain ⟨ck6, hm⟩ := hq
         refine Ops_quiet _ rfl rfl (QO.idxSl rfl sz61 sz29 rfl rfl (by omega) (by omega)) ?_
         refine Ops_quiet (.slice (adO (g_f2.getD 0 (none, 0)).1) (x5.getD 0 []).length (g_f2.getD 0 (none, 0)).2) rfl rfl (QO.load rfl sz29 rfl rfl (by (refine (rd_own ((upd_ne _ _ n_b9_p0.ne).trans (upd_same _ _ _)) _).trans ?_); exact rowsC_get (by omega))) ?_
         refine Ops_quiet _ rfl rfl (QO.assign rfl rfl) ?_
         refine Ops_nil ?_
         refine thenA_n ?_
         refine wpA_region ?_
         refine Ops_quiet _ rfl rfl (QO.move rfl rfl) ?_
         refine Ops_quiet _ rfl rfl (QO.move rfl rfl) ?_
         have hq := chk hm; clear hm; obtain ⟨ck7, hm⟩ := hq
         obtain ⟨b13, he_b13⟩ := (okf_f2.ok 0 (by omega)).ex (by omega)
         refine Ops_quiet _ rfl rfl (QO.idxSl rfl sz29 sz2 (congrArg (fun B => some (Value.slice (adO B) ((x5.getD 0 []).length) ((g_f2.getD 0 (none, 0)).2))) he_b13) rfl (by omega) (by omega)) ?_
         refine Ops_loud rfl (LO.store' (xs' := ints .i64 ((x5.getD 0 []).set 0 r2.1)) rfl sz2 rfl rfl rfl ((LkO.there (NeF.neO n_f2_p0 0) (LkO.there (NeF.neO n_b9_f2 0) (famH_row okf_f2 (by omega)))).lk _ he_b13) (by first | ((try simp only [rowsC_length, rowsA_length, mpC_length, sqC_length, tbC_length, tabI_length, tabB_length, ints_length, plsC_length, trC_length, sqsC_length, strsC_length, boolsC_length, tbB_length, List.length_append, List.length_cons, List.length_nil, List.length_set, List.length_replicate, rep_length]); first | omega | decide) | exact Nat.le_of_ble_eq_true rfl) ints_set01 (Chg.there (NeF.nei n_f2_p0 he_b13) (Chg.there (NeF.nei n_b9_f2 he_b13) (Chg.eqn (famH_set okf_f2 (by omega) he_b13)))) rfl ?_)
         have okf_1 := okf_f2.setrow (i := 0) (l' := ((x5.getD 0 []).set 0 r2.1)) (by simp)
         refine Ops_nil ?_
         refine blockA_n ?_
         refine thenA_n ?_
         refine wpA_seq ?_
         refine wpA_region ?_
         refine Ops_quiet _ rfl rfl (QO.loadRow (cs := sqC r1.1) (hr := (rdAll ((upd_ne _ _ n_b4_p0.ne).trans ((upd_ne _ _ n_b9_b4.ne.symm).trans ((famH_ne n_f2_b4).trans (upd_same _ _ _)))))) rfl sz28 rfl rfl (sqC_length _)) ?_
         refine Ops_quiet _ rfl rfl (QO.move rfl rfl) ?_
         refine Ops_quiet _ rfl rfl (QO.move rfl rfl) ?_
         refine Ops_loud rfl (LO.storeAll (cs := sqC r1.1) rfl sz28 rfl rfl (sqC_one _) (sqC_length _) ((upd_ne _ _ n_b1_p0.ne).trans ((upd_ne _ _ n_b9_b1.ne.symm).trans ((famH_ne n_f2_b1).trans ((upd_ne _ _ n_b4_b1.ne.symm).trans (upd_same _ _ _))))) (sqC_length _) (Chg.there n_b1_p0.ne.symm (Chg.there n_b9_b1.ne (Chg.thereF n_f2_b1 (Chg.there n_b4_b1.ne Chg.here)))) rfl ?_)
         refine Ops_quiet _ rfl rfl (QO.assign rfl rfl) ?_
         refine Ops_quiet _ rfl rfl (QO.assign rfl rfl) ?_
         refine Ops_nil ?_
         refine thenA_n ?_
         refine wpA_ret ?_
         obtain rfl := Option.some.inj hm
         exact retA_r (h2 := upd (famH (upd (h) p0 (.own 69 (srcC A_s l_s.length c_s r4.2) 3)) 2 1 (ints .i64) g_f2 (x5.set 0 ((x5.getD 0 []).set 0 r2.1))) b9 (.own 29 (rowsC g_f2 (x5.set 0 ((x5.getD 0 []).set 0 r2.1))) (cap_b9 * 1))) (Res.three rfl (res1.row (cs := sqC r1.1) (hr := (rdAll ((upd_ne _ _ n_b1_p0.ne).trans ((upd_ne _ _ n_b9_b1.ne.symm).trans ((famH_ne n_f2_b1).trans ((upd_ne _ _ n_b4_b1.ne.symm).trans (upd_same _ _ _))))))) sz28 rfl rfl (sqC_length _)) (rfl) (rfl)) (Le.upd_left (Le.famH_left (Le.upd_left (Le.under (Le.under (Le.underF (Le.under (Le.under (Le.refl _) hb1) hb4) hf2) hb9) h_p0) (upd_same _ _ _) (by first | rfl | (simp; done))) okf_1 (fun i hi => (LkO.there (NeF.neO n_f2_p0 i) (LkO.there (NeF.neO n_b9_f2 i) (famH_row okf_1 hi))))) ((upd_ne _ _ n_b9_p0.ne).trans (upd_same _ _ _)) (by first | rfl | (simp only [rowsC_setlen (ll := x5) (i := 0) (l' := ((x5.getD 0 []).set 0 r2.1)) (List.length_set)]) | (rw [rowsC_setlen (ll := x5) (i := 0) (l' := ((x5.getD 0 []).set 0 r2.1)) (List.length_set)]))) ⟨g_f2, b9, cap_b9, (frF_upd n_f2_p0 hf2), okf_1, (none_famH n_b9_f2 (none_upd n_b9_p0.ne hb9)), (by first | assumption | omega | (simp only [List.length_set, List.length_replicate]; first | done | assumption | omega)), (by first | assumption | (simp only [maxLen]; omega)), (by first | rfl | simp only [List.length_set]), rfl⟩
        ·replace hm := cond_f hm g7
         refine wpA_skip ?_
         refine blockA_n ?_
         refine thenA_n ?_
         refine wpA_seq ?_
         refine wpA_region ?_
         refine Ops_quiet _ rfl rfl (QO.loadRow (cs := sqC r1.1) (hr := (rdAll ((upd_ne _ _ n_b4_p0.ne).trans ((upd_ne _ _ n_b9_b4.ne.symm).trans ((famH_ne n_f2_b4).trans (upd_same _ _ _)))))) rfl sz28 rfl rfl (sqC_length _)) ?_
         refine Ops_quiet _ rfl rfl (QO.move rfl rfl) ?_
         refine Ops_quiet _ rfl rfl (QO.move rfl rfl) ?_
         refine Ops_loud rfl (LO.storeAll (cs := sqC r1.1) rfl sz28 rfl rfl (sqC_one _) (sqC_length _) ((upd_ne _ _ n_b1_p0.ne).trans ((upd_ne _ _ n_b9_b1.ne.symm).trans ((famH_ne n_f2_b1).trans ((upd_ne _ _ n_b4_b1.ne.symm).trans (upd_same _ _ _))))) (sqC_length _) (Chg.there n_b1_p0.ne.symm (Chg.there n_b9_b1.ne (Chg.thereF n_f2_b1 (Chg.there n_b4_b1.ne Chg.here)))) rfl ?_)
         refine Ops_quiet _ rfl rfl (QO.assign rfl rfl) ?_
         refine Ops_quiet _ rfl rfl (QO.assign rfl rfl) ?_
         refine Ops_nil ?_
         refine thenA_n ?_
         refine wpA_ret ?_
         obtain rfl := Option.some.inj hm
         exact retA_r (h2 := upd (famH (upd (h) p0 (.own 69 (srcC A_s l_s.length c_s r4.2) 3)) 2 1 (ints .i64) g_f2 x5) b9 (.own 29 (rowsC g_f2 x5) (cap_b9 * 1))) (Res.three rfl (res1.row (cs := sqC r1.1) (hr := (rdAll ((upd_ne _ _ n_b1_p0.ne).trans ((upd_ne _ _ n_b9_b1.ne.symm).trans ((famH_ne n_f2_b1).trans ((upd_ne _ _ n_b4_b1.ne.symm).trans (upd_same _ _ _))))))) sz28 rfl rfl (sqC_length _)) (rfl) (rfl)) (Le.upd_left (Le.famH_left (Le.upd_left (Le.under (Le.under (Le.underF (Le.under (Le.under (Le.refl _) hb1) hb4) hf2) hb9) h_p0) (upd_same _ _ _) (by first | rfl | (simp; done))) okf_f2 (fun i hi => (LkO.there (NeF.neO n_f2_p0 i) (LkO.there (NeF.neO n_b9_f2 i) (famH_row okf_f2 hi))))) ((upd_ne _ _ n_b9_p0.ne).trans (upd_same _ _ _)) (by first | rfl | (simp; done))) ⟨g_f2, b9, cap_b9, (frF_upd n_f2_p0 hf2), okf_f2, (none_famH n_b9_f2 (none_upd n_b9_p0.ne hb9)), (by first | assumption | omega | (simp only [List.length_set, List.length_replicate]; first | done | assumption | omega)), (by first | assumption | (simp only [maxLen]; omega)), rfl, rfl⟩
       ·replace hm := cond_f hm g6
        refine Ops_skip rfl rfl ?_
        refine Ops_skip rfl rfl ?_
        refine Ops_skip rfl rfl ?_
        refine Ops_skip rfl rfl ?_
        refine Ops_skip rfl rfl ?_
        refine Ops_quiet _ rfl rfl (QO.pick_f rfl rfl rfl) ?_
        refine Ops_nil ?_
        refine thenA_n ?_
        refine wpA_cond_f rfl ?_
        refine wpA_skip ?_
        refine blockA_n ?_
        refine thenA_n ?_
        refine wpA_seq ?_
        refine wpA_region ?_
        refine Ops_quiet _ rfl rfl (QO.loadRow (cs := sqC r1.1) (hr := (rdAll ((upd_ne _ _ n_b4_p0.ne).trans ((upd_ne _ _ n_b9_b4.ne.symm).trans ((famH_ne n_f2_b4).trans (upd_same _ _ _)))))) rfl sz28 rfl rfl (sqC_length _)) ?_
        refine Ops_quiet _ rfl rfl (QO.move rfl rfl) ?_
        refine Ops_quiet _ rfl rfl (QO.move rfl rfl) ?_
        refine Ops_loud rfl (LO.storeAll (cs := sqC r1.1) rfl sz28 rfl rfl (sqC_one _) (sqC_length _) ((upd_ne _ _ n_b1_p0.ne).trans ((upd_ne _ _ n_b9_b1.ne.symm).trans ((famH_ne n_f2_b1).trans ((upd_ne _ _ n_b4_b1.ne.symm).trans (upd_same _ _ _))))) (sqC_length _) (Chg.there n_b1_p0.ne.symm (Chg.there n_b9_b1.ne (Chg.thereF n_f2_b1 (Chg.there n_b4_b1.ne Chg.here)))) rfl ?_)
        refine Ops_quiet _ rfl rfl (QO.assign rfl rfl) ?_
        refine Ops_quiet _ rfl rfl (QO.assign rfl rfl) ?_
        refine Ops_nil ?_
        refine thenA_n ?_
        refine wpA_ret ?_
        obtain rfl := Option.some.inj hm
        exact retA_r (h2 := upd (famH (upd (h) p0 (.own 69 (srcC A_s l_s.length c_s r4.2) 3)) 2 1 (ints .i64) g_f2 x5) b9 (.own 29 (rowsC g_f2 x5) (cap_b9 * 1))) (Res.three rfl (res1.row (cs := sqC r1.1) (hr := (rdAll ((upd_ne _ _ n_b1_p0.ne).trans ((upd_ne _ _ n_b9_b1.ne.symm).trans ((famH_ne n_f2_b1).trans ((upd_ne _ _ n_b4_b1.ne.symm).trans (upd_same _ _ _))))))) sz28 rfl rfl (sqC_length _)) (rfl) (rfl)) (Le.upd_left (Le.famH_left (Le.upd_left (Le.under (Le.under (Le.underF (Le.under (Le.under (Le.refl _) hb1) hb4) hf2) hb9) h_p0) (upd_same _ _ _) (by first | rfl | (simp; done))) okf_f2 (fun i hi => (LkO.there (NeF.neO n_f2_p0 i) (LkO.there (NeF.neO n_b9_f2 i) (famH_row okf_f2 hi))))) ((upd_ne _ _ n_b9_p0.ne).trans (upd_same _ _ _)) (by first | rfl | (simp; done))) ⟨g_f2, b9, cap_b9, (frF_upd n_f2_p0 hf2), okf_f2, (none_famH n_b9_f2 (none_upd n_b9_p0.ne hb9)), (by first | assumption | omega | (simp only [List.length_set, List.length_replicate]; first | done | assumption | omega)), (by first | assumption | (simp only [maxLen]; omega)), rfl, rfl⟩
      ·replace hm := cond_f hm g5
       refine wpA_skip ?_
       refine blockA_n ?_
       refine thenA_n ?_
       refine wpA_seq ?_
       refine wpA_region ?_
       refine Ops_quiet _ rfl rfl (QO.loadRow (cs := sqC r1.1) (hr := (rdAll ((upd_ne _ _ n_b4_p0.ne).trans ((upd_ne _ _ n_b9_b4.ne.symm).trans ((famH_ne n_f2_b4).trans (upd_same _ _ _)))))) rfl sz28 rfl rfl (sqC_length _)) ?_
       refine Ops_quiet _ rfl rfl (QO.move rfl rfl) ?_
       refine Ops_quiet _ rfl rfl (QO.move rfl rfl) ?_
       refine Ops_loud rfl (LO.storeAll (cs := sqC r1.1) rfl sz28 rfl rfl (sqC_one _) (sqC_length _) ((upd_ne _ _ n_b1_p0.ne).trans ((upd_ne _ _ n_b9_b1.ne.symm).trans ((famH_ne n_f2_b1).trans ((upd_ne _ _ n_b4_b1.ne.symm).trans (upd_same _ _ _))))) (sqC_length _) (Chg.there n_b1_p0.ne.symm (Chg.there n_b9_b1.ne (Chg.thereF n_f2_b1 (Chg.there n_b4_b1.ne Chg.here)))) rfl ?_)
       refine Ops_quiet _ rfl rfl (QO.assign rfl rfl) ?_
       refine Ops_quiet _ rfl rfl (QO.assign rfl rfl) ?_
       refine Ops_nil ?_
       refine thenA_n ?_
       refine wpA_ret ?_
       obtain rfl := Option.some.inj hm
       exact retA_r (h2 := upd (famH (upd (h) p0 (.own 69 (srcC A_s l_s.length c_s r4.2) 3)) 2 1 (ints .i64) g_f2 x5) b9 (.own 29 (rowsC g_f2 x5) (cap_b9 * 1))) (Res.three rfl (res1.row (cs := sqC r1.1) (hr := (rdAll ((upd_ne _ _ n_b1_p0.ne).trans ((upd_ne _ _ n_b9_b1.ne.symm).trans ((famH_ne n_f2_b1).trans ((upd_ne _ _ n_b4_b1.ne.symm).trans (upd_same _ _ _))))))) sz28 rfl rfl (sqC_length _)) (rfl) (rfl)) (Le.upd_left (Le.famH_left (Le.upd_left (Le.under (Le.under (Le.underF (Le.under (Le.under (Le.refl _) hb1) hb4) hf2) hb9) h_p0) (upd_same _ _ _) (by first | rfl | (simp; done))) okf_f2 (fun i hi => (LkO.there (NeF.neO n_f2_p0 i) (LkO.there (NeF.neO n_b9_f2 i) (famH_row okf_f2 hi))))) ((upd_ne _ _ n_b9_p0.ne).trans (upd_same _ _ _)) (by first | rfl | (simp; done))) ⟨g_f2, b9, cap_b9, (frF_upd n_f2_p0 hf2), okf_f2, (none_famH n_b9_f2 (none_upd n_b9_p0.ne hb9)), (by first | assumption | omega | (simp only [List.length_set, List.length_replicate]; first | done | assumption | omega)), (by first | assumption | (simp only [maxLen]; omega)), rfl, rfl⟩
   rw [if_neg hid1] at hm
   exact absurd hm (by simp)

/-! loop.example/g01195/spec.l10Two -/
theorem c_spec_l10Two {l0 : (List Int)} {A0 : Option Addr} {c0 : Nat} {h : Hp} {r : Sq × Int × (List Int) × (List Int)} (hm : m_spec_l10Two l0 = some r) (hs0 : RdS h A0 (ints .u8 l0)) :
    CC Try.prog 18 #[.slice A0 l0.length c0] (h) (fun v h' => ∃ (b2 : Option Nat) (cap2 : Nat) (b3 : Option Nat) (cap3 : Nat), FrO (h) b2 ∧ OkO b2 r.2.2.1.length cap2 ∧ FrO (updO (h) b2 (.own 2 (ints .i64 r.2.2.1) (cap2 * 1))) b3 ∧ OkO b3 r.2.2.2.length cap3 ∧ v = .tuple #[.agg (sqC r.1).toArray, .int .i64 r.2.1, .slice (adO b2) r.2.2.1.length cap2, .slice (adO b3) r.2.2.2.length cap3] ∧ h' = updO (updO (h) b2 (.own 2 (ints .i64 r.2.2.1) (cap2 * 1))) b3 (.own 2 (ints .i64 r.2.2.2) (cap3 * 1))) := by
 unfold m_spec_l10Two at hm
 refine CC.enter Try.func18 rfl Try.ntmps18 rfl ?_
 refine wpA_seq ?_
 refine wpA_region ?_
 refine Ops_loud rfl (LO.alloc rfl zr28 rfl (fun b1 hb1 => ?_))
 refine Ops_quiet _ rfl rfl (QO.assign rfl rfl) ?_
 refine Ops_quiet _ rfl rfl (QO.assign rfl rfl) ?_
 refine Ops_quiet _ rfl rfl (QO.assign rfl rfl) ?_
 refine Ops_nil ?_
 refine thenA_n ?_
 refine wpA_seq ?_
 refine wpA_region ?_
 refine Ops_quiet _ rfl rfl (QO.move rfl rfl) ?_
 have hq := Option.bind_eq_some_iff.1 hm; clear hm; obtain ⟨r1, hr1, hm⟩ := hq
 refine Ops_call _ _ rfl rfl (EO.fn rfl Try.func24 rfl rfl (Evs.cons rfl Evs.nil)) (CC.mono (c_spec_l01From (l0 := l0) (A0 := A0) (c0 := c0) hr1 (RdS.le hs0 (Le.under (Le.refl _) hb1))) ?_)
 rintro _ _ ⟨b2, hb2, rfl, rfl⟩
 simp only [upd_noneA] at hb2
 obtain ⟨n_b2_b1, hb2⟩ := hb2
 have hq := Option.bind_eq_some_iff.1 hm; clear hm; obtain ⟨r2, hr2, hm⟩ := hq
 have hd1 : Del (upd (upd (h) b1 (.own 28 (sqC sq0) 101)) b2 (.own 69 (srcC A0 l0.length c0 r1) 3)) b2 (.own 69 (srcC A0 l0.length c0 r1) 3) (upd (h) b1 (.own 28 (sqC sq0) 101)) := (Del.here (none_upd n_b2_b1.ne hb2))
 refine Ops_call _ _ rfl rfl (EO.fn rfl Try.func34 rfl rfl (Evs.cons rfl (Evs.cons rfl Evs.nil))) (CC.mono (CC.atLe (c_spec_l10Draw (h := upd (h) b1 (.own 28 (sqC sq0) 101)) hr2 (RdS.le hs0 (Le.under (Le.refl _) hb1)) hd1.none) hd1.le) ?_)
 rintro _ _ ⟨g_f1, b3, cap_b3, hf1, okf_f1, hb3, hk_b3, hc_b3, rfl, rfl⟩
 simp only [frF_updA, frF_updOA] at hf1
 obtain ⟨n_f1_b2, n_f1_b1, hf1⟩ := hf1
 simp only [upd_noneA, updO_noneA, famH_noneA] at hb3
 obtain ⟨n_b3_f1, n_b3_b2, n_b3_b1, hb3⟩ := hb3
 refine Ops_quiet _ rfl rfl (QO.move rfl rfl) ?_
 refine Ops_quiet _ rfl rfl (QO.extract rfl rfl rfl) ?_
 refine Ops_quiet _ rfl rfl (QO.extract rfl rfl rfl) ?_
 refine Ops_quiet _ rfl rfl (QO.extract rfl rfl rfl) ?_
 refine Ops_loud rfl (LO.alloc rfl zr28 rfl (fun b4 hb4 => ?_))
 simp only [upd_noneA, updO_noneA, famH_noneA] at hb4
 obtain ⟨n_b4_b3, n_b4_f1, n_b4_b2, n_b4_b1, hb4⟩ := hb4
 refine Ops_loud rfl (LO.storeAll (cs := sqC r2.1) rfl sz28 rfl rfl (sqC_one _) (sqC_length _) (upd_same _ _ _) (sqC_length _) Chg.here rfl ?_)
 refine Ops_quiet _ rfl rfl (QO.assign rfl rfl) ?_
 refine Ops_quiet _ rfl rfl (QO.assign rfl rfl) ?_
 refine Ops_nil ?_
 refine thenA_n ?_
 refine wpA_seq ?_
 refine wpA_any (upd (upd (famH (upd (h) b2 (.own 69 (srcC A0 l0.length c0 r2.2.2.2) 3)) 2 1 (ints .i64) g_f1 r2.2.2.1) b3 (.own 29 (rowsC g_f1 r2.2.2.1) (cap_b3 * 1))) b4 (.own 28 (sqC r2.1) 101)) [8] [] (by kernel_rfl) (by kernel_rfl) (DW.start ?_)
 refine DW.read' 0 _ rfl (by kernel_rfl) rfl (QO.loadRow (cs := sqC r2.1) (hr := (rdAll (upd_same _ _ _))) rfl sz28 rfl rfl (sqC_length _)) ?_
 refine DW.pure' 1 _ rfl (by kernel_rfl) rfl (fun _ => QO.move rfl rfl) ?_
 refine DW.pure' 2 _ rfl (by kernel_rfl) rfl (fun _ => QO.move rfl rfl) ?_
 have hq := chk hm; clear hm; obtain ⟨ck1, hm⟩ := hq
 refine DW.pure' 3 _ rfl (by kernel_rfl) rfl (fun _ => QO.idxSl rfl sz61 sz29 rfl rfl (by omega) (by omega)) ?_
 refine DW.readK' 4 _ rfl (by kernel_rfl) rfl (Le.upd_left (Le.upd_left (Le.famH_left (Le.upd_left (Le.under (Le.under (Le.underF (Le.under (Le.under (Le.refl _) hb1) hb2) hf1) hb3) hb4) ((upd_ne _ _ n_b4_b2.ne.symm).trans ((upd_ne _ _ n_b3_b2.ne.symm).trans ((famH_ne n_f1_b2).trans (upd_same _ _ _)))) (by first | rfl | (simp; done))) okf_f1 (fun i hi => (LkO.there (NeF.neO n_b4_f1 i) (LkO.there (NeF.neO n_b3_f1 i) (famH_row okf_f1 hi))))) ((upd_ne _ _ n_b4_b3.ne.symm).trans (upd_same _ _ _)) (by first | rfl | (simp; done))) (upd_same _ _ _) (by first | rfl | (simp; done))) (QO.load rfl sz29 rfl rfl (by (refine (rd_own ((upd_ne _ _ n_b4_b3.ne.symm).trans (upd_same _ _ _)) _).trans ?_); exact rowsC_get (by omega))) ?_
 refine DW.pure' 5 _ rfl (by kernel_rfl) rfl (fun _ => QO.move rfl rfl) ?_
 have hq := chk hm; clear hm; obtain ⟨ck2, hm⟩ := hq
 refine DW.pure' 6 _ rfl (by kernel_rfl) rfl (fun _ => QO.idxSl rfl sz61 sz29 rfl rfl (by omega) (by omega)) ?_
 refine DW.readK' 7 _ rfl (by kernel_rfl) rfl (Le.upd_left (Le.upd_left (Le.famH_left (Le.upd_left (Le.under (Le.under (Le.underF (Le.under (Le.under (Le.refl _) hb1) hb2) hf1) hb3) hb4) ((upd_ne _ _ n_b4_b2.ne.symm).trans ((upd_ne _ _ n_b3_b2.ne.symm).trans ((famH_ne n_f1_b2).trans (upd_same _ _ _)))) (by first | rfl | (simp; done))) okf_f1 (fun i hi => (LkO.there (NeF.neO n_b4_f1 i) (LkO.there (NeF.neO n_b3_f1 i) (famH_row okf_f1 hi))))) ((upd_ne _ _ n_b4_b3.ne.symm).trans (upd_same _ _ _)) (by first | rfl | (simp; done))) (upd_same _ _ _) (by first | rfl | (simp; done))) (QO.load rfl sz29 rfl rfl (by (refine (rd_own ((upd_ne _ _ n_b4_b3.ne.symm).trans (upd_same _ _ _)) _).trans ?_); exact rowsC_get (by omega))) ?_
 refine DW.loud 8 rfl (by kernel_rfl) rfl rfl (LO.storeAll (cs := sqC r2.1) rfl sz28 rfl rfl (sqC_one _) (sqC_length _) ((upd_ne _ _ n_b4_b1.ne.symm).trans ((upd_ne _ _ n_b3_b1.ne.symm).trans ((famH_ne n_f1_b1).trans ((upd_ne _ _ n_b2_b1.ne.symm).trans (upd_same _ _ _))))) (sqC_length _) (Chg.there n_b4_b1.ne (Chg.there n_b3_b1.ne (Chg.thereF n_f1_b1 (Chg.there n_b2_b1.ne Chg.here)))) rfl ?_)
 refine ⟨(fun _ => (Le.upd_left (Le.upd_left (Le.famH_left (Le.upd_left (Le.under (Le.under (Le.underF (Le.under (Le.under (Le.refl _) hb1) hb2) hf1) hb3) hb4) ((upd_ne _ _ n_b4_b2.ne.symm).trans ((upd_ne _ _ n_b3_b2.ne.symm).trans ((famH_ne n_f1_b2).trans (upd_same _ _ _)))) (by first | rfl | (simp; done))) okf_f1 (fun i hi => (LkO.there (NeF.neO n_b4_f1 i) (LkO.there (NeF.neO n_b3_f1 i) (famH_row okf_f1 hi))))) ((upd_ne _ _ n_b4_b3.ne.symm).trans (upd_same _ _ _)) (by first | rfl | (simp; done))) (upd_same _ _ _) (by first | rfl | (simp; done)))), ?_⟩
 refine DW.pure' 9 _ rfl (by kernel_rfl) rfl (fun _ => QO.assign rfl rfl) ?_
 refine DW.pure' 10 _ rfl (by kernel_rfl) rfl (fun _ => QO.assign rfl rfl) ?_
 refine DW.pure' 11 _ rfl (by kernel_rfl) rfl (fun _ => QO.assign rfl rfl) ?_
 refine DW.done (by kernel_rfl) ?_ _
 refine thenA_n ?_
 refine wpA_ret ?_
 obtain rfl := Option.some.inj hm
 exact retA_r (h2 := updO (updO (h) (g_f1.getD 0 (none, 0)).1 (.own 2 (ints .i64 (r2.2.2.1.getD 0 [])) ((g_f1.getD 0 (none, 0)).2 * 1))) (g_f1.getD 1 (none, 0)).1 (.own 2 (ints .i64 (r2.2.2.1.getD 1 [])) ((g_f1.getD 1 (none, 0)).2 * 1))) (Res.four rfl (res1.row (cs := sqC r2.1) (hr := (rdAll ((upd_ne _ _ n_b4_b1.ne.symm).trans ((upd_ne _ _ n_b3_b1.ne.symm).trans ((famH_ne n_f1_b1).trans ((upd_ne _ _ n_b2_b1.ne.symm).trans (upd_same _ _ _))))))) sz28 rfl rfl (sqC_length _)) (rfl) (rfl) (rfl)) (Le.upd_leftO (Le.upd_leftO (Le.under (Le.under (Le.underF (Le.under (Le.under (Le.refl _) hb1) hb2) hf1) hb3) hb4) (LkO.there (NeF.neO n_b4_f1 0) (LkO.there (NeF.neO n_b3_f1 0) (famH_row okf_f1 (by omega)))) rfl) (LkO.there (NeF.neO n_b4_f1 1) (LkO.there (NeF.neO n_b3_f1 1) (famH_row okf_f1 (by omega)))) rfl) ⟨(g_f1.getD 0 (none, 0)).1, (g_f1.getD 0 (none, 0)).2, (g_f1.getD 1 (none, 0)).1, (g_f1.getD 1 (none, 0)).2, (FrF.frO hf1 0), (okf_f1.ok 0 (by omega)), (frO_updO (OkF.neOO (i := 1) (j := 0) okf_f1 (by decide)) (FrF.frO hf1 1)), (okf_f1.ok 1 (by omega)), rfl, rfl⟩

/-! loop.example/g01195/spec.DrawMultiplySums -/
theorem c_spec_DrawMultiplySums {l0 : (List Int)} {A0 : Option Addr} {c0 : Nat} {h : Hp} {r : Sq × Int × (List Int) × (List Int)} (hm : m_spec_DrawMultiplySums l0 = some r) (hs0 : RdS h A0 (ints .u8 l0)) :
    CC Try.prog 5 #[.slice A0 l0.length c0] (h) (fun v h' => ∃ (b2 : Option Nat) (cap2 : Nat) (b3 : Option Nat) (cap3 : Nat), FrO (h) b2 ∧ OkO b2 r.2.2.1.length cap2 ∧ FrO (updO (h) b2 (.own 2 (ints .i64 r.2.2.1) (cap2 * 1))) b3 ∧ OkO b3 r.2.2.2.length cap3 ∧ v = .tuple #[.agg (sqC r.1).toArray, .int .i64 r.2.1, .slice (adO b2) r.2.2.1.length cap2, .slice (adO b3) r.2.2.2.length cap3] ∧ h' = updO (updO (h) b2 (.own 2 (ints .i64 r.2.2.1) (cap2 * 1))) b3 (.own 2 (ints .i64 r.2.2.2) (cap3 * 1))) := by
 unfold m_spec_DrawMultiplySums at hm
 refine CC.enter Try.func5 rfl Try.ntmps5 rfl ?_
 refine wpA_seq ?_
 refine wpA_region ?_
 refine Ops_loud rfl (LO.alloc rfl zr28 rfl (fun b1 hb1 => ?_))
 refine Ops_quiet _ rfl rfl (QO.assign rfl rfl) ?_
 refine Ops_quiet _ rfl rfl (QO.assign rfl rfl) ?_
 refine Ops_quiet _ rfl rfl (QO.assign rfl rfl) ?_
 refine Ops_nil ?_
 refine thenA_n ?_
 refine wpA_seq ?_
 refine wpA_region ?_
 refine Ops_quiet _ rfl rfl (QO.move rfl rfl) ?_
 have hq := Option.bind_eq_some_iff.1 hm; clear hm; obtain ⟨r1, hr1, hm⟩ := hq
 refine Ops_call _ _ rfl rfl (EO.fn rfl Try.func18 rfl rfl (Evs.cons rfl Evs.nil)) (CC.mono (c_spec_l10Two (l0 := l0) (A0 := A0) (c0 := c0) hr1 (RdS.le hs0 (Le.under (Le.refl _) hb1))) ?_)
 rintro _ _ ⟨b2, cap_b2, b3, cap_b3, hb2, ho_b2, hb3, ho_b3, rfl, rfl⟩
 simp only [frO_updA, frO_updOA, frO_famHA] at hb2
 obtain ⟨n_b2_b1, hb2⟩ := hb2
 simp only [frO_updA, frO_updOA, frO_famHA] at hb3
 obtain ⟨n_b3_b2, n_b3_b1, hb3⟩ := hb3
 refine Ops_quiet _ rfl rfl (QO.extract rfl rfl rfl) ?_
 refine Ops_quiet _ rfl rfl (QO.extract rfl rfl rfl) ?_
 refine Ops_quiet _ rfl rfl (QO.extract rfl rfl rfl) ?_
 refine Ops_quiet _ rfl rfl (QO.extract rfl rfl rfl) ?_
 refine Ops_loud rfl (LO.storeAll (cs := sqC r1.1) rfl sz28 rfl rfl (sqC_one _) (sqC_length _) ((updO_ne n_b3_b1).trans ((updO_ne n_b2_b1).trans (upd_same _ _ _))) (sqC_length _) (Chg.thereO n_b3_b1 (Chg.thereO n_b2_b1 Chg.here)) rfl ?_)
 refine Ops_quiet _ rfl rfl (QO.assign rfl rfl) ?_
 refine Ops_quiet _ rfl rfl (QO.assign rfl rfl) ?_
 refine Ops_quiet _ rfl rfl (QO.assign rfl rfl) ?_
 refine Ops_nil ?_
 refine thenA_n ?_
 refine wpA_ret ?_
 obtain rfl := Option.some.inj hm
 exact retA_r (h2 := updO (updO (h) b2 (.own 2 (ints .i64 r1.2.2.1) (cap_b2 * 1))) b3 (.own 2 (ints .i64 r1.2.2.2) (cap_b3 * 1))) (Res.four rfl (res1.row (cs := sqC r1.1) (hr := (rdAll ((updO_ne n_b3_b1).trans ((updO_ne n_b2_b1).trans (upd_same _ _ _))))) sz28 rfl rfl (sqC_length _)) (rfl) (rfl) (rfl)) (Le.upd_leftO (Le.upd_leftO (Le.underO (Le.underO (Le.under (Le.refl _) hb1) hb2) hb3) (LkO.thereO n_b3_b2.symm LkO.here) (by first | rfl | (simp; done))) LkO.here (by first | rfl | (simp; done))) ⟨b2, cap_b2, b3, cap_b3, hb2, ho_b2, (frO_updO n_b3_b2 hb3), ho_b3, rfl, rfl⟩

/-! loop.example/g01195/impl.within -/
theorem c_impl_within {a0 : Int} {a1 : Int} {a2 : Int} {h : Hp} {r : Bool} (hm : m_impl_within a0 a1 a2 = some r)  :
    QC Try.prog 28 #[.int .i64 a0, .int .i64 a1, .int .i64 a2] h (.bool r) := by
 unfold m_impl_within at hm
 refine CC.enter Try.func28 rfl Try.ntmps28 rfl ?_
 refine wpA_seq ?_
 refine wpA_region ?_
 refine Ops_quiet _ rfl rfl (QO.assign rfl rfl) ?_
 refine Ops_nil ?_
 refine thenA_n ?_
 refine wpA_seq ?_
 refine wpA_region ?_
 refine Ops_quiet _ rfl rfl (QO.move rfl rfl) ?_
 refine Ops_quiet _ rfl rfl (QO.move rfl rfl) ?_
 refine Ops_quiet _ rfl rfl (QO.bin rfl rfl rfl rfl) ?_
 refine Ops_quiet _ rfl rfl (QO.move rfl rfl) ?_
 refine Ops_case 10 rfl (fun g1 => ?_) (fun g1 => ?_)
 ·replace hm := cond_t hm g1
  refine Ops_quiet _ rfl rfl (QO.move rfl rfl) ?_
  refine Ops_quiet _ rfl rfl (QO.move rfl rfl) ?_
  refine Ops_quiet _ rfl rfl (QO.bin rfl rfl rfl rfl) ?_
  refine Ops_quiet _ rfl rfl (QO.pick_t rfl rfl rfl) ?_
  refine Ops_quiet _ rfl rfl (QO.assign rfl rfl) ?_
  refine Ops_nil ?_
  refine thenA_n ?_
  refine wpA_ret ?_
  obtain rfl := Option.some.inj hm
  exact retA_r (h2 := h) (Res.one rfl (rfl)) (Le.refl _) ⟨rfl, rfl⟩
 ·replace hm := cond_f hm g1
  refine Ops_skip rfl rfl ?_
  refine Ops_skip rfl rfl ?_
  refine Ops_skip rfl rfl ?_
  refine Ops_quiet _ rfl rfl (QO.pick_f rfl rfl rfl) ?_
  refine Ops_quiet _ rfl rfl (QO.assign rfl rfl) ?_
  refine Ops_nil ?_
  refine thenA_n ?_
  refine wpA_ret ?_
  obtain rfl := Option.some.inj hm
  exact retA_r (h2 := h) (Res.one rfl (rfl)) (Le.refl _) ⟨rfl, rfl⟩

/-! loop.example/g01195/impl.IsSquare -/
theorem c_impl_IsSquare {a0 : Sq} {h : Hp} {r : Bool} (hm : m_impl_IsSquare a0 = some r)  :
    QC Try.prog 43 #[.agg (sqC a0).toArray] h (.bool r) := by
 unfold m_impl_IsSquare at hm
 refine CC.enter Try.func43 rfl Try.ntmps43 rfl ?_
 refine wpA_seq ?_
 refine wpA_region ?_
 refine Ops_loud rfl (LO.boxAgg rfl rfl rfl (fun b1 hb1 => ?_))
 refine Ops_quiet _ rfl rfl (QO.assign rfl rfl) ?_
 refine Ops_nil ?_
 refine thenA_n ?_
 refine wpA_seq ?_
 refine wpA_seq ?_
 refine wpA_region ?_
 refine Ops_quiet _ rfl rfl (QO.fieldAt (fo := 0) rfl sz28 rfl rfl sz2 rfl rfl) ?_
 refine Ops_quiet _ rfl rfl (QO.load rfl sz2 rfl rfl (by (refine (rd_own (upd_same _ _ _) _).trans ?_); exact rfl)) ?_
 have hq := Option.bind_eq_some_iff.1 hm; clear hm; obtain ⟨r1, hr1, hm⟩ := hq
 refine Ops_call _ _ rfl rfl (EO.fn rfl Try.func28 rfl rfl (Evs.cons rfl (Evs.cons rfl (Evs.cons rfl Evs.nil)))) (QC.cc (c_impl_within hr1 ) ?_)
 refine Ops_quiet _ rfl rfl (QO.not rfl rfl) ?_
 refine Ops_nil ?_
 refine thenA_n ?_
 refine wpA_cond rfl (fun g1 => ?_) (fun g1 => ?_)
 ·replace hm := cond_t hm g1
  refine wpA_seq ?_
  refine wpA_region ?_
  refine Ops_quiet _ rfl rfl (QO.assign rfl rfl) ?_
  refine Ops_nil ?_
  refine thenA_n ?_
  refine wpA_ret ?_
  refine thenA_r ?_
  obtain rfl := Option.some.inj hm
  exact retA_r (h2 := h) (Res.one rfl (rfl)) (Le.under (Le.refl _) hb1) ⟨rfl, rfl⟩
 ·replace hm := cond_f hm g1
  refine wpA_skip ?_
  refine thenA_n ?_
  refine wpA_seq ?_
  refine wpA_region ?_
  refine Ops_quiet _ rfl rfl (QO.fieldAt (fo := 0) rfl sz28 rfl rfl sz2 rfl rfl) ?_
  refine Ops_quiet _ rfl rfl (QO.load rfl sz2 rfl rfl (by (refine (rd_own (upd_same _ _ _) _).trans ?_); exact rfl)) ?_
  refine Ops_quiet _ rfl rfl (QO.assign rfl rfl) ?_
  refine Ops_nil ?_
  refine thenA_n ?_
  refine wpA_seq ?_
  refine wpA_seq ?_
  refine wpA_region ?_
  refine Ops_quiet _ rfl rfl (QO.move rfl rfl) ?_
  refine Ops_nil ?_
  refine thenA_n ?_
  refine wpA_block ?_
  obtain ⟨R1, hR, hm⟩ := Option.bind_eq_some_iff.1 hm
  obtain ⟨k1, hk1⟩ := loopV_some hR
  clear hR
  refine wpA_mono (Q := fun e s' h' => match (generalizing := false) R1 with | .stop x id => e = .exit id ∧ ∃ (x1 : Int), x1 = x ∧ Sub s' [(1, .pointer (some ⟨b1, 0, none⟩)), (3, .int .i64 a0.order), (14, .int .i64 x1)] ∧ Le (upd (h) b1 (.own 28 (sqC a0) 101)) h' | .ret r => e = .ret ∧ Sub s' [(2, .bool r)] ∧ Le (h) h' | .next _ => False) ?_ ?_
  ·refine wpA_loop (fun k s' h' => ∃ (x1 : Int), loopW (m_impl_IsSquare_l0 a0) k x1 = some R1 ∧ Sub s' [(1, .pointer (some ⟨b1, 0, none⟩)), (3, .int .i64 a0.order), (14, .int .i64 x1)] ∧ Le (upd (h) b1 (.own 28 (sqC a0) 101)) h') (m := k1) ⟨0, hk1, (Sub.cons rfl (Sub.cons rfl (Sub.cons rfl Sub.nil))), (Le.upd_left (Le.under (Le.refl _) hb1) (upd_same _ _ _) (by first | rfl | (simp; done)))⟩ ?_
   rintro k1 s' h' ⟨x1, hk1, hsub, hle⟩
   refine wpA_weaken hsub.ok hle ?_
   clear hsub hle s' h'
   cases k1 with
   | zero => exact absurd hk1 (by simp [loopW])
   | succ k1 =>
    obtain ⟨o1, ho1, hk1⟩ := loopW_succ hk1
    unfold m_impl_IsSquare_l0 at ho1
    try dsimp only at ho1
    refine wpA_seq ?_
    refine wpA_region ?_
    refine Ops_quiet _ rfl rfl (QO.bin rfl rfl rfl rfl) ?_
    refine Ops_nil ?_
    refine thenA_n ?_
    refine wpA_seq ?_
    refine wpA_cond rfl (fun g2 => ?_) (fun g2 => ?_)
    ·replace ho1 := cond_t ho1 g2
     refine wpA_skip ?_
     refine thenA_n ?_
     refine wpA_seq ?_
     refine wpA_block ?_
     refine wpA_seq ?_
     refine wpA_region ?_
     refine Ops_quiet _ rfl rfl (QO.move rfl rfl) ?_
     refine Ops_quiet _ rfl rfl (QO.assign rfl rfl) ?_
     refine Ops_nil ?_
     refine thenA_n ?_
     refine wpA_seq ?_
     refine wpA_region ?_
     refine Ops_quiet _ rfl rfl (QO.assign rfl rfl) ?_
     refine Ops_quiet _ rfl rfl (QO.assign rfl rfl) ?_
     refine Ops_nil ?_
     refine thenA_n ?_
     refine wpA_seq ?_
     refine wpA_seq ?_
     refine wpA_region ?_
     refine Ops_quiet _ rfl rfl (QO.move rfl rfl) ?_
     refine Ops_nil ?_
     refine thenA_n ?_
     refine wpA_block ?_
     obtain ⟨R2, hR, ho1⟩ := Option.bind_eq_some_iff.1 ho1
     obtain ⟨k2, hk2⟩ := loopV_some hR
     clear hR
     refine wpA_mono (Q := fun e s' h' => match (generalizing := false) R2 with | .stop x id => e = .exit id ∧ ∃ (x2 : Int) (x3 : Int) (x4 : Int), (x2, x3, x4) = x ∧ Sub s' [(1, .pointer (some ⟨b1, 0, none⟩)), (3, .int .i64 a0.order), (4, .int .i64 x1), (5, .int .i64 x2), (6, .int .i64 x3), (14, .int .i64 x1), (17, .int .i64 x4)] ∧ Le (upd (h) b1 (.own 28 (sqC a0) 101)) h' | .ret r => e = .ret ∧ Sub s' [(2, .bool r)] ∧ Le (h) h' | .next _ => False) ?_ ?_
     ·refine wpA_loop (fun k s' h' => ∃ (x2 : Int) (x3 : Int) (x4 : Int), loopW (m_impl_IsSquare_l1 a0 x1) k (x2, x3, x4) = some R2 ∧ Sub s' [(1, .pointer (some ⟨b1, 0, none⟩)), (3, .int .i64 a0.order), (4, .int .i64 x1), (5, .int .i64 x2), (6, .int .i64 x3), (14, .int .i64 x1), (17, .int .i64 x4)] ∧ Le (upd (h) b1 (.own 28 (sqC a0) 101)) h') (m := k2) ⟨0, 0, 0, hk2, (Sub.cons rfl (Sub.cons rfl (Sub.cons rfl (Sub.cons rfl (Sub.cons rfl (Sub.cons rfl (Sub.cons rfl Sub.nil))))))), (Le.upd_left (Le.under (Le.refl _) hb1) (upd_same _ _ _) (by first | rfl | (simp; done)))⟩ ?_
      rintro k2 s' h' ⟨x2, x3, x4, hk2, hsub, hle⟩
      refine wpA_weaken hsub.ok hle ?_
      clear hsub hle s' h'
      cases k2 with
      | zero => exact absurd hk2 (by simp [loopW])
      | succ k2 =>
       obtain ⟨o2, ho2, hk2⟩ := loopW_succ hk2
       unfold m_impl_IsSquare_l1 at ho2
       try dsimp only at ho2
       refine wpA_seq ?_
       refine wpA_region ?_
       refine Ops_quiet _ rfl rfl (QO.bin rfl rfl rfl rfl) ?_
       refine Ops_nil ?_
       refine thenA_n ?_
       refine wpA_seq ?_
       refine wpA_cond rfl (fun g3 => ?_) (fun g3 => ?_)
       ·replace ho2 := cond_t ho2 g3
        refine wpA_skip ?_
        refine thenA_n ?_
        refine wpA_seq ?_
        refine wpA_block ?_
        refine wpA_seq ?_
        refine wpA_region ?_
        refine Ops_quiet _ rfl rfl (QO.move rfl rfl) ?_
        refine Ops_quiet _ rfl rfl (QO.assign rfl rfl) ?_
        refine Ops_nil ?_
        refine thenA_n ?_
        refine wpA_seq ?_
        refine wpA_seq ?_
        refine wpA_region ?_
        refine Ops_quiet _ rfl rfl (QO.move rfl rfl) ?_
        refine Ops_quiet _ rfl rfl (QO.move rfl rfl) ?_
        refine Ops_quiet _ rfl rfl (QO.bin rfl rfl rfl rfl) ?_
        refine Ops_quiet _ rfl rfl (QO.move rfl rfl) ?_
        refine Ops_case 23 rfl (fun g4 => ?_) (fun g4 => ?_)
        ·replace ho2 := cond_t ho2 g4
         refine Ops_skip rfl rfl ?_
         refine Ops_skip rfl rfl ?_
         refine Ops_skip rfl rfl ?_
         refine Ops_quiet _ rfl rfl (QO.pick_t rfl rfl rfl) ?_
         refine Ops_quiet _ rfl rfl (QO.move rfl rfl) ?_
         refine Ops_quiet _ rfl rfl (QO.move rfl rfl) ?_
         refine Ops_quiet _ rfl rfl (QO.move rfl rfl) ?_
         refine Ops_quiet _ rfl rfl (QO.fieldAt (fo := 1) rfl sz28 rfl rfl sz26 rfl rfl) ?_
         have hq := chk ho2; clear ho2; obtain ⟨ck1, ho2⟩ := hq
         refine Ops_quiet _ rfl rfl (QO.idxArr rfl sz26 sz24 rfl rfl (by omega) (by omega)) ?_
         have hq := chk ho2; clear ho2; obtain ⟨ck2, ho2⟩ := hq
         refine Ops_quiet _ rfl rfl (QO.idxArr rfl sz24 sz5 rfl rfl (by omega) (by omega)) ?_
         refine Ops_quiet _ rfl rfl (QO.load rfl sz5 rfl rfl (by (refine (rd_own (upd_same _ _ _) _).trans ?_); exact sqC_get (by omega) (by omega))) ?_
         refine Ops_quiet _ rfl rfl (QO.bin rfl rfl rfl rfl) ?_
         refine Ops_quiet _ rfl rfl (QO.pick_t rfl rfl rfl) ?_
         refine Ops_nil ?_
         refine thenA_n ?_
         refine wpA_cond rfl (fun g5 => ?_) (fun g5 => ?_)
         ·replace ho2 := cond_t ho2 g5
          refine wpA_seq ?_
          refine wpA_region ?_
          refine Ops_quiet _ rfl rfl (QO.assign rfl rfl) ?_
          refine Ops_nil ?_
          refine thenA_n ?_
          refine wpA_ret ?_
          refine thenA_r ?_
          refine blockA_r ?_
          refine thenA_r ?_
          refine thenA_r ?_
          obtain rfl := Option.some.inj ho2
          obtain rfl := Option.some.inj hk2
          exact ⟨rfl, (Sub.cons rfl Sub.nil), (Le.under (Le.refl _) hb1)⟩
         ·replace ho2 := cond_f ho2 g5
          refine wpA_skip ?_
          refine thenA_n ?_
          refine wpA_seq ?_
          refine wpA_region ?_
          refine Ops_quiet _ rfl rfl (QO.move rfl rfl) ?_
          refine Ops_quiet _ rfl rfl (QO.move rfl rfl) ?_
          refine Ops_quiet _ rfl rfl (QO.bin rfl rfl rfl rfl) ?_
          refine Ops_quiet _ rfl rfl (QO.move rfl rfl) ?_
          refine Ops_case 40 rfl (fun g6 => ?_) (fun g6 => ?_)
          ·replace ho2 := cond_t ho2 g6
           refine Ops_quiet _ rfl rfl (QO.move rfl rfl) ?_
           refine Ops_quiet _ rfl rfl (QO.move rfl rfl) ?_
           refine Ops_quiet _ rfl rfl (QO.bin rfl rfl rfl rfl) ?_
           refine Ops_quiet _ rfl rfl (QO.pick_t rfl rfl rfl) ?_
           refine Ops_nil ?_
           refine thenA_n ?_
           refine wpA_cond rfl (fun g7 => ?_) (fun g7 => ?_)
           ·replace ho2 := cond_t ho2 g7
            refine wpA_seq ?_
            refine wpA_seq ?_
            refine wpA_region ?_
            refine Ops_quiet _ rfl rfl (QO.move rfl rfl) ?_
            refine Ops_quiet _ rfl rfl (QO.move rfl rfl) ?_
            refine Ops_quiet _ rfl rfl (QO.fieldAt (fo := 1) rfl sz28 rfl rfl sz26 rfl rfl) ?_
            have hq := chk ho2; clear ho2; obtain ⟨ck3, ho2⟩ := hq
            refine Ops_quiet _ rfl rfl (QO.idxArr rfl sz26 sz24 rfl rfl (by omega) (by omega)) ?_
            have hq := chk ho2; clear ho2; obtain ⟨ck4, ho2⟩ := hq
            refine Ops_quiet _ rfl rfl (QO.idxArr rfl sz24 sz5 rfl rfl (by omega) (by omega)) ?_
            refine Ops_quiet _ rfl rfl (QO.load rfl sz5 rfl rfl (by (refine (rd_own (upd_same _ _ _) _).trans ?_); exact sqC_get (by omega) (by omega))) ?_
            refine Ops_quiet _ rfl rfl (QO.conv rfl sz5 sz3 rfl) ?_
            refine Ops_quiet _ rfl rfl (QO.move rfl rfl) ?_
            refine Ops_quiet _ rfl rfl (QO.bin rfl rfl rfl rfl) ?_
            refine Ops_quiet _ rfl rfl (QO.move rfl rfl) ?_
            refine Ops_case 54 rfl (fun g8 => ?_) (fun g8 => ?_)
            ·replace ho2 := cond_t ho2 g8
             refine Ops_skip rfl rfl ?_
             refine Ops_skip rfl rfl ?_
             refine Ops_skip rfl rfl ?_
             refine Ops_skip rfl rfl ?_
             refine Ops_skip rfl rfl ?_
             refine Ops_skip rfl rfl ?_
             refine Ops_skip rfl rfl ?_
             refine Ops_skip rfl rfl ?_
             refine Ops_skip rfl rfl ?_
             refine Ops_quiet _ rfl rfl (QO.pick_t rfl rfl rfl) ?_
             refine Ops_nil ?_
             refine thenA_n ?_
             refine wpA_cond_t rfl ?_
             refine wpA_seq ?_
             refine wpA_region ?_
             refine Ops_quiet _ rfl rfl (QO.assign rfl rfl) ?_
             refine Ops_nil ?_
             refine thenA_n ?_
             refine wpA_ret ?_
             refine thenA_r ?_
             refine blockA_r ?_
             refine thenA_r ?_
             refine thenA_r ?_
             obtain rfl := Option.some.inj ho2
             obtain rfl := Option.some.inj hk2
             exact ⟨rfl, (Sub.cons rfl Sub.nil), (Le.under (Le.refl _) hb1)⟩
            ·replace ho2 := cond_f ho2 g8
             refine Ops_quiet _ rfl rfl (QO.move rfl rfl) ?_
             refine Ops_quiet _ rfl rfl (QO.move rfl rfl) ?_
             refine Ops_quiet _ rfl rfl (QO.fieldAt (fo := 1) rfl sz28 rfl rfl sz26 rfl rfl) ?_
             have hq := chk ho2; clear ho2; obtain ⟨ck5, ho2⟩ := hq
             refine Ops_quiet _ rfl rfl (QO.idxArr rfl sz26 sz24 rfl rfl (by omega) (by omega)) ?_
             have hq := chk ho2; clear ho2; obtain ⟨ck6, ho2⟩ := hq
             refine Ops_quiet _ rfl rfl (QO.idxArr rfl sz24 sz5 rfl rfl (by omega) (by omega)) ?_
             refine Ops_quiet _ rfl rfl (QO.load rfl sz5 rfl rfl (by (refine (rd_own (upd_same _ _ _) _).trans ?_); exact sqC_get (by omega) (by omega))) ?_
             refine Ops_quiet _ rfl rfl (QO.conv rfl sz5 sz3 rfl) ?_
             refine Ops_quiet _ rfl rfl (QO.move rfl rfl) ?_
             refine Ops_quiet _ rfl rfl (QO.bin rfl rfl rfl rfl) ?_
             refine Ops_quiet _ rfl rfl (QO.pick_f rfl rfl rfl) ?_
             refine Ops_nil ?_
             refine thenA_n ?_
             refine wpA_cond rfl (fun g9 => ?_) (fun g9 => ?_)
             ·replace ho2 := cond_t ho2 g9
              refine wpA_seq ?_
              refine wpA_region ?_
              refine Ops_quiet _ rfl rfl (QO.assign rfl rfl) ?_
              refine Ops_nil ?_
              refine thenA_n ?_
              refine wpA_ret ?_
              refine thenA_r ?_
              refine blockA_r ?_
              refine thenA_r ?_
              refine thenA_r ?_
              obtain rfl := Option.some.inj ho2
              obtain rfl := Option.some.inj hk2
              exact ⟨rfl, (Sub.cons rfl Sub.nil), (Le.under (Le.refl _) hb1)⟩
             ·replace ho2 := cond_f ho2 g9
              refine wpA_skip ?_
              refine thenA_n ?_
              refine wpA_seq ?_
              refine wpA_region ?_
              refine Ops_quiet _ rfl rfl (QO.move rfl rfl) ?_
              refine Ops_quiet _ rfl rfl (QO.move rfl rfl) ?_
              refine Ops_quiet _ rfl rfl (QO.move rfl rfl) ?_
              refine Ops_quiet _ rfl rfl (QO.fieldAt (fo := 1) rfl sz28 rfl rfl sz26 rfl rfl) ?_
              have hq := chk ho2; clear ho2; obtain ⟨ck7, ho2⟩ := hq
              refine Ops_quiet _ rfl rfl (QO.idxArr rfl sz26 sz24 rfl rfl (by omega) (by omega)) ?_
              have hq := chk ho2; clear ho2; obtain ⟨ck8, ho2⟩ := hq
              refine Ops_quiet _ rfl rfl (QO.idxArr rfl sz24 sz5 rfl rfl (by omega) (by omega)) ?_
              refine Ops_quiet _ rfl rfl (QO.load rfl sz5 rfl rfl (by (refine (rd_own (upd_same _ _ _) _).trans ?_); exact sqC_get (by omega) (by omega))) ?_
              have hq := chk ho2; clear ho2; obtain ⟨ck9, ho2⟩ := hq
              refine Ops_quiet _ rfl rfl (QO.shl rfl rfl rfl (by first | assumption | omega)) ?_
              refine Ops_quiet _ rfl rfl (QO.bin rfl rfl rfl rfl) ?_
              refine Ops_quiet _ rfl rfl (QO.assign rfl rfl) ?_
              refine Ops_nil ?_
              refine thenA_n ?_
              refine wpA_region ?_
              refine Ops_quiet _ rfl rfl (QO.move rfl rfl) ?_
              refine Ops_quiet _ rfl rfl (QO.move rfl rfl) ?_
              refine Ops_quiet _ rfl rfl (QO.move rfl rfl) ?_
              refine Ops_quiet _ rfl rfl (QO.fieldAt (fo := 1) rfl sz28 rfl rfl sz26 rfl rfl) ?_
              have hq := chk ho2; clear ho2; obtain ⟨ck10, ho2⟩ := hq
              refine Ops_quiet _ rfl rfl (QO.idxArr rfl sz26 sz24 rfl rfl (by omega) (by omega)) ?_
              have hq := chk ho2; clear ho2; obtain ⟨ck11, ho2⟩ := hq
              refine Ops_quiet _ rfl rfl (QO.idxArr rfl sz24 sz5 rfl rfl (by omega) (by omega)) ?_
              refine Ops_quiet _ rfl rfl (QO.load rfl sz5 rfl rfl (by (refine (rd_own (upd_same _ _ _) _).trans ?_); exact sqC_get (by omega) (by omega))) ?_
              have hq := chk ho2; clear ho2; obtain ⟨ck12, ho2⟩ := hq
              refine Ops_quiet _ rfl rfl (QO.shl rfl rfl rfl (by first | assumption | omega)) ?_
              refine Ops_quiet _ rfl rfl (QO.bin rfl rfl rfl rfl) ?_
              refine Ops_quiet _ rfl rfl (QO.assign rfl rfl) ?_
              refine Ops_nil ?_
              refine blockA_n ?_
              refine thenA_n ?_
              refine wpA_region ?_
              refine Ops_quiet _ rfl rfl (QO.bin rfl rfl rfl rfl) ?_
              refine Ops_quiet _ rfl rfl (QO.move rfl rfl) ?_
              refine Ops_nil ?_
              obtain rfl := Option.some.inj ho2
              dsimp only at hk2
              exact thenA_n ⟨k2, Nat.lt_succ_self _, _, _, _, hk2, (Sub.cons rfl (Sub.cons rfl (Sub.cons rfl (Sub.cons rfl (Sub.cons rfl (Sub.cons rfl (Sub.cons rfl Sub.nil))))))), (Le.upd_left (Le.under (Le.refl _) hb1) (upd_same _ _ _) (by first | rfl | (simp; done)))⟩
           ·replace ho2 := cond_f ho2 g7
            refine wpA_skip ?_
            refine blockA_n ?_
            refine thenA_n ?_
            refine wpA_region ?_
            refine Ops_quiet _ rfl rfl (QO.bin rfl rfl rfl rfl) ?_
            refine Ops_quiet _ rfl rfl (QO.move rfl rfl) ?_
            refine Ops_nil ?_
            obtain rfl := Option.some.inj ho2
            dsimp only at hk2
            exact thenA_n ⟨k2, Nat.lt_succ_self _, _, _, _, hk2, (Sub.cons rfl (Sub.cons rfl (Sub.cons rfl (Sub.cons rfl (Sub.cons rfl (Sub.cons rfl (Sub.cons rfl Sub.nil))))))), (Le.upd_left (Le.under (Le.refl _) hb1) (upd_same _ _ _) (by first | rfl | (simp; done)))⟩
          ·replace ho2 := cond_f ho2 g6
           refine Ops_skip rfl rfl ?_
           refine Ops_skip rfl rfl ?_
           refine Ops_skip rfl rfl ?_
           refine Ops_quiet _ rfl rfl (QO.pick_f rfl rfl rfl) ?_
           refine Ops_nil ?_
           refine thenA_n ?_
           refine wpA_cond_f rfl ?_
           refine wpA_skip ?_
           refine blockA_n ?_
           refine thenA_n ?_
           refine wpA_region ?_
           refine Ops_quiet _ rfl rfl (QO.bin rfl rfl rfl rfl) ?_
           refine Ops_quiet _ rfl rfl (QO.move rfl rfl) ?_
           refine Ops_nil ?_
           obtain rfl := Option.some.inj ho2
           dsimp only at hk2
           exact thenA_n ⟨k2, Nat.lt_succ_self _, _, _, _, hk2, (Sub.cons rfl (Sub.cons rfl (Sub.cons rfl (Sub.cons rfl (Sub.cons rfl (Sub.cons rfl (Sub.cons rfl Sub.nil))))))), (Le.upd_left (Le.under (Le.refl _) hb1) (upd_same _ _ _) (by first | rfl | (simp; done)))⟩
        ·replace ho2 := cond_f ho2 g4
         refine Ops_quiet _ rfl rfl (QO.move rfl rfl) ?_
         refine Ops_quiet _ rfl rfl (QO.move rfl rfl) ?_
         refine Ops_quiet _ rfl rfl (QO.bin rfl rfl rfl rfl) ?_
         refine Ops_quiet _ rfl rfl (QO.pick_f rfl rfl rfl) ?_
         refine Ops_quiet _ rfl rfl (QO.move rfl rfl) ?_
         refine Ops_case 28 rfl (fun g10 => ?_) (fun g10 => ?_)
         ·replace ho2 := cond_t ho2 g10
          refine Ops_quiet _ rfl rfl (QO.move rfl rfl) ?_
          refine Ops_quiet _ rfl rfl (QO.move rfl rfl) ?_
          refine Ops_quiet _ rfl rfl (QO.fieldAt (fo := 1) rfl sz28 rfl rfl sz26 rfl rfl) ?_
          have hq := chk ho2; clear ho2; obtain ⟨ck13, ho2⟩ := hq
          refine Ops_quiet _ rfl rfl (QO.idxArr rfl sz26 sz24 rfl rfl (by omega) (by omega)) ?_
          have hq := chk ho2; clear ho2; obtain ⟨ck14, ho2⟩ := hq
          refine Ops_quiet _ rfl rfl (QO.idxArr rfl sz24 sz5 rfl rfl (by omega) (by omega)) ?_
          refine Ops_quiet _ rfl rfl (QO.load rfl sz5 rfl rfl (by (refine (rd_own (upd_same _ _ _) _).trans ?_); exact sqC_get (by omega) (by omega))) ?_
          refine Ops_quiet _ rfl rfl (QO.bin rfl rfl rfl rfl) ?_
          refine Ops_quiet _ rfl rfl (QO.pick_t rfl rfl rfl) ?_
          refine Ops_nil ?_
          refine thenA_n ?_
          refine wpA_cond rfl (fun g11 => ?_) (fun g11 => ?_)
          ·replace ho2 := cond_t ho2 g11
           refine wpA_seq ?_
           refine wpA_region ?_
           refine Ops_quiet _ rfl rfl (QO.assign rfl rfl) ?_
           refine Ops_nil ?_
           refine thenA_n ?_
           refine wpA_ret ?_
           refine thenA_r ?_
           refine blockA_r ?_
           refine thenA_r ?_
           refine thenA_r ?_
           obtain rfl := Option.some.inj ho2
           obtain rfl := Option.some.inj hk2
           exact ⟨rfl, (Sub.cons rfl Sub.nil), (Le.under (Le.refl _) hb1)⟩
          ·replace ho2 := cond_f ho2 g11
           refine wpA_skip ?_
           refine thenA_n ?_
           refine wpA_seq ?_
           refine wpA_region ?_
           refine Ops_quiet _ rfl rfl (QO.move rfl rfl) ?_
           refine Ops_quiet _ rfl rfl (QO.move rfl rfl) ?_
           refine Ops_quiet _ rfl rfl (QO.bin rfl rfl rfl rfl) ?_
           refine Ops_quiet _ rfl rfl (QO.move rfl rfl) ?_
           refine Ops_case 40 rfl (fun g12 => ?_) (fun g12 => ?_)
           ·replace ho2 := cond_t ho2 g12
            refine Ops_quiet _ rfl rfl (QO.move rfl rfl) ?_
            refine Ops_quiet _ rfl rfl (QO.move rfl rfl) ?_
            refine Ops_quiet _ rfl rfl (QO.bin rfl rfl rfl rfl) ?_
            refine Ops_quiet _ rfl rfl (QO.pick_t rfl rfl rfl) ?_
            refine Ops_nil ?_
            refine thenA_n ?_
            refine wpA_cond rfl (fun g13 => ?_) (fun g13 => ?_)
            ·replace ho2 := cond_t ho2 g13
             refine wpA_seq ?_
             refine wpA_seq ?_
             refine wpA_region ?_
             refine Ops_quiet _ rfl rfl (QO.move rfl rfl) ?_
             refine Ops_quiet _ rfl rfl (QO.move rfl rfl) ?_
             refine Ops_quiet _ rfl rfl (QO.fieldAt (fo := 1) rfl sz28 rfl rfl sz26 rfl rfl) ?_
             have hq := chk ho2; clear ho2; obtain ⟨ck15, ho2⟩ := hq
             refine Ops_quiet _ rfl rfl (QO.idxArr rfl sz26 sz24 rfl rfl (by omega) (by omega)) ?_
             have hq := chk ho2; clear ho2; obtain ⟨ck16, ho2⟩ := hq
             refine Ops_quiet _ rfl rfl (QO.idxArr rfl sz24 sz5 rfl rfl (by omega) (by omega)) ?_
             refine Ops_quiet _ rfl rfl (QO.load rfl sz5 rfl rfl (by (refine (rd_own (upd_same _ _ _) _).trans ?_); exact sqC_get (by omega) (by omega))) ?_
             refine Ops_quiet _ rfl rfl (QO.conv rfl sz5 sz3 rfl) ?_
             refine Ops_quiet _ rfl rfl (QO.move rfl rfl) ?_
             refine Ops_quiet _ rfl rfl (QO.bin rfl rfl rfl rfl) ?_
             refine Ops_quiet _ rfl rfl (QO.move rfl rfl) ?_
             refine Ops_case 54 rfl (fun g14 => ?_) (fun g14 => ?_)
             ·replace ho2 := cond_t ho2 g14
              refine Ops_skip rfl rfl ?_
              refine Ops_skip rfl rfl ?_
              refine Ops_skip rfl rfl ?_
              refine Ops_skip rfl rfl ?_
              refine Ops_skip rfl rfl ?_
              refine Ops_skip rfl rfl ?_
              refine Ops_skip rfl rfl ?_
              refine Ops_skip rfl rfl ?_
              refine Ops_skip rfl rfl ?_
              refine Ops_quiet _ rfl rfl (QO.pick_t rfl rfl rfl) ?_
              refine Ops_nil ?_
              refine thenA_n ?_
              refine wpA_cond_t rfl ?_
              refine wpA_seq ?_
              refine wpA_region ?_
              refine Ops_quiet _ rfl rfl (QO.assign rfl rfl) ?_
              refine Ops_nil ?_
              refine thenA_n ?_
              refine wpA_ret ?_
              refine thenA_r ?_
              refine blockA_r ?_
              refine thenA_r ?_
              refine thenA_r ?_
              obtain rfl := Option.some.inj ho2
              obtain rfl := Option.some.inj hk2
              exact ⟨rfl, (Sub.cons rfl Sub.nil), (Le.under (Le.refl _) hb1)⟩
             ·replace ho2 := cond_f ho2 g14
              refine Ops_quiet _ rfl rfl (QO.move rfl rfl) ?_
              refine Ops_quiet _ rfl rfl (QO.move rfl rfl) ?_
              refine Ops_quiet _ rfl rfl (QO.fieldAt (fo := 1) rfl sz28 rfl rfl sz26 rfl rfl) ?_
              have hq := chk ho2; clear ho2; obtain ⟨ck17, ho2⟩ := hq
              refine Ops_quiet _ rfl rfl (QO.idxArr rfl sz26 sz24 rfl rfl (by omega) (by omega)) ?_
              have hq := chk ho2; clear ho2; obtain ⟨ck18, ho2⟩ := hq
              refine Ops_quiet _ rfl rfl (QO.idxArr rfl sz24 sz5 rfl rfl (by omega) (by omega)) ?_
              refine Ops_quiet _ rfl rfl (QO.load rfl sz5 rfl rfl (by (refine (rd_own (upd_same _ _ _) _).trans ?_); exact sqC_get (by omega) (by omega))) ?_
              refine Ops_quiet _ rfl rfl (QO.conv rfl sz5 sz3 rfl) ?_
              refine Ops_quiet _ rfl rfl (QO.move rfl rfl) ?_
              refine Ops_quiet _ rfl rfl (QO.bin rfl rfl rfl rfl) ?_
              refine Ops_quiet _ rfl rfl (QO.pick_f rfl rfl rfl) ?_
              refine Ops_nil ?_
              refine thenA_n ?_
              refine wpA_cond rfl (fun g15 => ?_) (fun g15 => ?_)
              ·replace ho2 := cond_t ho2 g15
               refine wpA_seq ?_
               refine wpA_region ?_
               refine Ops_quiet _ rfl rfl (QO.assign rfl rfl) ?_
               refine Ops_nil ?_
               refine thenA_n ?_
               refine wpA_ret ?_
               refine thenA_r ?_
               refine blockA_r ?_
               refine thenA_r ?_
               refine thenA_r ?_
               obtain rfl := Option.some.inj ho2
               obtain rfl := Option.some.inj hk2
               exact ⟨rfl, (Sub.cons rfl Sub.nil), (Le.under (Le.refl _) hb1)⟩
              ·replace ho2 := cond_f ho2 g15
               refine wpA_skip ?_
               refine thenA_n ?_
               refine wpA_seq ?_
               refine wpA_region ?_
               refine Ops_quiet _ rfl rfl (QO.move rfl rfl) ?_
               refine Ops_quiet _ rfl rfl (QO.move rfl rfl) ?_
               refine Ops_quiet _ rfl rfl (QO.move rfl rfl) ?_
               refine Ops_quiet _ rfl rfl (QO.fieldAt (fo := 1) rfl sz28 rfl rfl sz26 rfl rfl) ?_
               have hq := chk ho2; clear ho2; obtain ⟨ck19, ho2⟩ := hq
               refine Ops_quiet _ rfl rfl (QO.idxArr rfl sz26 sz24 rfl rfl (by omega) (by omega)) ?_
               have hq := chk ho2; clear ho2; obtain ⟨ck20, ho2⟩ := hq
               refine Ops_quiet _ rfl rfl (QO.idxArr rfl sz24 sz5 rfl rfl (by omega) (by omega)) ?_
               refine Ops_quiet _ rfl rfl (QO.load rfl sz5 rfl rfl (by (refine (rd_own (upd_same _ _ _) _).trans ?_); exact sqC_get (by omega) (by omega))) ?_
               have hq := chk ho2; clear ho2; obtain ⟨ck21, ho2⟩ := hq
               refine Ops_quiet _ rfl rfl (QO.shl rfl rfl rfl (by first | assumption | omega)) ?_
               refine Ops_quiet _ rfl rfl (QO.bin rfl rfl rfl rfl) ?_
               refine Ops_quiet _ rfl rfl (QO.assign rfl rfl) ?_
               refine Ops_nil ?_
               refine thenA_n ?_
               refine wpA_region ?_
               refine Ops_quiet _ rfl rfl (QO.move rfl rfl) ?_
               refine Ops_quiet _ rfl rfl (QO.move rfl rfl) ?_
               refine Ops_quiet _ rfl rfl (QO.move rfl rfl) ?_
               refine Ops_quiet _ rfl rfl (QO.fieldAt (fo := 1) rfl sz28 rfl rfl sz26 rfl rfl) ?_
               have hq := chk ho2; clear ho2; obtain ⟨ck22, ho2⟩ := hq
               refine Ops_quiet _ rfl rfl (QO.idxArr rfl sz26 sz24 rfl rfl (by omega) (by omega)) ?_
               have hq := chk ho2; clear ho2; obtain ⟨ck23, ho2⟩ := hq
               refine Ops_quiet _ rfl rfl (QO.idxArr rfl sz24 sz5 rfl rfl (by omega) (by omega)) ?_
               refine Ops_quiet _ rfl rfl (QO.load rfl sz5 rfl rfl (by (refine (rd_own (upd_same _ _ _) _).trans ?_); exact sqC_get (by omega) (by omega))) ?_
               have hq := chk ho2; clear ho2; obtain ⟨ck24, ho2⟩ := hq
               refine Ops_quiet _ rfl rfl (QO.shl rfl rfl rfl (by first | assumption | omega)) ?_
               refine Ops_quiet _ rfl rfl (QO.bin rfl rfl rfl rfl) ?_
               refine Ops_quiet _ rfl rfl (QO.assign rfl rfl) ?_
               refine Ops_nil ?_
               refine blockA_n ?_
               refine thenA_n ?_
               refine wpA_region ?_
               refine Ops_quiet _ rfl rfl (QO.bin rfl rfl rfl rfl) ?_
               refine Ops_quiet _ rfl rfl (QO.move rfl rfl) ?_
               refine Ops_nil ?_
               obtain rfl := Option.some.inj ho2
               dsimp only at hk2
               exact thenA_n ⟨k2, Nat.lt_succ_self _, _, _, _, hk2, (Sub.cons rfl (Sub.cons rfl (Sub.cons rfl (Sub.cons rfl (Sub.cons rfl (Sub.cons rfl (Sub.cons rfl Sub.nil))))))), (Le.upd_left (Le.under (Le.refl _) hb1) (upd_same _ _ _) (by first | rfl | (simp; done)))⟩
            ·replace ho2 := cond_f ho2 g13
             refine wpA_skip ?_
             refine blockA_n ?_
             refine thenA_n ?_
             refine wpA_region ?_
             refine Ops_quiet _ rfl rfl (QO.bin rfl rfl rfl rfl) ?_
             refine Ops_quiet _ rfl rfl (QO.move rfl rfl) ?_
             refine Ops_nil ?_
             obtain rfl := Option.some.inj ho2
             dsimp only at hk2
             exact thenA_n ⟨k2, Nat.lt_succ_self _, _, _, _, hk2, (Sub.cons rfl (Sub.cons rfl (Sub.cons rfl (Sub.cons rfl (Sub.cons rfl (Sub.cons rfl (Sub.cons rfl Sub.nil))))))), (Le.upd_left (Le.under (Le.refl _) hb1) (upd_same _ _ _) (by first | rfl | (simp; done)))⟩
           ·replace ho2 := cond_f ho2 g12
            refine Ops_skip rfl rfl ?_
            refine Ops_skip rfl rfl ?_
            refine Ops_skip rfl rfl ?_
            refine Ops_quiet _ rfl rfl (QO.pick_f rfl rfl rfl) ?_
            refine Ops_nil ?_
            refine thenA_n ?_
            refine wpA_cond_f rfl ?_
            refine wpA_skip ?_
            refine blockA_n ?_
            refine thenA_n ?_
            refine wpA_region ?_
            refine Ops_quiet _ rfl rfl (QO.bin rfl rfl rfl rfl) ?_
            refine Ops_quiet _ rfl rfl (QO.move rfl rfl) ?_
            refine Ops_nil ?_
            obtain rfl := Option.some.inj ho2
            dsimp only at hk2
            exact thenA_n ⟨k2, Nat.lt_succ_self _, _, _, _, hk2, (Sub.cons rfl (Sub.cons rfl (Sub.cons rfl (Sub.cons rfl (Sub.cons rfl (Sub.cons rfl (Sub.cons rfl Sub.nil))))))), (Le.upd_left (Le.under (Le.refl _) hb1) (upd_same _ _ _) (by first | rfl | (simp; done)))⟩
         ·replace ho2 := cond_f ho2 g10
          refine Ops_skip rfl rfl ?_
          refine Ops_skip rfl rfl ?_
          refine Ops_skip rfl rfl ?_
          refine Ops_skip rfl rfl ?_
          refine Ops_skip rfl rfl ?_
          refine Ops_skip rfl rfl ?_
          refine Ops_skip rfl rfl ?_
          refine Ops_quiet _ rfl rfl (QO.pick_f rfl rfl rfl) ?_
          refine Ops_nil ?_
          refine thenA_n ?_
          refine wpA_cond_f rfl ?_
          refine wpA_skip ?_
          refine thenA_n ?_
          refine wpA_seq ?_
          refine wpA_region ?_
          refine Ops_quiet _ rfl rfl (QO.move rfl rfl) ?_
          refine Ops_quiet _ rfl rfl (QO.move rfl rfl) ?_
          refine Ops_quiet _ rfl rfl (QO.bin rfl rfl rfl rfl) ?_
          refine Ops_quiet _ rfl rfl (QO.move rfl rfl) ?_
          refine Ops_case 40 rfl (fun g16 => ?_) (fun g16 => ?_)
          ·replace ho2 := cond_t ho2 g16
           refine Ops_quiet _ rfl rfl (QO.move rfl rfl) ?_
           refine Ops_quiet _ rfl rfl (QO.move rfl rfl) ?_
           refine Ops_quiet _ rfl rfl (QO.bin rfl rfl rfl rfl) ?_
           refine Ops_quiet _ rfl rfl (QO.pick_t rfl rfl rfl) ?_
           refine Ops_nil ?_
           refine thenA_n ?_
           refine wpA_cond rfl (fun g17 => ?_) (fun g17 => ?_)
           ·replace ho2 := cond_t ho2 g17
            refine wpA_seq ?_
            refine wpA_seq ?_
            refine wpA_region ?_
            refine Ops_quiet _ rfl rfl (QO.move rfl rfl) ?_
            refine Ops_quiet _ rfl rfl (QO.move rfl rfl) ?_
            refine Ops_quiet _ rfl rfl (QO.fieldAt (fo := 1) rfl sz28 rfl rfl sz26 rfl rfl) ?_
            have hq := chk ho2; clear ho2; obtain ⟨ck25, ho2⟩ := hq
            refine Ops_quiet _ rfl rfl (QO.idxArr rfl sz26 sz24 rfl rfl (by omega) (by omega)) ?_
            have hq := chk ho2; clear ho2; obtain ⟨ck26, ho2⟩ := hq
            refine Ops_quiet _ rfl rfl (QO.idxArr rfl sz24 sz5 rfl rfl (by omega) (by omega)) ?_
            refine Ops_quiet _ rfl rfl (QO.load rfl sz5 rfl rfl (by (refine (rd_own (upd_same _ _ _) _).trans ?_); exact sqC_get (by omega) (by omega))) ?_
            refine Ops_quiet _ rfl rfl (QO.conv rfl sz5 sz3 rfl) ?_
            refine Ops_quiet _ rfl rfl (QO.move rfl rfl) ?_
            refine Ops_quiet _ rfl rfl (QO.bin rfl rfl rfl rfl) ?_
            refine Ops_quiet _ rfl rfl (QO.move rfl rfl) ?_
            refine Ops_case 54 rfl (fun g18 => ?_) (fun g18 => ?_)
            ·replace ho2 := cond_t ho2 g18
             refine Ops_skip rfl rfl ?_
             refine Ops_skip rfl rfl ?_
             refine Ops_skip rfl rfl ?_
             refine Ops_skip rfl rfl ?_
             refine Ops_skip rfl rfl ?_
             refine Ops_skip rfl rfl ?_
             refine Ops_skip rfl rfl ?_
             refine Ops_skip rfl rfl ?_
             refine Ops_skip rfl rfl ?_
             refine Ops_quiet _ rfl rfl (QO.pick_t rfl rfl rfl) ?_
             refine Ops_nil ?_
             refine thenA_n ?_
             refine wpA_cond_t rfl ?_
             refine wpA_seq ?_
             refine wpA_region ?_
             refine Ops_quiet _ rfl rfl (QO.assign rfl rfl) ?_
             refine Ops_nil ?_
             refine thenA_n ?_
             refine wpA_ret ?_
             refine thenA_r ?_
             refine blockA_r ?_
             refine thenA_r ?_
             refine thenA_r ?_
             obtain rfl := Option.some.inj ho2
             obtain rfl := Option.some.inj hk2
             exact ⟨rfl, (Sub.cons rfl Sub.nil), (Le.under (Le.refl _) hb1)⟩
            ·replace ho2 := cond_f ho2 g18
             refine Ops_quiet _ rfl rfl (QO.move rfl rfl) ?_
             refine Ops_quiet _ rfl rfl (QO.move rfl rfl) ?_
             refine Ops_quiet _ rfl rfl (QO.fieldAt (fo := 1) rfl sz28 rfl rfl sz26 rfl rfl) ?_
             have hq := chk ho2; clear ho2; obtain ⟨ck27, ho2⟩ := hq
             refine Ops_quiet _ rfl rfl (QO.idxArr rfl sz26 sz24 rfl rfl (by omega) (by omega)) ?_
             have hq := chk ho2; clear ho2; obtain ⟨ck28, ho2⟩ := hq
             refine Ops_quiet _ rfl rfl (QO.idxArr rfl sz24 sz5 rfl rfl (by omega) (by omega)) ?_
             refine Ops_quiet _ rfl rfl (QO.load rfl sz5 rfl rfl (by (refine (rd_own (upd_same _ _ _) _).trans ?_); exact sqC_get (by omega) (by omega))) ?_
             refine Ops_quiet _ rfl rfl (QO.conv rfl sz5 sz3 rfl) ?_
             refine Ops_quiet _ rfl rfl (QO.move rfl rfl) ?_
             refine Ops_quiet _ rfl rfl (QO.bin rfl rfl rfl rfl) ?_
             refine Ops_quiet _ rfl rfl (QO.pick_f rfl rfl rfl) ?_
             refine Ops_nil ?_
             refine thenA_n ?_
             refine wpA_cond rfl (fun g19 => ?_) (fun g19 => ?_)
             ·replace ho2 := cond_t ho2 g19
              refine wpA_seq ?_
              refine wpA_region ?_
              refine Ops_quiet _ rfl rfl (QO.assign rfl rfl) ?_
              refine Ops_nil ?_
              refine thenA_n ?_
              refine wpA_ret ?_
              refine thenA_r ?_
              refine blockA_r ?_
              refine thenA_r ?_
              refine thenA_r ?_
              obtain rfl := Option.some.inj ho2
              obtain rfl := Option.some.inj hk2
              exact ⟨rfl, (Sub.cons rfl Sub.nil), (Le.under (Le.refl _) hb1)⟩
             ·replace ho2 := cond_f ho2 g19
              refine wpA_skip ?_
              refine thenA_n ?_
              refine wpA_seq ?_
              refine wpA_region ?_
              refine Ops_quiet _ rfl rfl (QO.move rfl rfl) ?_
              refine Ops_quiet _ rfl rfl (QO.move rfl rfl) ?_
              refine Ops_quiet _ rfl rfl (QO.move rfl rfl) ?_
              refine Ops_quiet _ rfl rfl (QO.fieldAt (fo := 1) rfl sz28 rfl rfl sz26 rfl rfl) ?_
              have hq := chk ho2; clear ho2; obtain ⟨ck29, ho2⟩ := hq
              refine Ops_quiet _ rfl rfl (QO.idxArr rfl sz26 sz24 rfl rfl (by omega) (by omega)) ?_
              have hq := chk ho2; clear ho2; obtain ⟨ck30, ho2⟩ := hq
              refine Ops_quiet _ rfl rfl (QO.idxArr rfl sz24 sz5 rfl rfl (by omega) (by omega)) ?_
              refine Ops_quiet _ rfl rfl (QO.load rfl sz5 rfl rfl (by (refine (rd_own (upd_same _ _ _) _).trans ?_); exact sqC_get (by omega) (by omega))) ?_
              have hq := chk ho2; clear ho2; obtain ⟨ck31, ho2⟩ := hq
              refine Ops_quiet _ rfl rfl (QO.shl rfl rfl rfl (by first | assumption | omega)) ?_
              refine Ops_quiet _ rfl rfl (QO.bin rfl rfl rfl rfl) ?_
              refine Ops_quiet _ rfl rfl (QO.assign rfl rfl) ?_
              refine Ops_nil ?_
              refine thenA_n ?_
              refine wpA_region ?_
              refine Ops_quiet _ rfl rfl (QO.move rfl rfl) ?_
              refine Ops_quiet _ rfl rfl (QO.move rfl rfl) ?_
              refine Ops_quiet _ rfl rfl (QO.move rfl rfl) ?_
              refine Ops_quiet _ rfl rfl (QO.fieldAt (fo := 1) rfl sz28 rfl rfl sz26 rfl rfl) ?_
              have hq := chk ho2; clear ho2; obtain ⟨ck32, ho2⟩ := hq
              refine Ops_quiet _ rfl rfl (QO.idxArr rfl sz26 sz24 rfl rfl (by omega) (by omega)) ?_
              have hq := chk ho2; clear ho2; obtain ⟨ck33, ho2⟩ := hq
              refine Ops_quiet _ rfl rfl (QO.idxArr rfl sz24 sz5 rfl rfl (by omega) (by omega)) ?_
              refine Ops_quiet _ rfl rfl (QO.load rfl sz5 rfl rfl (by (refine (rd_own (upd_same _ _ _) _).trans ?_); exact sqC_get (by omega) (by omega))) ?_
              have hq := chk ho2; clear ho2; obtain ⟨ck34, ho2⟩ := hq
              refine Ops_quiet _ rfl rfl (QO.shl rfl rfl rfl (by first | assumption | omega)) ?_
              refine Ops_quiet _ rfl rfl (QO.bin rfl rfl rfl rfl) ?_
              refine Ops_quiet _ rfl rfl (QO.assign rfl rfl) ?_
              refine Ops_nil ?_
              refine blockA_n ?_
              refine thenA_n ?_
              refine wpA_region ?_
              refine Ops_quiet _ rfl rfl (QO.bin rfl rfl rfl rfl) ?_
              refine Ops_quiet _ rfl rfl (QO.move rfl rfl) ?_
              refine Ops_nil ?_
              obtain rfl := Option.some.inj ho2
              dsimp only at hk2
              exact thenA_n ⟨k2, Nat.lt_succ_self _, _, _, _, hk2, (Sub.cons rfl (Sub.cons rfl (Sub.cons rfl (Sub.cons rfl (Sub.cons rfl (Sub.cons rfl (Sub.cons rfl Sub.nil))))))), (Le.upd_left (Le.under (Le.refl _) hb1) (upd_same _ _ _) (by first | rfl | (simp; done)))⟩
           ·replace ho2 := cond_f ho2 g17
            refine wpA_skip ?_
            refine blockA_n ?_
            refine thenA_n ?_
            refine wpA_region ?_
            refine Ops_quiet _ rfl rfl (QO.bin rfl rfl rfl rfl) ?_
            refine Ops_quiet _ rfl rfl (QO.move rfl rfl) ?_
            refine Ops_nil ?_
            obtain rfl := Option.some.inj ho2
            dsimp only at hk2
            exact thenA_n ⟨k2, Nat.lt_succ_self _, _, _, _, hk2, (Sub.cons rfl (Sub.cons rfl (Sub.cons rfl (Sub.cons rfl (Sub.cons rfl (Sub.cons rfl (Sub.cons rfl Sub.nil))))))), (Le.upd_left (Le.under (Le.refl _) hb1) (upd_same _ _ _) (by first | rfl | (simp; done)))⟩
          ·replace ho2 := cond_f ho2 g16
           refine Ops_skip rfl rfl ?_
           refine Ops_skip rfl rfl ?_
           refine Ops_skip rfl rfl ?_
           refine Ops_quiet _ rfl rfl (QO.pick_f rfl rfl rfl) ?_
           refine Ops_nil ?_
           refine thenA_n ?_
           refine wpA_cond_f rfl ?_
           refine wpA_skip ?_
           refine blockA_n ?_
           refine thenA_n ?_
           refine wpA_region ?_
           refine Ops_quiet _ rfl rfl (QO.bin rfl rfl rfl rfl) ?_
           refine Ops_quiet _ rfl rfl (QO.move rfl rfl) ?_
           refine Ops_nil ?_
           obtain rfl := Option.some.inj ho2
           dsimp only at hk2
           exact thenA_n ⟨k2, Nat.lt_succ_self _, _, _, _, hk2, (Sub.cons rfl (Sub.cons rfl (Sub.cons rfl (Sub.cons rfl (Sub.cons rfl (Sub.cons rfl (Sub.cons rfl Sub.nil))))))), (Le.upd_left (Le.under (Le.refl _) hb1) (upd_same _ _ _) (by first | rfl | (simp; done)))⟩
       ·replace ho2 := cond_f ho2 g3
        refine wpA_exit ?_
        refine thenA_e ?_
        refine thenA_e ?_
        obtain rfl := Option.some.inj ho2
        obtain rfl := Option.some.inj hk2
        exact ⟨rfl, _, _, _, rfl, (Sub.cons rfl (Sub.cons rfl (Sub.cons rfl (Sub.cons rfl (Sub.cons rfl (Sub.cons rfl (Sub.cons rfl Sub.nil))))))), (Le.upd_left (Le.under (Le.refl _) hb1) (upd_same _ _ _) (by first | rfl | (simp; done)))⟩
     ·intro e s' h' hq
      cases R2 with
      | next x => exact hq.elim
      | ret r =>
       obtain ⟨rfl, hsub1, hle1⟩ := hq
       try dsimp only at ho1
       refine blockA_r ?_
       refine thenA_r ?_
       refine blockA_r ?_
       refine thenA_r ?_
       refine thenA_r ?_
       obtain rfl := Option.some.inj ho1
       obtain rfl := Option.some.inj hk1
       exact ⟨rfl, (Sub.trans hsub1 (Sub.cons rfl Sub.nil)), (Le.trans (Le.refl _) hle1)⟩
      | stop x id =>
       obtain ⟨rfl, x5, x6, x7, rfl, hsub2, hle2⟩ := hq
       try dsimp only at ho1
       by_cases hid1 : id = 2
       ·subst hid1
        rw [if_pos rfl] at ho1
        refine blockA_s ?_
        refine thenA_n ?_
        refine wpA_weaken hsub2.ok hle2 ?_
        refine wpA_seq ?_
        refine wpA_region ?_
        refine Ops_quiet _ rfl rfl (QO.move rfl rfl) ?_
        refine Ops_quiet _ rfl rfl (QO.move rfl rfl) ?_
        refine Ops_quiet _ rfl rfl (QO.bin rfl rfl rfl rfl) ?_
        refine Ops_quiet _ rfl rfl (QO.move rfl rfl) ?_
        refine Ops_case 87 rfl (fun g20 => ?_) (fun g20 => ?_)
        ·replace ho1 := cond_t ho1 g20
         refine Ops_quiet _ rfl rfl (QO.move rfl rfl) ?_
         refine Ops_quiet _ rfl rfl (QO.move rfl rfl) ?_
         have hq := chk ho1; clear ho1; obtain ⟨ck35, ho1⟩ := hq
         refine Ops_quiet _ rfl rfl (QO.shl rfl rfl rfl (by first | assumption | omega)) ?_
         refine Ops_quiet _ rfl rfl (QO.bin rfl rfl rfl rfl) ?_
         refine Ops_quiet _ rfl rfl (QO.bin rfl rfl rfl rfl) ?_
         refine Ops_quiet _ rfl rfl (QO.move rfl rfl) ?_
         refine Ops_case 93 rfl (fun g21 => ?_) (fun g21 => ?_)
         ·replace ho1 := cond_t ho1 g21
          refine Ops_skip rfl rfl ?_
          refine Ops_skip rfl rfl ?_
          refine Ops_skip rfl rfl ?_
          refine Ops_skip rfl rfl ?_
          refine Ops_skip rfl rfl ?_
          refine Ops_quiet _ rfl rfl (QO.pick_t rfl rfl rfl) ?_
          refine Ops_quiet _ rfl rfl (QO.pick_t rfl rfl rfl) ?_
          refine Ops_nil ?_
          refine thenA_n ?_
          refine wpA_cond_t rfl ?_
          refine wpA_seq ?_
          refine wpA_region ?_
          refine Ops_quiet _ rfl rfl (QO.assign rfl rfl) ?_
          refine Ops_nil ?_
          refine thenA_n ?_
          refine wpA_ret ?_
          refine blockA_r ?_
          refine thenA_r ?_
          refine thenA_r ?_
          obtain rfl := Option.some.inj ho1
          obtain rfl := Option.some.inj hk1
          exact ⟨rfl, (Sub.cons rfl Sub.nil), (Le.under (Le.refl _) hb1)⟩
         ·replace ho1 := cond_f ho1 g21
          refine Ops_quiet _ rfl rfl (QO.move rfl rfl) ?_
          refine Ops_quiet _ rfl rfl (QO.move rfl rfl) ?_
          have hq := chk ho1; clear ho1; obtain ⟨ck36, ho1⟩ := hq
          refine Ops_quiet _ rfl rfl (QO.shl rfl rfl rfl (by first | assumption | omega)) ?_
          refine Ops_quiet _ rfl rfl (QO.bin rfl rfl rfl rfl) ?_
          refine Ops_quiet _ rfl rfl (QO.bin rfl rfl rfl rfl) ?_
          refine Ops_quiet _ rfl rfl (QO.pick_f rfl rfl rfl) ?_
          refine Ops_quiet _ rfl rfl (QO.pick_t rfl rfl rfl) ?_
          refine Ops_nil ?_
          refine thenA_n ?_
          refine wpA_cond rfl (fun g22 => ?_) (fun g22 => ?_)
          ·replace ho1 := cond_t ho1 g22
           refine wpA_seq ?_
           refine wpA_region ?_
           refine Ops_quiet _ rfl rfl (QO.assign rfl rfl) ?_
           refine Ops_nil ?_
           refine thenA_n ?_
           refine wpA_ret ?_
           refine blockA_r ?_
           refine thenA_r ?_
           refine thenA_r ?_
           obtain rfl := Option.some.inj ho1
           obtain rfl := Option.some.inj hk1
           exact ⟨rfl, (Sub.cons rfl Sub.nil), (Le.under (Le.refl _) hb1)⟩
          ·replace ho1 := cond_f ho1 g22
           refine wpA_skip ?_
           refine blockA_n ?_
           refine thenA_n ?_
           refine wpA_region ?_
           refine Ops_quiet _ rfl rfl (QO.bin rfl rfl rfl rfl) ?_
           refine Ops_quiet _ rfl rfl (QO.move rfl rfl) ?_
           refine Ops_nil ?_
           obtain rfl := Option.some.inj ho1
           dsimp only at hk1
           exact thenA_n ⟨k1, Nat.lt_succ_self _, _, hk1, (Sub.cons rfl (Sub.cons rfl (Sub.cons rfl Sub.nil))), (Le.upd_left (Le.under (Le.refl _) hb1) (upd_same _ _ _) (by first | rfl | (simp; done)))⟩
        ·replace ho1 := cond_f ho1 g20
         refine Ops_skip rfl rfl ?_
         refine Ops_skip rfl rfl ?_
         refine Ops_skip rfl rfl ?_
         refine Ops_skip rfl rfl ?_
         refine Ops_skip rfl rfl ?_
         refine Ops_skip rfl rfl ?_
         refine Ops_skip rfl rfl ?_
         refine Ops_skip rfl rfl ?_
         refine Ops_skip rfl rfl ?_
         refine Ops_skip rfl rfl ?_
         refine Ops_skip rfl rfl ?_
         refine Ops_skip rfl rfl ?_
         refine Ops_quiet _ rfl rfl (QO.pick_f rfl rfl rfl) ?_
         refine Ops_nil ?_
         refine thenA_n ?_
         refine wpA_cond_f rfl ?_
         refine wpA_skip ?_
         refine blockA_n ?_
         refine thenA_n ?_
         refine wpA_region ?_
         refine Ops_quiet _ rfl rfl (QO.bin rfl rfl rfl rfl) ?_
         refine Ops_quiet _ rfl rfl (QO.move rfl rfl) ?_
         refine Ops_nil ?_
         obtain rfl := Option.some.inj ho1
         dsimp only at hk1
         exact thenA_n ⟨k1, Nat.lt_succ_self _, _, hk1, (Sub.cons rfl (Sub.cons rfl (Sub.cons rfl Sub.nil))), (Le.upd_left (Le.under (Le.refl _) hb1) (upd_same _ _ _) (by first | rfl | (simp; done)))⟩
       rw [if_neg hid1] at ho1
       exact absurd ho1 (by simp)
    ·replace ho1 := cond_f ho1 g2
     refine wpA_exit ?_
     refine thenA_e ?_
     refine thenA_e ?_
     obtain rfl := Option.some.inj ho1
     obtain rfl := Option.some.inj hk1
     exact ⟨rfl, _, rfl, (Sub.cons rfl (Sub.cons rfl (Sub.cons rfl Sub.nil))), (Le.upd_left (Le.under (Le.refl _) hb1) (upd_same _ _ _) (by first | rfl | (simp; done)))⟩
  ·intro e s' h' hq
   cases R1 with
   | next x => exact hq.elim
   | ret r =>
    obtain ⟨rfl, hsub3, hle3⟩ := hq
    try dsimp only at hm
    refine blockA_r ?_
    refine thenA_r ?_
    obtain rfl := Option.some.inj hm
    refine retA_sub hsub3.ok hle3 ?_
    exact retA_r (h2 := h) (Res.one rfl (rfl)) (Le.refl _) ⟨rfl, rfl⟩
   | stop x id =>
    obtain ⟨rfl, x8, rfl, hsub4, hle4⟩ := hq
    try dsimp only at hm
    by_cases hid2 : id = 0
    ·subst hid2
     rw [if_pos rfl] at hm
     refine blockA_s ?_
     refine thenA_n ?_
     refine wpA_weaken hsub4.ok hle4 ?_
     refine wpA_seq ?_
     refine wpA_region ?_
     refine Ops_quiet _ rfl rfl (QO.assign rfl rfl) ?_
     refine Ops_nil ?_
     refine thenA_n ?_
     refine wpA_ret ?_
     obtain rfl := Option.some.inj hm
     exact retA_r (h2 := h) (Res.one rfl (rfl)) (Le.under (Le.refl _) hb1) ⟨rfl, rfl⟩
    rw [if_neg hid2] at hm
    exact absurd hm (by simp)

/-! (loop.example/g01195/impl.Square).elements -/
theorem c_impl_Square_elements {a0 : Sq} {h : Hp} {r : (List Int)} (hm : m_impl_Square_elements a0 = some r)  :
    CC Try.prog 48 #[.agg (sqC a0).toArray] h (NewSl 5 1 (ints .u8 r) r.length h) := by
 unfold m_impl_Square_elements at hm
 refine CC.enter Try.func48 rfl Try.ntmps48 rfl ?_
 refine wpA_seq ?_
 refine wpA_region ?_
 refine Ops_loud rfl (LO.boxAgg rfl rfl rfl (fun b1 hb1 => ?_))
 refine Ops_quiet _ rfl rfl (QO.assign rfl rfl) ?_
 refine Ops_nil ?_
 refine thenA_n ?_
 refine wpA_seq ?_
 refine wpA_region ?_
 refine Ops_loud rfl (LO.sliceNil rfl sz22 sz5 rfl (fun b2 hb2 => ?_))
 simp only [upd_noneA] at hb2
 obtain ⟨n_b2_b1, hb2⟩ := hb2
 refine Ops_quiet _ rfl rfl (QO.assign rfl rfl) ?_
 refine Ops_nil ?_
 refine thenA_n ?_
 refine wpA_seq ?_
 refine wpA_seq ?_
 refine wpA_region ?_
 refine Ops_quiet _ rfl rfl (QO.fieldAt (fo := 0) rfl sz28 rfl rfl sz2 rfl rfl) ?_
 refine Ops_quiet _ rfl rfl (QO.load rfl sz2 rfl rfl (by (refine (rd_own ((upd_ne _ _ n_b2_b1.ne.symm).trans (upd_same _ _ _)) _).trans ?_); exact rfl)) ?_
 refine Ops_quiet _ rfl rfl (QO.conv rfl sz2 sz5 rfl) ?_
 refine Ops_quiet _ rfl rfl (QO.move rfl rfl) ?_
 refine Ops_nil ?_
 refine thenA_n ?_
 refine wpA_block ?_
 obtain ⟨R1, hR, hm⟩ := Option.bind_eq_some_iff.1 hm
 obtain ⟨k1, hk1⟩ := loopV_some hR
 clear hR
 refine wpA_mono (Q := fun e s' h' => match (generalizing := false) R1 with | .stop x id => e = .exit id ∧ ∃ (x1 : (List Int)) (x2 : Int) (b3 cap_b3 : Nat), (x1, x2) = x ∧ (h) b3 = none ∧ x1.length ≤ cap_b3 ∧ cap_b3 ≤ maxLen ∧ Sub s' [(3, .slice (some ⟨b3, 0, none⟩) x1.length cap_b3), (8, .int .u8 (IntKind.u8.wrap a0.order)), (9, .int .u8 x2)] ∧ Le (upd (h) b3 (.own 5 (ints .u8 x1) (cap_b3 * 1))) h' | .ret r => False | .next _ => False) ?_ ?_
 ·refine wpA_loop (fun k s' h' => ∃ (x1 : (List Int)) (x2 : Int) (b3 cap_b3 : Nat), loopW (m_impl_Square_elements_l0 a0) k (x1, x2) = some R1 ∧ (h) b3 = none ∧ x1.length ≤ cap_b3 ∧ cap_b3 ≤ maxLen ∧ Sub s' [(3, .slice (some ⟨b3, 0, none⟩) x1.length cap_b3), (8, .int .u8 (IntKind.u8.wrap a0.order)), (9, .int .u8 x2)] ∧ Le (upd (h) b3 (.own 5 (ints .u8 x1) (cap_b3 * 1))) h') (m := k1) ⟨[], 0, b2, 0, hk1, hb2, (by first | assumption | (simp; done) | omega), (by first | assumption | (simp only [maxLen]; omega)), (Sub.cons rfl (Sub.cons rfl (Sub.cons rfl Sub.nil))), (Le.upd_left (Le.under (Le.under (Le.refl _) hb1) hb2) (upd_same _ _ _) (by first | rfl | (simp; done)))⟩ ?_
  rintro k1 s' h' ⟨x1, x2, b3, cap_b3, hk1, hb3, hk_b3, hc_b3, hsub, hle⟩
  refine wpA_weaken hsub.ok hle ?_
  clear hsub hle s' h'
  cases k1 with
  | zero => exact absurd hk1 (by simp [loopW])
  | succ k1 =>
   obtain ⟨o1, ho1, hk1⟩ := loopW_succ hk1
   unfold m_impl_Square_elements_l0 at ho1
   try dsimp only at ho1
   refine wpA_seq ?_
   refine wpA_region ?_
   refine Ops_quiet _ rfl rfl (QO.bin rfl rfl rfl rfl) ?_
   refine Ops_nil ?_
   refine thenA_n ?_
   refine wpA_seq ?_
   refine wpA_cond rfl (fun g1 => ?_) (fun g1 => ?_)
   ·replace ho1 := cond_t ho1 g1
    refine wpA_skip ?_
    refine thenA_n ?_
    refine wpA_seq ?_
    refine wpA_block ?_
    refine wpA_seq ?_
    refine wpA_region ?_
    refine Ops_quiet _ rfl rfl (QO.move rfl rfl) ?_
    refine Ops_quiet _ rfl rfl (QO.assign rfl rfl) ?_
    refine Ops_nil ?_
    refine thenA_n ?_
    refine wpA_region ?_
    refine Ops_quiet _ rfl rfl (QO.move rfl rfl) ?_
    refine Ops_quiet _ rfl rfl (QO.move rfl rfl) ?_
    refine Ops_loud rfl (LO.slice1 (r := ints .u8 [x2]) rfl sz22 sz5 zr5 (by first | rfl | (simp [rowsC_length, rowsA_length, mpC_length, sqC_length, tbC_length, tabI_length, tabB_length, ints_length, plsC_length, trC_length, sqsC_length, strsC_length, boolsC_length, tbB_length, List.length_append, List.length_cons, List.length_nil, List.length_set, List.length_replicate, rep_length]; done)) (by decide) (by decide) rfl rfl (by first | rfl | (simp [rowsC_length, rowsA_length, mpC_length, sqC_length, tbC_length, tabI_length, tabB_length, ints_length, plsC_length, trC_length, sqsC_length, strsC_length, boolsC_length, tbB_length, List.length_append, List.length_cons, List.length_nil, List.length_set, List.length_replicate, rep_length]; done)) rfl (fun b4 hb4 => ?_))
    simp only [upd_noneA] at hb4
    obtain ⟨n_b4_b3, hb4⟩ := hb4
    have hq := chk ho1; clear ho1; obtain ⟨ck1, ho1⟩ := hq
    refine Ops_loud rfl (LO.append2 (ys := ints .u8 [x2]) (k' := (x1 ++ [x2]).length) (xs' := ints .u8 (x1 ++ [x2])) rfl sz22 el5 rfl rfl (Del.drop n_b4_b3.ne hb4 (Del.here hb3)) (by first | assumption | omega) (by first | assumption | (simp only [maxLen]; omega)) (by first | rfl | (simp [rowsC_length, rowsA_length, mpC_length, sqC_length, tbC_length, tabI_length, tabB_length, ints_length, plsC_length, trC_length, sqsC_length, strsC_length, boolsC_length, tbB_length, List.length_append, List.length_cons, List.length_nil, List.length_set, List.length_replicate, rep_length]; done) | (simp [rowsC_length, rowsA_length, mpC_length, sqC_length, tbC_length, tabI_length, tabB_length, ints_length, plsC_length, trC_length, sqsC_length, strsC_length, boolsC_length, tbB_length, List.length_append, List.length_cons, List.length_nil, List.length_set, List.length_replicate, rep_length]; omega)) (by first | rfl | (simp [rowsC_length, rowsA_length, mpC_length, sqC_length, tbC_length, tabI_length, tabB_length, ints_length, plsC_length, trC_length, sqsC_length, strsC_length, boolsC_length, tbB_length, List.length_append, List.length_cons, List.length_nil, List.length_set, List.length_replicate, rep_length]; done) | (simp [rowsC_length, rowsA_length, mpC_length, sqC_length, tbC_length, tabI_length, tabB_length, ints_length, plsC_length, trC_length, sqsC_length, strsC_length, boolsC_length, tbB_length, List.length_append, List.length_cons, List.length_nil, List.length_set, List.length_replicate, rep_length]; omega)) (RdS.own (upd_same _ _ _)) (by first | assumption | exact tabI_one _ _ _ | exact tbC_one _ | exact sqC_one _ | exact tabB_one _ _ | exact ints_one _ _ | exact plsC_one _ | exact strsC_one _ | exact srcC_one _ _ _ _ | (intro v hv; simp at hv; subst hv; rfl)) (by decide) (by omega) (by decide) (by decide) rfl (by first | rfl | (simp [rowsC_length, rowsA_length, mpC_length, sqC_length, tbC_length, tabI_length, tabB_length, ints_length, plsC_length, trC_length, sqsC_length, strsC_length, boolsC_length, tbB_length, List.length_append, List.length_cons, List.length_nil, List.length_set, List.length_replicate, rep_length]; done) | (simp [rowsC_length, rowsA_length, mpC_length, sqC_length, tbC_length, tabI_length, tabB_length, ints_length, plsC_length, trC_length, sqsC_length, strsC_length, boolsC_length, tbB_length, List.length_append, List.length_cons, List.length_nil, List.length_set, List.length_replicate, rep_length]; omega)) (by first | rfl | (simp [ints, plsC, sqsC, boolsC, strsC]; done)) (fun b5 cap_b5 hb5 hk_b5 hc_b5 => ?_))
    refine Ops_quiet _ rfl rfl (QO.assign rfl rfl) ?_
    refine Ops_nil ?_
    refine blockA_n ?_
    refine thenA_n ?_
    refine wpA_region ?_
    refine Ops_quiet _ rfl rfl (QO.bin rfl rfl rfl rfl) ?_
    refine Ops_quiet _ rfl rfl (QO.move rfl rfl) ?_
    refine Ops_nil ?_
    obtain rfl := Option.some.inj ho1
    dsimp only at hk1
    exact thenA_n ⟨k1, Nat.lt_succ_self _, _, _, b5, cap_b5, hk1, hb5, (by first | assumption | (simp; done) | omega), (by first | assumption | (simp only [maxLen]; omega)), (Sub.cons rfl (Sub.cons rfl (Sub.cons rfl Sub.nil))), (Le.upd_left (Le.under (Le.refl _) hb5) (upd_same _ _ _) (by first | rfl | (simp; done)))⟩
   ·replace ho1 := cond_f ho1 g1
    refine wpA_exit ?_
    refine thenA_e ?_
    refine thenA_e ?_
    obtain rfl := Option.some.inj ho1
    obtain rfl := Option.some.inj hk1
    exact ⟨rfl, _, _, b3, cap_b3, rfl, hb3, (by first | assumption | (simp; done) | omega), (by first | assumption | (simp only [maxLen]; omega)), (Sub.cons rfl (Sub.cons rfl (Sub.cons rfl Sub.nil))), (Le.upd_left (Le.under (Le.refl _) hb3) (upd_same _ _ _) (by first | rfl | (simp; done)))⟩
 ·intro e s' h' hq
  cases R1 with
  | next x => exact hq.elim
  | ret r => exact hq.elim
  | stop x id =>
   obtain ⟨rfl, x3, x4, b6, cap_b6, rfl, hb6, hk_b6, hc_b6, hsub1, hle1⟩ := hq
   try dsimp only at hm
   by_cases hid1 : id = 0
   ·subst hid1
    rw [if_pos rfl] at hm
    refine blockA_s ?_
    refine thenA_n ?_
    refine wpA_weaken hsub1.ok hle1 ?_
    refine wpA_seq ?_
    refine wpA_region ?_
    refine Ops_quiet _ rfl rfl (QO.move rfl rfl) ?_
    refine Ops_quiet _ rfl rfl (QO.assign rfl rfl) ?_
    refine Ops_nil ?_
    refine thenA_n ?_
    refine wpA_ret ?_
    obtain rfl := Option.some.inj hm
    exact retA_r (h2 := upd h b6 (.own 5 (ints .u8 x3) (cap_b6 * 1))) (Res.one rfl (rfl)) (Le.upd_left (Le.under (Le.refl _) hb6) (upd_same _ _ _) (by first | rfl | (simp; done))) ⟨b6, cap_b6, (by first | rfl | (simp [*]; done)), (by assumption), (by first | assumption | omega | (simp only [List.length_set, List.length_replicate]; first | done | assumption | omega)), (by first | assumption | (simp only [maxLen]; omega)), rfl⟩
   rw [if_neg hid1] at hm
   exact absurd hm (by simp)

/-! (loop.example/g01195/impl.Square).isUnit -/
theorem c_impl_Square_isUnit {a0 : Sq} {a1 : Int} {h : Hp} {r : Bool} (hm : m_impl_Square_isUnit a0 a1 = some r)  :
    QC Try.prog 44 #[.agg (sqC a0).toArray, .int .u8 a1] h (.bool r) := by
 unfold m_impl_Square_isUnit at hm
 refine CC.enter Try.func44 rfl Try.ntmps44 rfl ?_
 refine wpA_seq ?_
 refine wpA_region ?_
 refine Ops_loud rfl (LO.boxAgg rfl rfl rfl (fun b1 hb1 => ?_))
 refine Ops_quiet _ rfl rfl (QO.assign rfl rfl) ?_
 refine Ops_nil ?_
 refine thenA_n ?_
 refine wpA_seq ?_
 refine wpA_seq ?_
 refine wpA_region ?_
 refine Ops_quiet _ rfl rfl (QO.loadRow (cs := sqC a0) (hr := (rdAll (upd_same _ _ _))) rfl sz28 rfl rfl (sqC_length _)) ?_
 have hq := Option.bind_eq_some_iff.1 hm; clear hm; obtain ⟨r1, hr1, hm⟩ := hq
 refine Ops_call _ _ rfl rfl (EO.fn rfl Try.func48 rfl rfl (Evs.cons rfl Evs.nil)) (CC.mono (c_impl_Square_elements hr1 ) ?_)
 rintro _ _ ⟨b2, cap_b2, rfl, hb2, hk_b2, hc_b2, rfl⟩
 simp only [upd_noneA] at hb2
 obtain ⟨n_b2_b1, hb2⟩ := hb2
 refine Ops_quiet _ rfl rfl (QO.lenSl rfl sz22 rfl) ?_
 refine Ops_quiet _ rfl rfl (QO.move rfl rfl) ?_
 refine Ops_nil ?_
 refine thenA_n ?_
 refine wpA_block ?_
 obtain ⟨R1, hR, hm⟩ := Option.bind_eq_some_iff.1 hm
 obtain ⟨k1, hk1⟩ := loopV_some hR
 clear hR
 refine wpA_mono (Q := fun e s' h' => match (generalizing := false) R1 with | .stop x id => e = .exit id ∧ ∃ (x1 : Int), x1 = x ∧ Sub s' [(1, .int .u8 a1), (2, .pointer (some ⟨b1, 0, none⟩)), (8, .slice (some ⟨b2, 0, none⟩) r1.length cap_b2), (9, .int .i64 ((r1.length : Nat) : Int)), (10, .int .i64 x1)] ∧ Le (upd (upd (h) b1 (.own 28 (sqC a0) 101)) b2 (.own 5 (ints .u8 r1) (cap_b2 * 1))) h' | .ret r => e = .ret ∧ Sub s' [(4, .bool r)] ∧ Le (h) h' | .next _ => False) ?_ ?_
 ·refine wpA_loop (fun k s' h' => ∃ (x1 : Int), loopW (m_impl_Square_isUnit_l0 a0 a1 r1) k x1 = some R1 ∧ Sub s' [(1, .int .u8 a1), (2, .pointer (some ⟨b1, 0, none⟩)), (8, .slice (some ⟨b2, 0, none⟩) r1.length cap_b2), (9, .int .i64 ((r1.length : Nat) : Int)), (10, .int .i64 x1)] ∧ Le (upd (upd (h) b1 (.own 28 (sqC a0) 101)) b2 (.own 5 (ints .u8 r1) (cap_b2 * 1))) h') (m := k1) ⟨0, hk1, (Sub.cons rfl (Sub.cons rfl (Sub.cons rfl (Sub.cons rfl (Sub.cons rfl Sub.nil))))), (Le.upd_left (Le.upd_left (Le.under (Le.under (Le.refl _) hb1) hb2) ((upd_ne _ _ n_b2_b1.ne.symm).trans (upd_same _ _ _)) (by first | rfl | (simp; done))) (upd_same _ _ _) (by first | rfl | (simp; done)))⟩ ?_
  rintro k1 s' h' ⟨x1, hk1, hsub, hle⟩
  refine wpA_weaken hsub.ok hle ?_
  clear hsub hle s' h'
  cases k1 with
  | zero => exact absurd hk1 (by simp [loopW])
  | succ k1 =>
   obtain ⟨o1, ho1, hk1⟩ := loopW_succ hk1
   unfold m_impl_Square_isUnit_l0 at ho1
   try dsimp only at ho1
   refine wpA_seq ?_
   refine wpA_region ?_
   refine Ops_quiet _ rfl rfl (QO.bin rfl rfl rfl rfl) ?_
   refine Ops_nil ?_
   refine thenA_n ?_
   refine wpA_seq ?_
   refine wpA_cond rfl (fun g1 => ?_) (fun g1 => ?_)
   ·replace ho1 := cond_t ho1 g1
    refine wpA_skip ?_
    refine thenA_n ?_
    refine wpA_seq ?_
    refine wpA_block ?_
    refine wpA_seq ?_
    refine wpA_region ?_
    have hq := chk ho1; clear ho1; obtain ⟨ck1, ho1⟩ := hq
    refine Ops_quiet _ rfl rfl (QO.idxSl rfl sz22 sz5 rfl rfl (by omega) (by omega)) ?_
    refine Ops_quiet _ rfl rfl (QO.load rfl sz5 rfl rfl (by (refine (rd_own (upd_same _ _ _) _).trans ?_); exact ints_get01 (by first | omega | (simp only [List.length_cons, List.length_nil]; omega)))) ?_
    refine Ops_quiet _ rfl rfl (QO.assign rfl rfl) ?_
    refine Ops_nil ?_
    refine thenA_n ?_
    refine wpA_seq ?_
    refine wpA_region ?_
    refine Ops_quiet _ rfl rfl (QO.move rfl rfl) ?_
    refine Ops_quiet _ rfl rfl (QO.move rfl rfl) ?_
    refine Ops_quiet _ rfl rfl (QO.fieldAt (fo := 1) rfl sz28 rfl rfl sz26 rfl rfl) ?_
    have hq := chk ho1; clear ho1; obtain ⟨ck2, ho1⟩ := hq
    refine Ops_quiet _ rfl rfl (QO.idxArr rfl sz26 sz24 rfl rfl (by omega) (by omega)) ?_
    have hq := chk ho1; clear ho1; obtain ⟨ck3, ho1⟩ := hq
    refine Ops_quiet _ rfl rfl (QO.idxArr rfl sz24 sz5 rfl rfl (by omega) (by omega)) ?_
    refine Ops_quiet _ rfl rfl (QO.load rfl sz5 rfl rfl (by (refine (rd_own ((upd_ne _ _ n_b2_b1.ne.symm).trans (upd_same _ _ _)) _).trans ?_); exact sqC_get (by omega) (by omega))) ?_
    refine Ops_quiet _ rfl rfl (QO.move rfl rfl) ?_
    refine Ops_quiet _ rfl rfl (QO.bin rfl rfl rfl rfl) ?_
    refine Ops_quiet _ rfl rfl (QO.move rfl rfl) ?_
    refine Ops_case 22 rfl (fun g2 => ?_) (fun g2 => ?_)
    ·replace ho1 := cond_t ho1 g2
     refine Ops_skip rfl rfl ?_
     refine Ops_skip rfl rfl ?_
     refine Ops_skip rfl rfl ?_
     refine Ops_skip rfl rfl ?_
     refine Ops_skip rfl rfl ?_
     refine Ops_skip rfl rfl ?_
     refine Ops_skip rfl rfl ?_
     refine Ops_skip rfl rfl ?_
     refine Ops_quiet _ rfl rfl (QO.pick_t rfl rfl rfl) ?_
     refine Ops_nil ?_
     refine thenA_n ?_
     refine wpA_cond_t rfl ?_
     refine wpA_seq ?_
     refine wpA_region ?_
     refine Ops_quiet _ rfl rfl (QO.assign rfl rfl) ?_
     refine Ops_nil ?_
     refine thenA_n ?_
     refine wpA_ret ?_
     refine blockA_r ?_
     refine thenA_r ?_
     refine thenA_r ?_
     obtain rfl := Option.some.inj ho1
     obtain rfl := Option.some.inj hk1
     exact ⟨rfl, (Sub.cons rfl Sub.nil), (Le.under (Le.under (Le.refl _) hb1) hb2)⟩
    ·replace ho1 := cond_f ho1 g2
     refine Ops_quiet _ rfl rfl (QO.move rfl rfl) ?_
     refine Ops_quiet _ rfl rfl (QO.move rfl rfl) ?_
     refine Ops_quiet _ rfl rfl (QO.fieldAt (fo := 1) rfl sz28 rfl rfl sz26 rfl rfl) ?_
     have hq := chk ho1; clear ho1; obtain ⟨ck4, ho1⟩ := hq
     refine Ops_quiet _ rfl rfl (QO.idxArr rfl sz26 sz24 rfl rfl (by omega) (by omega)) ?_
     have hq := chk ho1; clear ho1; obtain ⟨ck5, ho1⟩ := hq
     refine Ops_quiet _ rfl rfl (QO.idxArr rfl sz24 sz5 rfl rfl (by omega) (by omega)) ?_
     refine Ops_quiet _ rfl rfl (QO.load rfl sz5 rfl rfl (by (refine (rd_own ((upd_ne _ _ n_b2_b1.ne.symm).trans (upd_same _ _ _)) _).trans ?_); exact sqC_get (by omega) (by omega))) ?_
     refine Ops_quiet _ rfl rfl (QO.move rfl rfl) ?_
     refine Ops_quiet _ rfl rfl (QO.bin rfl rfl rfl rfl) ?_
     refine Ops_quiet _ rfl rfl (QO.pick_f rfl rfl rfl) ?_
     refine Ops_nil ?_
     refine thenA_n ?_
     refine wpA_cond rfl (fun g3 => ?_) (fun g3 => ?_)
     ·replace ho1 := cond_t ho1 g3
      refine wpA_seq ?_
      refine wpA_region ?_
      refine Ops_quiet _ rfl rfl (QO.assign rfl rfl) ?_
      refine Ops_nil ?_
      refine thenA_n ?_
      refine wpA_ret ?_
      refine blockA_r ?_
      refine thenA_r ?_
      refine thenA_r ?_
      obtain rfl := Option.some.inj ho1
      obtain rfl := Option.some.inj hk1
      exact ⟨rfl, (Sub.cons rfl Sub.nil), (Le.under (Le.under (Le.refl _) hb1) hb2)⟩
     ·replace ho1 := cond_f ho1 g3
      refine wpA_skip ?_
      refine blockA_n ?_
      refine thenA_n ?_
      refine wpA_region ?_
      refine Ops_quiet _ rfl rfl (QO.bin rfl rfl rfl rfl) ?_
      refine Ops_quiet _ rfl rfl (QO.move rfl rfl) ?_
      refine Ops_nil ?_
      obtain rfl := Option.some.inj ho1
      dsimp only at hk1
      exact thenA_n ⟨k1, Nat.lt_succ_self _, _, hk1, (Sub.cons rfl (Sub.cons rfl (Sub.cons rfl (Sub.cons rfl (Sub.cons rfl Sub.nil))))), (Le.upd_left (Le.upd_left (Le.under (Le.under (Le.refl _) hb1) hb2) ((upd_ne _ _ n_b2_b1.ne.symm).trans (upd_same _ _ _)) (by first | rfl | (simp; done))) (upd_same _ _ _) (by first | rfl | (simp; done)))⟩
   ·replace ho1 := cond_f ho1 g1
    refine wpA_exit ?_
    refine thenA_e ?_
    refine thenA_e ?_
    obtain rfl := Option.some.inj ho1
    obtain rfl := Option.some.inj hk1
    exact ⟨rfl, _, rfl, (Sub.cons rfl (Sub.cons rfl (Sub.cons rfl (Sub.cons rfl (Sub.cons rfl Sub.nil))))), (Le.upd_left (Le.upd_left (Le.under (Le.under (Le.refl _) hb1) hb2) ((upd_ne _ _ n_b2_b1.ne.symm).trans (upd_same _ _ _)) (by first | rfl | (simp; done))) (upd_same _ _ _) (by first | rfl | (simp; done)))⟩
 ·intro e s' h' hq
  cases R1 with
  | next x => exact hq.elim
  | ret r =>
   obtain ⟨rfl, hsub1, hle1⟩ := hq
   try dsimp only at hm
   refine blockA_r ?_
   refine thenA_r ?_
   obtain rfl := Option.some.inj hm
   refine retA_sub hsub1.ok hle1 ?_
   exact retA_r (h2 := h) (Res.one rfl (rfl)) (Le.refl _) ⟨rfl, rfl⟩
  | stop x id =>
   obtain ⟨rfl, x2, rfl, hsub2, hle2⟩ := hq
   try dsimp only at hm
   by_cases hid1 : id = 0
   ·subst hid1
    rw [if_pos rfl] at hm
    refine blockA_s ?_
    refine thenA_n ?_
    refine wpA_weaken hsub2.ok hle2 ?_
    refine wpA_seq ?_
    refine wpA_region ?_
    refine Ops_quiet _ rfl rfl (QO.assign rfl rfl) ?_
    refine Ops_nil ?_
    refine thenA_n ?_
    refine wpA_ret ?_
    obtain rfl := Option.some.inj hm
    exact retA_r (h2 := h) (Res.one rfl (rfl)) (Le.under (Le.under (Le.refl _) hb1) hb2) ⟨rfl, rfl⟩
   rw [if_neg hid1] at hm
   exact absurd hm (by simp)

/-! loop.example/g01195/impl.IsLoop -/
theorem c_impl_IsLoop {a0 : Sq} {h : Hp} {r : Bool} (hm : m_impl_IsLoop a0 = some r)  :
    QC Try.prog 35 #[.agg (sqC a0).toArray] h (.bool r) := by
 unfold m_impl_IsLoop at hm
 refine CC.enter Try.func35 rfl Try.ntmps35 rfl ?_
 refine wpA_seq ?_
 refine wpA_region ?_
 refine Ops_loud rfl (LO.boxAgg rfl rfl rfl (fun b1 hb1 => ?_))
 refine Ops_quiet _ rfl rfl (QO.assign rfl rfl) ?_
 refine Ops_nil ?_
 refine thenA_n ?_
 refine wpA_seq ?_
 refine wpA_region ?_
 refine Ops_quiet _ rfl rfl (QO.loadRow (cs := sqC a0) (hr := (rdAll (upd_same _ _ _))) rfl sz28 rfl rfl (sqC_length _)) ?_
 have hq := Option.bind_eq_some_iff.1 hm; clear hm; obtain ⟨r1, hr1, hm⟩ := hq
 refine Ops_call _ _ rfl rfl (EO.fn rfl Try.func43 rfl rfl (Evs.cons rfl Evs.nil)) (QC.cc (c_impl_IsSquare hr1 ) ?_)
 refine Ops_quiet _ rfl rfl (QO.move rfl rfl) ?_
 refine Ops_case 5 rfl (fun g1 => ?_) (fun g1 => ?_)
 ·replace hm := cond_t hm g1
  refine Ops_quiet _ rfl rfl (QO.loadRow (cs := sqC a0) (hr := (rdAll (upd_same _ _ _))) rfl sz28 rfl rfl (sqC_length _)) ?_
  have hq := Option.bind_eq_some_iff.1 hm; clear hm; obtain ⟨r2, hr2, hm⟩ := hq
  refine Ops_call _ _ rfl rfl (EO.fn rfl Try.func44 rfl rfl (Evs.cons rfl (Evs.cons rfl Evs.nil))) (QC.cc (c_impl_Square_isUnit hr2 ) ?_)
  refine Ops_quiet _ rfl rfl (QO.pick_t rfl rfl rfl) ?_
  refine Ops_quiet _ rfl rfl (QO.assign rfl rfl) ?_
  refine Ops_nil ?_
  refine thenA_n ?_
  refine wpA_ret ?_
  obtain rfl := Option.some.inj hm
  exact retA_r (h2 := h) (Res.one rfl (rfl)) (Le.under (Le.refl _) hb1) ⟨rfl, rfl⟩
 ·replace hm := cond_f hm g1
  refine Ops_skip rfl rfl ?_
  refine Ops_skip rfl rfl ?_
  refine Ops_quiet _ rfl rfl (QO.pick_f rfl rfl rfl) ?_
  refine Ops_quiet _ rfl rfl (QO.assign rfl rfl) ?_
  refine Ops_nil ?_
  refine thenA_n ?_
  refine wpA_ret ?_
  obtain rfl := Option.some.inj hm
  exact retA_r (h2 := h) (Res.one rfl (rfl)) (Le.under (Le.refl _) hb1) ⟨rfl, rfl⟩

/-! loop.example/g01195/impl.isPrime -/
theorem c_impl_isPrime {a0 : Int} {h : Hp} {r : Bool} (hm : m_impl_isPrime a0 = some r)  :
    QC Try.prog 36 #[.int .i64 a0] h (.bool r) := by
 unfold m_impl_isPrime at hm
 refine CC.enter Try.func36 rfl Try.ntmps36 rfl ?_
 refine wpA_seq ?_
 refine wpA_region ?_
 refine Ops_quiet _ rfl rfl (QO.assign rfl rfl) ?_
 refine Ops_nil ?_
 refine thenA_n ?_
 refine wpA_seq ?_
 refine wpA_region ?_
 refine Ops_quiet _ rfl rfl (QO.move rfl rfl) ?_
 refine Ops_quiet _ rfl rfl (QO.bin rfl rfl rfl rfl) ?_
 refine Ops_quiet _ rfl rfl (QO.move rfl rfl) ?_
 refine Ops_case 5 rfl (fun g1 => ?_) (fun g1 => ?_)
 ·replace hm := cond_t hm g1
  refine Ops_skip rfl rfl ?_
  refine Ops_skip rfl rfl ?_
  refine Ops_quiet _ rfl rfl (QO.pick_t rfl rfl rfl) ?_
  refine Ops_quiet _ rfl rfl (QO.move rfl rfl) ?_
  refine Ops_skip rfl rfl ?_
  refine Ops_skip rfl rfl ?_
  refine Ops_quiet _ rfl rfl (QO.pick_t rfl rfl rfl) ?_
  refine Ops_quiet _ rfl rfl (QO.move rfl rfl) ?_
  refine Ops_skip rfl rfl ?_
  refine Ops_skip rfl rfl ?_
  refine Ops_quiet _ rfl rfl (QO.pick_t rfl rfl rfl) ?_
  refine Ops_quiet _ rfl rfl (QO.assign rfl rfl) ?_
  refine Ops_nil ?_
  refine thenA_n ?_
  refine wpA_ret ?_
  obtain rfl := Option.some.inj hm
  exact retA_r (h2 := h) (Res.one rfl (rfl)) (Le.refl _) ⟨rfl, rfl⟩
 ·replace hm := cond_f hm g1
  refine Ops_quiet _ rfl rfl (QO.move rfl rfl) ?_
  refine Ops_quiet _ rfl rfl (QO.bin rfl rfl rfl rfl) ?_
  refine Ops_quiet _ rfl rfl (QO.pick_f rfl rfl rfl) ?_
  refine Ops_quiet _ rfl rfl (QO.move rfl rfl) ?_
  refine Ops_case 9 rfl (fun g2 => ?_) (fun g2 => ?_)
  ·replace hm := cond_t hm g2
   refine Ops_skip rfl rfl ?_
   refine Ops_skip rfl rfl ?_
   refine Ops_quiet _ rfl rfl (QO.pick_t rfl rfl rfl) ?_
   refine Ops_quiet _ rfl rfl (QO.move rfl rfl) ?_
   refine Ops_skip rfl rfl ?_
   refine Ops_skip rfl rfl ?_
   refine Ops_quiet _ rfl rfl (QO.pick_t rfl rfl rfl) ?_
   refine Ops_quiet _ rfl rfl (QO.assign rfl rfl) ?_
   refine Ops_nil ?_
   refine thenA_n ?_
   refine wpA_ret ?_
   obtain rfl := Option.some.inj hm
   exact retA_r (h2 := h) (Res.one rfl (rfl)) (Le.refl _) ⟨rfl, rfl⟩
  ·replace hm := cond_f hm g2
   refine Ops_quiet _ rfl rfl (QO.move rfl rfl) ?_
   refine Ops_quiet _ rfl rfl (QO.bin rfl rfl rfl rfl) ?_
   refine Ops_quiet _ rfl rfl (QO.pick_f rfl rfl rfl) ?_
   refine Ops_quiet _ rfl rfl (QO.move rfl rfl) ?_
   refine Ops_case 13 rfl (fun g3 => ?_) (fun g3 => ?_)
   ·replace hm := cond_t hm g3
    refine Ops_skip rfl rfl ?_
    refine Ops_skip rfl rfl ?_
    refine Ops_quiet _ rfl rfl (QO.pick_t rfl rfl rfl) ?_
    refine Ops_quiet _ rfl rfl (QO.assign rfl rfl) ?_
    refine Ops_nil ?_
    refine thenA_n ?_
    refine wpA_ret ?_
    obtain rfl := Option.some.inj hm
    exact retA_r (h2 := h) (Res.one rfl (rfl)) (Le.refl _) ⟨rfl, rfl⟩
   ·replace hm := cond_f hm g3
    refine Ops_quiet _ rfl rfl (QO.move rfl rfl) ?_
    refine Ops_quiet _ rfl rfl (QO.bin rfl rfl rfl rfl) ?_
    refine Ops_quiet _ rfl rfl (QO.pick_f rfl rfl rfl) ?_
    refine Ops_quiet _ rfl rfl (QO.assign rfl rfl) ?_
    refine Ops_nil ?_
    refine thenA_n ?_
    refine wpA_ret ?_
    obtain rfl := Option.some.inj hm
    exact retA_r (h2 := h) (Res.one rfl (rfl)) (Le.refl _) ⟨rfl, rfl⟩

/-! (loop.example/g01195/impl.Square).isSum -/
theorem c_impl_Square_isSum {a0 : Sq} {a1 : Int} {l2 : (List Int)} {A2 : Option Addr} {c2 : Nat} {h : Hp} {r : Bool} (hm : m_impl_Square_isSum a0 a1 l2 = some r) (hs2 : RdS h A2 (ints .i64 l2)) :
    QC Try.prog 37 #[.agg (sqC a0).toArray, .int .i64 a1, .slice A2 l2.length c2] h (.bool r) := by
 unfold m_impl_Square_isSum at hm
 refine CC.enter Try.func37 rfl Try.ntmps37 rfl ?_
 refine wpA_seq ?_
 refine wpA_region ?_
 refine Ops_loud rfl (LO.boxAgg rfl rfl rfl (fun b1 hb1 => ?_))
 refine Ops_quiet _ rfl rfl (QO.assign rfl rfl) ?_
 refine Ops_nil ?_
 refine thenA_n ?_
 refine wpA_seq ?_
 refine wpA_seq ?_
 refine wpA_region ?_
 refine Ops_quiet _ rfl rfl (QO.move rfl rfl) ?_
 refine Ops_quiet _ rfl rfl (QO.lenSl rfl sz29 rfl) ?_
 refine Ops_quiet _ rfl rfl (QO.move rfl rfl) ?_
 refine Ops_nil ?_
 refine thenA_n ?_
 refine wpA_block ?_
 obtain ⟨R1, hR, hm⟩ := Option.bind_eq_some_iff.1 hm
 obtain ⟨k1, hk1⟩ := loopV_some hR
 clear hR
 refine wpA_mono (Q := fun e s' h' => match (generalizing := false) R1 with | .stop x id => e = .exit id ∧ ∃ (x1 : Int), x1 = x ∧ Sub s' [(1, .int .i64 a1), (2, .slice A2 l2.length c2), (3, .pointer (some ⟨b1, 0, none⟩)), (9, .slice A2 l2.length c2), (10, .int .i64 ((l2.length : Nat) : Int)), (11, .int .i64 x1)] ∧ Le (upd (h) b1 (.own 28 (sqC a0) 101)) h' | .ret r => e = .ret ∧ Sub s' [(6, .bool r)] ∧ Le (h) h' | .next _ => False) ?_ ?_
 ·refine wpA_loop (fun k s' h' => ∃ (x1 : Int), loopW (m_impl_Square_isSum_l0 a1 l2) k x1 = some R1 ∧ Sub s' [(1, .int .i64 a1), (2, .slice A2 l2.length c2), (3, .pointer (some ⟨b1, 0, none⟩)), (9, .slice A2 l2.length c2), (10, .int .i64 ((l2.length : Nat) : Int)), (11, .int .i64 x1)] ∧ Le (upd (h) b1 (.own 28 (sqC a0) 101)) h') (m := k1) ⟨0, hk1, (Sub.cons rfl (Sub.cons rfl (Sub.cons rfl (Sub.cons rfl (Sub.cons rfl (Sub.cons rfl Sub.nil)))))), (Le.upd_left (Le.under (Le.refl _) hb1) (upd_same _ _ _) (by first | rfl | (simp; done)))⟩ ?_
  rintro k1 s' h' ⟨x1, hk1, hsub, hle⟩
  refine wpA_weaken hsub.ok hle ?_
  clear hsub hle s' h'
  cases k1 with
  | zero => exact absurd hk1 (by simp [loopW])
  | succ k1 =>
   obtain ⟨o1, ho1, hk1⟩ := loopW_succ hk1
   unfold m_impl_Square_isSum_l0 at ho1
   try dsimp only at ho1
   refine wpA_seq ?_
   refine wpA_region ?_
   refine Ops_quiet _ rfl rfl (QO.bin rfl rfl rfl rfl) ?_
   refine Ops_nil ?_
   refine thenA_n ?_
   refine wpA_seq ?_
   refine wpA_cond rfl (fun g1 => ?_) (fun g1 => ?_)
   ·replace ho1 := cond_t ho1 g1
    refine wpA_skip ?_
    refine thenA_n ?_
    refine wpA_seq ?_
    refine wpA_block ?_
    refine wpA_seq ?_
    refine wpA_region ?_
    have hq := chk ho1; clear ho1; obtain ⟨ck1, ho1⟩ := hq
    refine Ops_quiet _ rfl rfl (QO.idxRd2 rfl sz29 sz2 rfl rfl (by omega) (by omega) hs2 (by simp [rowsC_length, rowsA_length, mpC_length, sqC_length, tbC_length, tabI_length, tabB_length, ints_length, plsC_length, trC_length, sqsC_length, strsC_length, boolsC_length, tbB_length, List.length_append, List.length_cons, List.length_nil, List.length_set, List.length_replicate, rep_length]) (by decide)) ?_
    refine Ops_quiet _ rfl rfl (QO.load rfl sz2 rfl rfl (by first | exact (RdS.rd (RdS.le hs2 (Le.under (Le.refl _) hb1)) (by first | rfl | exact sqC_get (by omega) (by omega) | exact tbC_get (by omega) (by omega) | exact tbB_get (by omega) (by omega) | exact tabI_get01 (by omega) | exact tabB_get01 (by omega) | exact ints_get01 (by omega) | exact boolsC_get01 (by omega) | exact tabI_get (by omega) | exact tabB_get (by omega) | exact ints_get1 (by omega) | exact strsC_get01 (by omega) | exact strsC_get1 (by omega) | exact plsC_get (by omega) (by omega) | exact trC_a (by omega) | exact trC_b (by omega) | exact trC_c (by omega) | exact sqsC_ord (by omega) | exact sqsC_get (by omega) (by omega) (by omega))) | exact (RdS.rd2 (RdS.le hs2 (Le.under (Le.refl _) hb1)) (by first | rfl | exact sqC_get (by omega) (by omega) | exact tbC_get (by omega) (by omega) | exact tbB_get (by omega) (by omega) | exact tabI_get01 (by omega) | exact tabB_get01 (by omega) | exact ints_get01 (by omega) | exact boolsC_get01 (by omega) | exact tabI_get (by omega) | exact tabB_get (by omega) | exact ints_get1 (by omega) | exact strsC_get01 (by omega) | exact strsC_get1 (by omega) | exact plsC_get (by omega) (by omega) | exact trC_a (by omega) | exact trC_b (by omega) | exact trC_c (by omega) | exact sqsC_ord (by omega) | exact sqsC_get (by omega) (by omega) (by omega))) | exact (RdS.rd3 (RdS.le hs2 (Le.under (Le.refl _) hb1)) (by first | rfl | exact sqC_get (by omega) (by omega) | exact tbC_get (by omega) (by omega) | exact tbB_get (by omega) (by omega) | exact tabI_get01 (by omega) | exact tabB_get01 (by omega) | exact ints_get01 (by omega) | exact boolsC_get01 (by omega) | exact tabI_get (by omega) | exact tabB_get (by omega) | exact ints_get1 (by omega) | exact strsC_get01 (by omega) | exact strsC_get1 (by omega) | exact plsC_get (by omega) (by omega) | exact trC_a (by omega) | exact trC_b (by omega) | exact trC_c (by omega) | exact sqsC_ord (by omega) | exact sqsC_get (by omega) (by omega) (by omega))))) ?_
    refine Ops_quiet _ rfl rfl (QO.assign rfl rfl) ?_
    refine Ops_nil ?_
    refine thenA_n ?_
    refine wpA_seq ?_
    refine wpA_region ?_
    refine Ops_quiet _ rfl rfl (QO.move rfl rfl) ?_
    refine Ops_quiet _ rfl rfl (QO.move rfl rfl) ?_
    refine Ops_quiet _ rfl rfl (QO.bin rfl rfl rfl rfl) ?_
    have hq := Option.bind_eq_some_iff.1 ho1; clear ho1; obtain ⟨r1, hr1, ho1⟩ := hq
    refine Ops_call _ _ rfl rfl (EO.fn rfl Try.func28 rfl rfl (Evs.cons rfl (Evs.cons rfl (Evs.cons rfl Evs.nil)))) (QC.cc (c_impl_within hr1 ) ?_)
    refine Ops_quiet _ rfl rfl (QO.not rfl rfl) ?_
    refine Ops_nil ?_
    refine thenA_n ?_
    refine wpA_cond rfl (fun g2 => ?_) (fun g2 => ?_)
    ·replace ho1 := cond_t ho1 g2
     refine wpA_seq ?_
     refine wpA_region ?_
     refine Ops_quiet _ rfl rfl (QO.assign rfl rfl) ?_
     refine Ops_nil ?_
     refine thenA_n ?_
     refine wpA_ret ?_
     refine blockA_r ?_
     refine thenA_r ?_
     refine thenA_r ?_
     obtain rfl := Option.some.inj ho1
     obtain rfl := Option.some.inj hk1
     exact ⟨rfl, (Sub.cons rfl Sub.nil), (Le.under (Le.refl _) hb1)⟩
    ·replace ho1 := cond_f ho1 g2
     refine wpA_skip ?_
     refine blockA_n ?_
     refine thenA_n ?_
     refine wpA_region ?_
     refine Ops_quiet _ rfl rfl (QO.bin rfl rfl rfl rfl) ?_
     refine Ops_quiet _ rfl rfl (QO.move rfl rfl) ?_
     refine Ops_nil ?_
     obtain rfl := Option.some.inj ho1
     dsimp only at hk1
     exact thenA_n ⟨k1, Nat.lt_succ_self _, _, hk1, (Sub.cons rfl (Sub.cons rfl (Sub.cons rfl (Sub.cons rfl (Sub.cons rfl (Sub.cons rfl Sub.nil)))))), (Le.upd_left (Le.under (Le.refl _) hb1) (upd_same _ _ _) (by first | rfl | (simp; done)))⟩
   ·replace ho1 := cond_f ho1 g1
    refine wpA_exit ?_
    refine thenA_e ?_
    refine thenA_e ?_
    obtain rfl := Option.some.inj ho1
    obtain rfl := Option.some.inj hk1
    exact ⟨rfl, _, rfl, (Sub.cons rfl (Sub.cons rfl (Sub.cons rfl (Sub.cons rfl (Sub.cons rfl (Sub.cons rfl Sub.nil)))))), (Le.upd_left (Le.under (Le.refl _) hb1) (upd_same _ _ _) (by first | rfl | (simp; done)))⟩
 ·intro e s' h' hq
  cases R1 with
  | next x => exact hq.elim
  | ret r =>
   obtain ⟨rfl, hsub1, hle1⟩ := hq
   try dsimp only at hm
   refine blockA_r ?_
   refine thenA_r ?_
   obtain rfl := Option.some.inj hm
   refine retA_sub hsub1.ok hle1 ?_
   exact retA_r (h2 := h) (Res.one rfl (rfl)) (Le.refl _) ⟨rfl, rfl⟩
  | stop x id =>
   obtain ⟨rfl, x2, rfl, hsub2, hle2⟩ := hq
   try dsimp only at hm
   by_cases hid1 : id = 0
   ·subst hid1
    rw [if_pos rfl] at hm
    refine blockA_s ?_
    refine thenA_n ?_
    refine wpA_weaken hsub2.ok hle2 ?_
    refine wpA_seq ?_
    refine wpA_region ?_
    refine Ops_quiet _ rfl rfl (QO.move rfl rfl) ?_
    refine Ops_quiet _ rfl rfl (QO.lenSl rfl sz29 rfl) ?_
    refine Ops_quiet _ rfl rfl (QO.fieldAt (fo := 0) rfl sz28 rfl rfl sz2 rfl rfl) ?_
    refine Ops_quiet _ rfl rfl (QO.load rfl sz2 rfl rfl (by (refine (rd_own (upd_same _ _ _) _).trans ?_); exact rfl)) ?_
    refine Ops_quiet _ rfl rfl (QO.bin rfl rfl rfl rfl) ?_
    refine Ops_quiet _ rfl rfl (QO.assign rfl rfl) ?_
    refine Ops_nil ?_
    refine thenA_n ?_
    refine wpA_ret ?_
    obtain rfl := Option.some.inj hm
    exact retA_r (h2 := h) (Res.one rfl (rfl)) (Le.under (Le.refl _) hb1) ⟨rfl, rfl⟩
   rw [if_neg hid1] at hm
   exact absurd hm (by simp)

/-! loop.example/g01195/impl.ringCode -/
theorem c_impl_ringCode {a0 : Sq} {a1 : Int} {l2 : (List (List Int))} {A2 : Option Addr} {c2 : Nat} {ga2 : List (Option Addr × Nat)} {h : Hp} {r : Int} (hm : m_impl_ringCode a0 a1 l2 = some r) (hs2 : RdSS h A2 (ints .i64) l2 ga2) :
    QC Try.prog 19 #[.agg (sqC a0).toArray, .int .i64 a1, .slice A2 l2.length c2] h (.int .i64 r) := by
 unfold m_impl_ringCode at hm
 refine CC.enter Try.func19 rfl Try.ntmps19 rfl ?_
 refine wpA_seq ?_
 refine wpA_region ?_
 refine Ops_loud rfl (LO.boxAgg rfl rfl rfl (fun b1 hb1 => ?_))
 refine Ops_quiet _ rfl rfl (QO.assign rfl rfl) ?_
 refine Ops_nil ?_
 refine thenA_n ?_
 refine wpA_seq ?_
 refine wpA_block ?_
 refine wpA_seq ?_
 refine wpA_region ?_
 refine Ops_quiet _ rfl rfl (QO.loadRow (cs := sqC a0) (hr := (rdAll (upd_same _ _ _))) rfl sz28 rfl rfl (sqC_length _)) ?_
 have hq := Option.bind_eq_some_iff.1 hm; clear hm; obtain ⟨r1, hr1, hm⟩ := hq
 refine Ops_call _ _ rfl rfl (EO.fn rfl Try.func35 rfl rfl (Evs.cons rfl Evs.nil)) (QC.cc (c_impl_IsLoop hr1 ) ?_)
 refine Ops_quiet _ rfl rfl (QO.not rfl rfl) ?_
 refine Ops_quiet _ rfl rfl (QO.assign rfl rfl) ?_
 refine Ops_nil ?_
 refine thenA_n ?_
 refine wpA_cond rfl (fun g1 => ?_) (fun g1 => ?_)
 ·replace hm := cond_t hm g1
  refine wpA_seq ?_
  refine wpA_region ?_
  refine Ops_quiet _ rfl rfl (QO.assign rfl rfl) ?_
  refine Ops_nil ?_
  refine thenA_n ?_
  refine wpA_ret ?_
  refine blockA_r ?_
  refine thenA_r ?_
  obtain rfl := Option.some.inj hm
  exact retA_r (h2 := h) (Res.one rfl (rfl)) (Le.under (Le.refl _) hb1) ⟨rfl, rfl⟩
 ·replace hm := cond_f hm g1
  refine wpA_seq ?_
  refine wpA_region ?_
  refine Ops_quiet _ rfl rfl (QO.move rfl rfl) ?_
  have hq := Option.bind_eq_some_iff.1 hm; clear hm; obtain ⟨r2, hr2, hm⟩ := hq
  refine Ops_call _ _ rfl rfl (EO.fn rfl Try.func36 rfl rfl (Evs.cons rfl Evs.nil)) (QC.cc (c_impl_isPrime hr2 ) ?_)
  refine Ops_quiet _ rfl rfl (QO.not rfl rfl) ?_
  refine Ops_quiet _ rfl rfl (QO.assign rfl rfl) ?_
  refine Ops_nil ?_
  refine thenA_n ?_
  refine wpA_cond rfl (fun g2 => ?_) (fun g2 => ?_)
  ·replace hm := cond_t hm g2
   refine wpA_seq ?_
   refine wpA_region ?_
   refine Ops_quiet _ rfl rfl (QO.assign rfl rfl) ?_
   refine Ops_nil ?_
   refine thenA_n ?_
   refine wpA_ret ?_
   refine blockA_r ?_
   refine thenA_r ?_
   obtain rfl := Option.some.inj hm
   exact retA_r (h2 := h) (Res.one rfl (rfl)) (Le.under (Le.refl _) hb1) ⟨rfl, rfl⟩
  ·replace hm := cond_f hm g2
   refine wpA_skip ?_
   refine blockA_n ?_
   refine thenA_n ?_
   refine wpA_seq ?_
   refine wpA_seq ?_
   refine wpA_region ?_
   refine Ops_quiet _ rfl rfl (QO.move rfl rfl) ?_
   refine Ops_quiet _ rfl rfl (QO.lenSl rfl sz61 rfl) ?_
   refine Ops_quiet _ rfl rfl (QO.move rfl rfl) ?_
   refine Ops_nil ?_
   refine thenA_n ?_
   refine wpA_block ?_
   obtain ⟨R1, hR, hm⟩ := Option.bind_eq_some_iff.1 hm
   obtain ⟨k1, hk1⟩ := loopV_some hR
   clear hR
   refine wpA_mono (Q := fun e s' h' => match (generalizing := false) R1 with | .stop x id => e = .exit id ∧ ∃ (x1 : Int), x1 = x ∧ Sub s' [(1, .int .i64 a1), (3, .pointer (some ⟨b1, 0, none⟩)), (17, .slice A2 l2.length c2), (18, .int .i64 ((l2.length : Nat) : Int)), (19, .int .i64 x1)] ∧ Le (upd (h) b1 (.own 28 (sqC a0) 101)) h' | .ret r => e = .ret ∧ Sub s' [(6, .int .i64 r)] ∧ Le (h) h' | .next _ => False) ?_ ?_
   ·refine wpA_loop (fun k s' h' => ∃ (x1 : Int), loopW (m_impl_ringCode_l0 a0 a1 l2) k x1 = some R1 ∧ Sub s' [(1, .int .i64 a1), (3, .pointer (some ⟨b1, 0, none⟩)), (17, .slice A2 l2.length c2), (18, .int .i64 ((l2.length : Nat) : Int)), (19, .int .i64 x1)] ∧ Le (upd (h) b1 (.own 28 (sqC a0) 101)) h') (m := k1) ⟨0, hk1, (Sub.cons rfl (Sub.cons rfl (Sub.cons rfl (Sub.cons rfl (Sub.cons rfl Sub.nil))))), (Le.upd_left (Le.under (Le.refl _) hb1) (upd_same _ _ _) (by first | rfl | (simp; done)))⟩ ?_
    rintro k1 s' h' ⟨x1, hk1, hsub, hle⟩
    refine wpA_weaken hsub.ok hle ?_
    clear hsub hle s' h'
    cases k1 with
    | zero => exact absurd hk1 (by simp [loopW])
    | succ k1 =>
     obtain ⟨o1, ho1, hk1⟩ := loopW_succ hk1
     unfold m_impl_ringCode_l0 at ho1
     try dsimp only at ho1
     refine wpA_seq ?_
     refine wpA_region ?_
     refine Ops_quiet _ rfl rfl (QO.bin rfl rfl rfl rfl) ?_
     refine Ops_nil ?_
     refine thenA_n ?_
     refine wpA_seq ?_
     refine wpA_cond rfl (fun g3 => ?_) (fun g3 => ?_)
     ·replace ho1 := cond_t ho1 g3
      refine wpA_skip ?_
      refine thenA_n ?_
      refine wpA_seq ?_
      refine wpA_block ?_
      refine wpA_seq ?_
      refine wpA_region ?_
      have hq := chk ho1; clear ho1; obtain ⟨ck1, ho1⟩ := hq
      refine Ops_quiet _ rfl rfl (QO.idxRd2 rfl sz61 sz29 rfl rfl (by omega) (by omega) (RdSS.out hs2) (by simp [rowsC_length, rowsA_length, mpC_length, sqC_length, tbC_length, tabI_length, tabB_length, ints_length, plsC_length, trC_length, sqsC_length, strsC_length, boolsC_length, tbB_length, List.length_append, List.length_cons, List.length_nil, List.length_set, List.length_replicate, rep_length]) (by decide)) ?_
      refine Ops_quiet (.slice (ga2.getD (x1).toNat (none, 0)).1 (l2.getD (x1).toNat []).length (ga2.getD (x1).toNat (none, 0)).2) rfl rfl (QO.load rfl sz29 rfl rfl (RdS.rd (RdS.le (RdSS.out hs2) (Le.under (Le.refl _) hb1)) (rowsA_get (by omega)))) ?_
      have hsr1 := hs2.row (x1).toNat (by omega)
      refine Ops_quiet _ rfl rfl (QO.assign rfl rfl) ?_
      refine Ops_nil ?_
      refine thenA_n ?_
      refine wpA_seq ?_
      refine wpA_region ?_
      refine Ops_quiet _ rfl rfl (QO.loadRow (cs := sqC a0) (hr := (rdAll (upd_same _ _ _))) rfl sz28 rfl rfl (sqC_length _)) ?_
      refine Ops_quiet _ rfl rfl (QO.move rfl rfl) ?_
      refine Ops_quiet _ rfl rfl (QO.move rfl rfl) ?_
      have hq := Option.bind_eq_some_iff.1 ho1; clear ho1; obtain ⟨r3, hr3, ho1⟩ := hq
      refine Ops_call _ _ rfl rfl (EO.fn rfl Try.func37 rfl rfl (Evs.cons rfl (Evs.cons rfl (Evs.cons rfl Evs.nil)))) (QC.cc (c_impl_Square_isSum (l2 := (l2.getD (x1).toNat [])) (A2 := (ga2.getD (x1).toNat (none, 0)).1) (c2 := (ga2.getD (x1).toNat (none, 0)).2) hr3 (RdS.le hsr1 (Le.under (Le.refl _) hb1))) ?_)
      refine Ops_quiet _ rfl rfl (QO.not rfl rfl) ?_
      refine Ops_nil ?_
      refine thenA_n ?_
      refine wpA_cond rfl (fun g4 => ?_) (fun g4 => ?_)
      ·replace ho1 := cond_t ho1 g4
       refine wpA_seq ?_
       refine wpA_region ?_
       refine Ops_quiet _ rfl rfl (QO.assign rfl rfl) ?_
       refine Ops_nil ?_
       refine thenA_n ?_
       refine wpA_ret ?_
       refine blockA_r ?_
       refine thenA_r ?_
       refine thenA_r ?_
       obtain rfl := Option.some.inj ho1
       obtain rfl := Option.some.inj hk1
       exact ⟨rfl, (Sub.cons rfl Sub.nil), (Le.under (Le.refl _) hb1)⟩
      ·replace ho1 := cond_f ho1 g4
       refine wpA_skip ?_
       refine blockA_n ?_
       refine thenA_n ?_
       refine wpA_region ?_
       refine Ops_quiet _ rfl rfl (QO.bin rfl rfl rfl rfl) ?_
       refine Ops_quiet _ rfl rfl (QO.move rfl rfl) ?_
       refine Ops_nil ?_
       obtain rfl := Option.some.inj ho1
       dsimp only at hk1
       exact thenA_n ⟨k1, Nat.lt_succ_self _, _, hk1, (Sub.cons rfl (Sub.cons rfl (Sub.cons rfl (Sub.cons rfl (Sub.cons rfl Sub.nil))))), (Le.upd_left (Le.under (Le.refl _) hb1) (upd_same _ _ _) (by first | rfl | (simp; done)))⟩
     ·replace ho1 := cond_f ho1 g3
      refine wpA_exit ?_
      refine thenA_e ?_
      refine thenA_e ?_
      obtain rfl := Option.some.inj ho1
      obtain rfl := Option.some.inj hk1
      exact ⟨rfl, _, rfl, (Sub.cons rfl (Sub.cons rfl (Sub.cons rfl (Sub.cons rfl (Sub.cons rfl Sub.nil))))), (Le.upd_left (Le.under (Le.refl _) hb1) (upd_same _ _ _) (by first | rfl | (simp; done)))⟩
   ·intro e s' h' hq
    cases R1 with
    | next x => exact hq.elim
    | ret r =>
     obtain ⟨rfl, hsub1, hle1⟩ := hq
     try dsimp only at hm
     refine blockA_r ?_
     refine thenA_r ?_
     obtain rfl := Option.some.inj hm
     refine retA_sub hsub1.ok hle1 ?_
     exact retA_r (h2 := h) (Res.one rfl (rfl)) (Le.refl _) ⟨rfl, rfl⟩
    | stop x id =>
     obtain ⟨rfl, x2, rfl, hsub2, hle2⟩ := hq
     try dsimp only at hm
     by_cases hid1 : id = 1
     ·subst hid1
      rw [if_pos rfl] at hm
      refine blockA_s ?_
      refine thenA_n ?_
      refine wpA_weaken hsub2.ok hle2 ?_
      refine wpA_seq ?_
      refine wpA_region ?_
      refine Ops_quiet _ rfl rfl (QO.assign rfl rfl) ?_
      refine Ops_nil ?_
      refine thenA_n ?_
      refine wpA_ret ?_
      obtain rfl := Option.some.inj hm
      exact retA_r (h2 := h) (Res.one rfl (rfl)) (Le.under (Le.refl _) hb1) ⟨rfl, rfl⟩
     rw [if_neg hid1] at hm
     exact absurd hm (by simp)
end Go.Lab
