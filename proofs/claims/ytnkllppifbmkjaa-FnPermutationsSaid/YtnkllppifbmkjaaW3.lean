/- The walks: each function computes what its model tells. -/
import Derived.Test.YtnkllppifbmkjaaW2
set_option linter.unusedVariables false
set_option linter.unusedSimpArgs false
namespace Go.Lab
open Go Go.Abs Go.Proofs
set_option maxRecDepth 20000
set_option linter.unusedVariables false
set_option linter.unusedSimpArgs false
/-! loop.example/g01195/impl.IsSquare -/
theorem c_impl_IsSquare {a0 : Sq} {h : Hp} {r : Bool} (hm : m_impl_IsSquare a0 = some r)  :
    QC Try.prog 17 #[.agg (sqC a0).toArray] h (.bool r) := by
 unfold m_impl_IsSquare at hm
 refine CC.enter Try.func17 rfl Try.ntmps17 rfl ?_
 refine wpA_seq ?_
 refine wpA_region ?_
 refine Ops_loud rfl (LO.boxAgg rfl rfl rfl (fun b1 hb1 => ?_))
 refine Ops_quiet _ rfl rfl (QO.assign rfl rfl) ?_
 refine Ops_nil ?_
 refine thenA_n ?_
 refine wpA_seq ?_
 refine wpA_seq ?_
 refine wpA_region ?_
 refine Ops_quiet _ rfl rfl (QO.fieldAt (fo := 0) rfl sz37 rfl rfl sz2 rfl rfl) ?_
 refine Ops_quiet _ rfl rfl (QO.load rfl sz2 rfl rfl (by (refine (rd_own (upd_same _ _ _) _).trans ?_); exact rfl)) ?_
 have hq := Option.bind_eq_some_iff.1 hm; clear hm; obtain ⟨r1, hr1, hm⟩ := hq
 refine Ops_call _ _ rfl rfl (EO.fn rfl Try.func36 rfl rfl (Evs.cons rfl (Evs.cons rfl (Evs.cons rfl Evs.nil)))) (QC.cc (c_impl_within hr1 ) ?_)
 refine Ops_quiet _ rfl rfl (QO.not rfl rfl) ?_
 refine Ops_nil ?_
 refine thenA_n ?_
 refine wpA_cond rfl (fun g1 => ?_) (fun g1 => ?_)
 ·replace hm := cond_t hm g1
  refine wpA_seq ?_
  refine wpA_region ?_
  refine Ops_quiet _ rfl rfl (QO.assign rfl rfl) ?_
  refine Ops_nil ?_
  refine thenA_n ?_
  refine wpA_ret ?_
  refine thenA_r ?_
  obtain rfl := Option.some.inj hm
  exact retA_r (h2 := h) (Res.one rfl (rfl)) (Le.under (Le.refl _) hb1) ⟨rfl, rfl⟩
 ·replace hm := cond_f hm g1
  refine wpA_skip ?_
  refine thenA_n ?_
  refine wpA_seq ?_
  refine wpA_region ?_
  refine Ops_quiet _ rfl rfl (QO.fieldAt (fo := 0) rfl sz37 rfl rfl sz2 rfl rfl) ?_
  refine Ops_quiet _ rfl rfl (QO.load rfl sz2 rfl rfl (by (refine (rd_own (upd_same _ _ _) _).trans ?_); exact rfl)) ?_
  refine Ops_quiet _ rfl rfl (QO.assign rfl rfl) ?_
  refine Ops_nil ?_
  refine thenA_n ?_
  refine wpA_seq ?_
  refine wpA_seq ?_
  refine wpA_region ?_
  refine Ops_quiet _ rfl rfl (QO.move rfl rfl) ?_
  refine Ops_nil ?_
  refine thenA_n ?_
  refine wpA_block ?_
  obtain ⟨R1, hR, hm⟩ := Option.bind_eq_some_iff.1 hm
  obtain ⟨k1, hk1⟩ := loopV_some hR
  clear hR
  refine wpA_mono (Q := fun e s' h' => match (generalizing := false) R1 with | .stop x id => e = .exit id ∧ ∃ (x1 : Int), x = x1 ∧ Sub s' [(1, .pointer (some ⟨b1, 0, none⟩)), (3, .int .i64 a0.order), (14, .int .i64 x1)] ∧ Le (upd (h) b1 (.own 37 (sqC a0) 101)) h' | .ret r => e = .ret ∧ Sub s' [(2, .bool r)] ∧ Le (h) h' | .next _ => False) ?_ ?_
  ·refine wpA_loop (fun k s' h' => ∃ (x1 : Int), loopW (m_impl_IsSquare_l0 a0) k x1 = some R1 ∧ Sub s' [(1, .pointer (some ⟨b1, 0, none⟩)), (3, .int .i64 a0.order), (14, .int .i64 x1)] ∧ Le (upd (h) b1 (.own 37 (sqC a0) 101)) h') (m := k1) ⟨0, hk1, (Sub.cons rfl (Sub.cons rfl (Sub.cons rfl Sub.nil))), (Le.upd_left (Le.under (Le.refl _) hb1) (upd_same _ _ _) (by first | rfl | (simp; done)))⟩ ?_
   rintro k1 s' h' ⟨x1, hk1, hsub, hle⟩
   refine wpA_weaken hsub.ok hle ?_
   clear hsub hle s' h'
   cases k1 with
   | zero => exact absurd hk1 (by simp [loopW])
   | succ k1 =>
    obtain ⟨o1, ho1, hk1⟩ := loopW_succ hk1
    unfold m_impl_IsSquare_l0 at ho1
    try dsimp only at ho1
    refine wpA_seq ?_
    refine wpA_region ?_
    refine Ops_quiet _ rfl rfl (QO.bin rfl rfl rfl rfl) ?_
    refine Ops_nil ?_
    refine thenA_n ?_
    refine wpA_seq ?_
    refine wpA_cond rfl (fun g2 => ?_) (fun g2 => ?_)
    ·replace ho1 := cond_t ho1 g2
     refine wpA_skip ?_
     refine thenA_n ?_
     refine wpA_seq ?_
     refine wpA_block ?_
     refine wpA_seq ?_
     refine wpA_region ?_
     refine Ops_quiet _ rfl rfl (QO.move rfl rfl) ?_
     refine Ops_quiet _ rfl rfl (QO.assign rfl rfl) ?_
     refine Ops_nil ?_
     refine thenA_n ?_
     refine wpA_seq ?_
     refine wpA_region ?_
     refine Ops_quiet _ rfl rfl (QO.assign rfl rfl) ?_
     refine Ops_quiet _ rfl rfl (QO.assign rfl rfl) ?_
     refine Ops_nil ?_
     refine thenA_n ?_
     refine wpA_seq ?_
     refine wpA_seq ?_
     refine wpA_region ?_
     refine Ops_quiet _ rfl rfl (QO.move rfl rfl) ?_
     refine Ops_nil ?_
     refine thenA_n ?_
     refine wpA_block ?_
     obtain ⟨R2, hR, ho1⟩ := Option.bind_eq_some_iff.1 ho1
     obtain ⟨k2, hk2⟩ := loopV_some hR
     clear hR
     refine wpA_mono (Q := fun e s' h' => match (generalizing := false) R2 with | .stop x id => e = .exit id ∧ ∃ (x2 : Int) (x3 : Int) (x4 : Int), x = (x2, x3, x4) ∧ Sub s' [(1, .pointer (some ⟨b1, 0, none⟩)), (3, .int .i64 a0.order), (4, .int .i64 x1), (5, .int .i64 x2), (6, .int .i64 x3), (14, .int .i64 x1), (17, .int .i64 x4)] ∧ Le (upd (h) b1 (.own 37 (sqC a0) 101)) h' | .ret r => e = .ret ∧ Sub s' [(2, .bool r)] ∧ Le (h) h' | .next _ => False) ?_ ?_
     ·refine wpA_loop (fun k s' h' => ∃ (x2 : Int) (x3 : Int) (x4 : Int), loopW (m_impl_IsSquare_l1 a0 x1) k (x2, x3, x4) = some R2 ∧ Sub s' [(1, .pointer (some ⟨b1, 0, none⟩)), (3, .int .i64 a0.order), (4, .int .i64 x1), (5, .int .i64 x2), (6, .int .i64 x3), (14, .int .i64 x1), (17, .int .i64 x4)] ∧ Le (upd (h) b1 (.own 37 (sqC a0) 101)) h') (m := k2) ⟨0, 0, 0, hk2, (Sub.cons rfl (Sub.cons rfl (Sub.cons rfl (Sub.cons rfl (Sub.cons rfl (Sub.cons rfl (Sub.cons rfl Sub.nil))))))), (Le.upd_left (Le.under (Le.refl _) hb1) (upd_same _ _ _) (by first | rfl | (simp; done)))⟩ ?_
      rintro k2 s' h' ⟨x2, x3, x4, hk2, hsub, hle⟩
      refine wpA_weaken hsub.ok hle ?_
      clear hsub hle s' h'
      cases k2 with
      | zero => exact absurd hk2 (by simp [loopW])
      | succ k2 =>
       obtain ⟨o2, ho2, hk2⟩ := loopW_succ hk2
       unfold m_impl_IsSquare_l1 at ho2
       try dsimp only at ho2
       refine wpA_seq ?_
       refine wpA_region ?_
       refine Ops_quiet _ rfl rfl (QO.bin rfl rfl rfl rfl) ?_
       refine Ops_nil ?_
       refine thenA_n ?_
       refine wpA_seq ?_
       refine wpA_cond rfl (fun g3 => ?_) (fun g3 => ?_)
       ·replace ho2 := cond_t ho2 g3
        refine wpA_skip ?_
        refine thenA_n ?_
        refine wpA_seq ?_
        refine wpA_block ?_
        refine wpA_seq ?_
        refine wpA_region ?_
        refine Ops_quiet _ rfl rfl (QO.move rfl rfl) ?_
        refine Ops_quiet _ rfl rfl (QO.assign rfl rfl) ?_
        refine Ops_nil ?_
        refine thenA_n ?_
        refine wpA_seq ?_
        refine wpA_seq ?_
        refine wpA_region ?_
        refine Ops_quiet _ rfl rfl (QO.move rfl rfl) ?_
        refine Ops_quiet _ rfl rfl (QO.move rfl rfl) ?_
        refine Ops_quiet _ rfl rfl (QO.bin rfl rfl rfl rfl) ?_
        refine Ops_quiet _ rfl rfl (QO.move rfl rfl) ?_
        refine Ops_case 23 rfl (fun g4 => ?_) (fun g4 => ?_)
        ·replace ho2 := cond_t ho2 g4
         refine Ops_skip rfl rfl ?_
         refine Ops_skip rfl rfl ?_
         refine Ops_skip rfl rfl ?_
         refine Ops_quiet _ rfl rfl (QO.pick_t rfl rfl rfl) ?_
         refine Ops_quiet _ rfl rfl (QO.move rfl rfl) ?_
         refine Ops_quiet _ rfl rfl (QO.move rfl rfl) ?_
         refine Ops_quiet _ rfl rfl (QO.move rfl rfl) ?_
         refine Ops_quiet _ rfl rfl (QO.fieldAt (fo := 1) rfl sz37 rfl rfl sz35 rfl rfl) ?_
         have hq := chk ho2; clear ho2; obtain ⟨ck1, ho2⟩ := hq
         refine Ops_quiet _ rfl rfl (QO.idxArr rfl sz35 sz24 rfl rfl (by omega) (by omega)) ?_
         have hq := chk ho2; clear ho2; obtain ⟨ck2, ho2⟩ := hq
         refine Ops_quiet _ rfl rfl (QO.idxArr rfl sz24 sz5 rfl rfl (by omega) (by omega)) ?_
         refine Ops_quiet _ rfl rfl (QO.load rfl sz5 rfl rfl (by (refine (rd_own (upd_same _ _ _) _).trans ?_); exact sqC_get (by omega) (by omega))) ?_
         refine Ops_quiet _ rfl rfl (QO.bin rfl rfl rfl rfl) ?_
         refine Ops_quiet _ rfl rfl (QO.pick_t rfl rfl rfl) ?_
         refine Ops_nil ?_
         refine thenA_n ?_
         refine wpA_cond rfl (fun g5 => ?_) (fun g5 => ?_)
         ·replace ho2 := cond_t ho2 g5
          refine wpA_seq ?_
          refine wpA_region ?_
          refine Ops_quiet _ rfl rfl (QO.assign rfl rfl) ?_
          refine Ops_nil ?_
          refine thenA_n ?_
          refine wpA_ret ?_
          refine thenA_r ?_
          refine blockA_r ?_
          refine thenA_r ?_
          refine thenA_r ?_
          obtain rfl := Option.some.inj ho2
          obtain rfl := Option.some.inj hk2
          exact ⟨rfl, (Sub.cons rfl Sub.nil), (Le.under (Le.refl _) hb1)⟩
         ·replace ho2 := cond_f ho2 g5
          refine wpA_skip ?_
          refine thenA_n ?_
          refine wpA_seq ?_
          refine wpA_region ?_
          refine Ops_quiet _ rfl rfl (QO.move rfl rfl) ?_
          refine Ops_quiet _ rfl rfl (QO.move rfl rfl) ?_
          refine Ops_quiet _ rfl rfl (QO.bin rfl rfl rfl rfl) ?_
          refine Ops_quiet _ rfl rfl (QO.move rfl rfl) ?_
          refine Ops_case 40 rfl (fun g6 => ?_) (fun g6 => ?_)
          ·replace ho2 := cond_t ho2 g6
           refine Ops_quiet _ rfl rfl (QO.move rfl rfl) ?_
           refine Ops_quiet _ rfl rfl (QO.move rfl rfl) ?_
           refine Ops_quiet _ rfl rfl (QO.bin rfl rfl rfl rfl) ?_
           refine Ops_quiet _ rfl rfl (QO.pick_t rfl rfl rfl) ?_
           refine Ops_nil ?_
           refine thenA_n ?_
           refine wpA_cond rfl (fun g7 => ?_) (fun g7 => ?_)
           ·replace ho2 := cond_t ho2 g7
            refine wpA_seq ?_
            refine wpA_seq ?_
            refine wpA_region ?_
            refine Ops_quiet _ rfl rfl (QO.move rfl rfl) ?_
            refine Ops_quiet _ rfl rfl (QO.move rfl rfl) ?_
            refine Ops_quiet _ rfl rfl (QO.fieldAt (fo := 1) rfl sz37 rfl rfl sz35 rfl rfl) ?_
            have hq := chk ho2; clear ho2; obtain ⟨ck3, ho2⟩ := hq
            refine Ops_quiet _ rfl rfl (QO.idxArr rfl sz35 sz24 rfl rfl (by omega) (by omega)) ?_
            have hq := chk ho2; clear ho2; obtain ⟨ck4, ho2⟩ := hq
            refine Ops_quiet _ rfl rfl (QO.idxArr rfl sz24 sz5 rfl rfl (by omega) (by omega)) ?_
            refine Ops_quiet _ rfl rfl (QO.load rfl sz5 rfl rfl (by (refine (rd_own (upd_same _ _ _) _).trans ?_); exact sqC_get (by omega) (by omega))) ?_
            refine Ops_quiet _ rfl rfl (QO.conv rfl sz5 sz3 rfl) ?_
            refine Ops_quiet _ rfl rfl (QO.move rfl rfl) ?_
            refine Ops_quiet _ rfl rfl (QO.bin rfl rfl rfl rfl) ?_
            refine Ops_quiet _ rfl rfl (QO.move rfl rfl) ?_
            refine Ops_case 54 rfl (fun g8 => ?_) (fun g8 => ?_)
            ·replace ho2 := cond_t ho2 g8
             refine Ops_skip rfl rfl ?_
             refine Ops_skip rfl rfl ?_
             refine Ops_skip rfl rfl ?_
             refine Ops_skip rfl rfl ?_
             refine Ops_skip rfl rfl ?_
             refine Ops_skip rfl rfl ?_
             refine Ops_skip rfl rfl ?_
             refine Ops_skip rfl rfl ?_
             refine Ops_skip rfl rfl ?_
             refine Ops_quiet _ rfl rfl (QO.pick_t rfl rfl rfl) ?_
             refine Ops_nil ?_
             refine thenA_n ?_
             refine wpA_cond_t rfl ?_
             refine wpA_seq ?_
             refine wpA_region ?_
             refine Ops_quiet _ rfl rfl (QO.assign rfl rfl) ?_
             refine Ops_nil ?_
             refine thenA_n ?_
             refine wpA_ret ?_
             refine thenA_r ?_
             refine blockA_r ?_
             refine thenA_r ?_
             refine thenA_r ?_
             obtain rfl := Option.some.inj ho2
             obtain rfl := Option.some.inj hk2
             exact ⟨rfl, (Sub.cons rfl Sub.nil), (Le.under (Le.refl _) hb1)⟩
            ·replace ho2 := cond_f ho2 g8
             refine Ops_quiet _ rfl rfl (QO.move rfl rfl) ?_
             refine Ops_quiet _ rfl rfl (QO.move rfl rfl) ?_
             refine Ops_quiet _ rfl rfl (QO.fieldAt (fo := 1) rfl sz37 rfl rfl sz35 rfl rfl) ?_
             have hq := chk ho2; clear ho2; obtain ⟨ck5, ho2⟩ := hq
             refine Ops_quiet _ rfl rfl (QO.idxArr rfl sz35 sz24 rfl rfl (by omega) (by omega)) ?_
             have hq := chk ho2; clear ho2; obtain ⟨ck6, ho2⟩ := hq
             refine Ops_quiet _ rfl rfl (QO.idxArr rfl sz24 sz5 rfl rfl (by omega) (by omega)) ?_
             refine Ops_quiet _ rfl rfl (QO.load rfl sz5 rfl rfl (by (refine (rd_own (upd_same _ _ _) _).trans ?_); exact sqC_get (by omega) (by omega))) ?_
             refine Ops_quiet _ rfl rfl (QO.conv rfl sz5 sz3 rfl) ?_
             refine Ops_quiet _ rfl rfl (QO.move rfl rfl) ?_
             refine Ops_quiet _ rfl rfl (QO.bin rfl rfl rfl rfl) ?_
             refine Ops_quiet _ rfl rfl (QO.pick_f rfl rfl rfl) ?_
             refine Ops_nil ?_
             refine thenA_n ?_
             refine wpA_cond rfl (fun g9 => ?_) (fun g9 => ?_)
             ·replace ho2 := cond_t ho2 g9
              refine wpA_seq ?_
              refine wpA_region ?_
              refine Ops_quiet _ rfl rfl (QO.assign rfl rfl) ?_
              refine Ops_nil ?_
              refine thenA_n ?_
              refine wpA_ret ?_
              refine thenA_r ?_
              refine blockA_r ?_
              refine thenA_r ?_
              refine thenA_r ?_
              obtain rfl := Option.some.inj ho2
              obtain rfl := Option.some.inj hk2
              exact ⟨rfl, (Sub.cons rfl Sub.nil), (Le.under (Le.refl _) hb1)⟩
             ·replace ho2 := cond_f ho2 g9
              refine wpA_skip ?_
              refine thenA_n ?_
              refine wpA_seq ?_
              refine wpA_region ?_
              refine Ops_quiet _ rfl rfl (QO.move rfl rfl) ?_
              refine Ops_quiet _ rfl rfl (QO.move rfl rfl) ?_
              refine Ops_quiet _ rfl rfl (QO.move rfl rfl) ?_
              refine Ops_quiet _ rfl rfl (QO.fieldAt (fo := 1) rfl sz37 rfl rfl sz35 rfl rfl) ?_
              have hq := chk ho2; clear ho2; obtain ⟨ck7, ho2⟩ := hq
              refine Ops_quiet _ rfl rfl (QO.idxArr rfl sz35 sz24 rfl rfl (by omega) (by omega)) ?_
              have hq := chk ho2; clear ho2; obtain ⟨ck8, ho2⟩ := hq
              refine Ops_quiet _ rfl rfl (QO.idxArr rfl sz24 sz5 rfl rfl (by omega) (by omega)) ?_
              refine Ops_quiet _ rfl rfl (QO.load rfl sz5 rfl rfl (by (refine (rd_own (upd_same _ _ _) _).trans ?_); exact sqC_get (by omega) (by omega))) ?_
              have hq := chk ho2; clear ho2; obtain ⟨ck9, ho2⟩ := hq
              refine Ops_quiet _ rfl rfl (QO.shl rfl rfl rfl (by first | assumption | omega)) ?_
              refine Ops_quiet _ rfl rfl (QO.bin rfl rfl rfl rfl) ?_
              refine Ops_quiet _ rfl rfl (QO.assign rfl rfl) ?_
              refine Ops_nil ?_
              refine thenA_n ?_
              refine wpA_region ?_
              refine Ops_quiet _ rfl rfl (QO.move rfl rfl) ?_
              refine Ops_quiet _ rfl rfl (QO.move rfl rfl) ?_
              refine Ops_quiet _ rfl rfl (QO.move rfl rfl) ?_
              refine Ops_quiet _ rfl rfl (QO.fieldAt (fo := 1) rfl sz37 rfl rfl sz35 rfl rfl) ?_
              have hq := chk ho2; clear ho2; obtain ⟨ck10, ho2⟩ := hq
              refine Ops_quiet _ rfl rfl (QO.idxArr rfl sz35 sz24 rfl rfl (by omega) (by omega)) ?_
              have hq := chk ho2; clear ho2; obtain ⟨ck11, ho2⟩ := hq
              refine Ops_quiet _ rfl rfl (QO.idxArr rfl sz24 sz5 rfl rfl (by omega) (by omega)) ?_
              refine Ops_quiet _ rfl rfl (QO.load rfl sz5 rfl rfl (by (refine (rd_own (upd_same _ _ _) _).trans ?_); exact sqC_get (by omega) (by omega))) ?_
              have hq := chk ho2; clear ho2; obtain ⟨ck12, ho2⟩ := hq
              refine Ops_quiet _ rfl rfl (QO.shl rfl rfl rfl (by first | assumption | omega)) ?_
              refine Ops_quiet _ rfl rfl (QO.bin rfl rfl rfl rfl) ?_
              refine Ops_quiet _ rfl rfl (QO.assign rfl rfl) ?_
              refine Ops_nil ?_
              refine blockA_n ?_
              refine thenA_n ?_
              refine wpA_region ?_
              refine Ops_quiet _ rfl rfl (QO.bin rfl rfl rfl rfl) ?_
              refine Ops_quiet _ rfl rfl (QO.move rfl rfl) ?_
              refine Ops_nil ?_
              obtain rfl := Option.some.inj ho2
              dsimp only at hk2
              exact thenA_n ⟨k2, Nat.lt_succ_self _, _, _, _, hk2, (Sub.cons rfl (Sub.cons rfl (Sub.cons rfl (Sub.cons rfl (Sub.cons rfl (Sub.cons rfl (Sub.cons rfl Sub.nil))))))), (Le.upd_left (Le.under (Le.refl _) hb1) (upd_same _ _ _) (by first | rfl | (simp; done)))⟩
           ·replace ho2 := cond_f ho2 g7
            refine wpA_skip ?_
            refine blockA_n ?_
            refine thenA_n ?_
            refine wpA_region ?_
            refine Ops_quiet _ rfl rfl (QO.bin rfl rfl rfl rfl) ?_
            refine Ops_quiet _ rfl rfl (QO.move rfl rfl) ?_
            refine Ops_nil ?_
            obtain rfl := Option.some.inj ho2
            dsimp only at hk2
            exact thenA_n ⟨k2, Nat.lt_succ_self _, _, _, _, hk2, (Sub.cons rfl (Sub.cons rfl (Sub.cons rfl (Sub.cons rfl (Sub.cons rfl (Sub.cons rfl (Sub.cons rfl Sub.nil))))))), (Le.upd_left (Le.under (Le.refl _) hb1) (upd_same _ _ _) (by first | rfl | (simp; done)))⟩
          ·replace ho2 := cond_f ho2 g6
           refine Ops_skip rfl rfl ?_
           refine Ops_skip rfl rfl ?_
           refine Ops_skip rfl rfl ?_
           refine Ops_quiet _ rfl rfl (QO.pick_f rfl rfl rfl) ?_
           refine Ops_nil ?_
           refine thenA_n ?_
           refine wpA_cond_f rfl ?_
           refine wpA_skip ?_
           refine blockA_n ?_
           refine thenA_n ?_
           refine wpA_region ?_
           refine Ops_quiet _ rfl rfl (QO.bin rfl rfl rfl rfl) ?_
           refine Ops_quiet _ rfl rfl (QO.move rfl rfl) ?_
           refine Ops_nil ?_
           obtain rfl := Option.some.inj ho2
           dsimp only at hk2
           exact thenA_n ⟨k2, Nat.lt_succ_self _, _, _, _, hk2, (Sub.cons rfl (Sub.cons rfl (Sub.cons rfl (Sub.cons rfl (Sub.cons rfl (Sub.cons rfl (Sub.cons rfl Sub.nil))))))), (Le.upd_left (Le.under (Le.refl _) hb1) (upd_same _ _ _) (by first | rfl | (simp; done)))⟩
        ·replace ho2 := cond_f ho2 g4
         refine Ops_quiet _ rfl rfl (QO.move rfl rfl) ?_
         refine Ops_quiet _ rfl rfl (QO.move rfl rfl) ?_
         refine Ops_quiet _ rfl rfl (QO.bin rfl rfl rfl rfl) ?_
         refine Ops_quiet _ rfl rfl (QO.pick_f rfl rfl rfl) ?_
         refine Ops_quiet _ rfl rfl (QO.move rfl rfl) ?_
         refine Ops_case 28 rfl (fun g10 => ?_) (fun g10 => ?_)
         ·replace ho2 := cond_t ho2 g10
          refine Ops_quiet _ rfl rfl (QO.move rfl rfl) ?_
          refine Ops_quiet _ rfl rfl (QO.move rfl rfl) ?_
          refine Ops_quiet _ rfl rfl (QO.fieldAt (fo := 1) rfl sz37 rfl rfl sz35 rfl rfl) ?_
          have hq := chk ho2; clear ho2; obtain ⟨ck13, ho2⟩ := hq
          refine Ops_quiet _ rfl rfl (QO.idxArr rfl sz35 sz24 rfl rfl (by omega) (by omega)) ?_
          have hq := chk ho2; clear ho2; obtain ⟨ck14, ho2⟩ := hq
          refine Ops_quiet _ rfl rfl (QO.idxArr rfl sz24 sz5 rfl rfl (by omega) (by omega)) ?_
          refine Ops_quiet _ rfl rfl (QO.load rfl sz5 rfl rfl (by (refine (rd_own (upd_same _ _ _) _).trans ?_); exact sqC_get (by omega) (by omega))) ?_
          refine Ops_quiet _ rfl rfl (QO.bin rfl rfl rfl rfl) ?_
          refine Ops_quiet _ rfl rfl (QO.pick_t rfl rfl rfl) ?_
          refine Ops_nil ?_
          refine thenA_n ?_
          refine wpA_cond rfl (fun g11 => ?_) (fun g11 => ?_)
          ·replace ho2 := cond_t ho2 g11
           refine wpA_seq ?_
           refine wpA_region ?_
           refine Ops_quiet _ rfl rfl (QO.assign rfl rfl) ?_
           refine Ops_nil ?_
           refine thenA_n ?_
           refine wpA_ret ?_
           refine thenA_r ?_
           refine blockA_r ?_
           refine thenA_r ?_
           refine thenA_r ?_
           obtain rfl := Option.some.inj ho2
           obtain rfl := Option.some.inj hk2
           exact ⟨rfl, (Sub.cons rfl Sub.nil), (Le.under (Le.refl _) hb1)⟩
          ·replace ho2 := cond_f ho2 g11
           refine wpA_skip ?_
           refine thenA_n ?_
           refine wpA_seq ?_
           refine wpA_region ?_
           refine Ops_quiet _ rfl rfl (QO.move rfl rfl) ?_
           refine Ops_quiet _ rfl rfl (QO.move rfl rfl) ?_
           refine Ops_quiet _ rfl rfl (QO.bin rfl rfl rfl rfl) ?_
           refine Ops_quiet _ rfl rfl (QO.move rfl rfl) ?_
           refine Ops_case 40 rfl (fun g12 => ?_) (fun g12 => ?_)
           ·replace ho2 := cond_t ho2 g12
            refine Ops_quiet _ rfl rfl (QO.move rfl rfl) ?_
            refine Ops_quiet _ rfl rfl (QO.move rfl rfl) ?_
            refine Ops_quiet _ rfl rfl (QO.bin rfl rfl rfl rfl) ?_
            refine Ops_quiet _ rfl rfl (QO.pick_t rfl rfl rfl) ?_
            refine Ops_nil ?_
            refine thenA_n ?_
            refine wpA_cond rfl (fun g13 => ?_) (fun g13 => ?_)
            ·replace ho2 := cond_t ho2 g13
             refine wpA_seq ?_
             refine wpA_seq ?_
             refine wpA_region ?_
             refine Ops_quiet _ rfl rfl (QO.move rfl rfl) ?_
             refine Ops_quiet _ rfl rfl (QO.move rfl rfl) ?_
             refine Ops_quiet _ rfl rfl (QO.fieldAt (fo := 1) rfl sz37 rfl rfl sz35 rfl rfl) ?_
             have hq := chk ho2; clear ho2; obtain ⟨ck15, ho2⟩ := hq
             refine Ops_quiet _ rfl rfl (QO.idxArr rfl sz35 sz24 rfl rfl (by omega) (by omega)) ?_
             have hq := chk ho2; clear ho2; obtain ⟨ck16, ho2⟩ := hq
             refine Ops_quiet _ rfl rfl (QO.idxArr rfl sz24 sz5 rfl rfl (by omega) (by omega)) ?_
             refine Ops_quiet _ rfl rfl (QO.load rfl sz5 rfl rfl (by (refine (rd_own (upd_same _ _ _) _).trans ?_); exact sqC_get (by omega) (by omega))) ?_
             refine Ops_quiet _ rfl rfl (QO.conv rfl sz5 sz3 rfl) ?_
             refine Ops_quiet _ rfl rfl (QO.move rfl rfl) ?_
             refine Ops_quiet _ rfl rfl (QO.bin rfl rfl rfl rfl) ?_
             refine Ops_quiet _ rfl rfl (QO.move rfl rfl) ?_
             refine Ops_case 54 rfl (fun g14 => ?_) (fun g14 => ?_)
             ·replace ho2 := cond_t ho2 g14
              refine Ops_skip rfl rfl ?_
              refine Ops_skip rfl rfl ?_
              refine Ops_skip rfl rfl ?_
              refine Ops_skip rfl rfl ?_
              refine Ops_skip rfl rfl ?_
              refine Ops_skip rfl rfl ?_
              refine Ops_skip rfl rfl ?_
              refine Ops_skip rfl rfl ?_
              refine Ops_skip rfl rfl ?_
              refine Ops_quiet _ rfl rfl (QO.pick_t rfl rfl rfl) ?_
              refine Ops_nil ?_
              refine thenA_n ?_
              refine wpA_cond_t rfl ?_
              refine wpA_seq ?_
              refine wpA_region ?_
              refine Ops_quiet _ rfl rfl (QO.assign rfl rfl) ?_
              refine Ops_nil ?_
              refine thenA_n ?_
              refine wpA_ret ?_
              refine thenA_r ?_
              refine blockA_r ?_
              refine thenA_r ?_
              refine thenA_r ?_
              obtain rfl := Option.some.inj ho2
              obtain rfl := Option.some.inj hk2
              exact ⟨rfl, (Sub.cons rfl Sub.nil), (Le.under (Le.refl _) hb1)⟩
             ·replace ho2 := cond_f ho2 g14
              refine Ops_quiet _ rfl rfl (QO.move rfl rfl) ?_
              refine Ops_quiet _ rfl rfl (QO.move rfl rfl) ?_
              refine Ops_quiet _ rfl rfl (QO.fieldAt (fo := 1) rfl sz37 rfl rfl sz35 rfl rfl) ?_
              have hq := chk ho2; clear ho2; obtain ⟨ck17, ho2⟩ := hq
              refine Ops_quiet _ rfl rfl (QO.idxArr rfl sz35 sz24 rfl rfl (by omega) (by omega)) ?_
              have hq := chk ho2; clear ho2; obtain ⟨ck18, ho2⟩ := hq
              refine Ops_quiet _ rfl rfl (QO.idxArr rfl sz24 sz5 rfl rfl (by omega) (by omega)) ?_
              refine Ops_quiet _ rfl rfl (QO.load rfl sz5 rfl rfl (by (refine (rd_own (upd_same _ _ _) _).trans ?_); exact sqC_get (by omega) (by omega))) ?_
              refine Ops_quiet _ rfl rfl (QO.conv rfl sz5 sz3 rfl) ?_
              refine Ops_quiet _ rfl rfl (QO.move rfl rfl) ?_
              refine Ops_quiet _ rfl rfl (QO.bin rfl rfl rfl rfl) ?_
              refine Ops_quiet _ rfl rfl (QO.pick_f rfl rfl rfl) ?_
              refine Ops_nil ?_
              refine thenA_n ?_
              refine wpA_cond rfl (fun g15 => ?_) (fun g15 => ?_)
              ·replace ho2 := cond_t ho2 g15
               refine wpA_seq ?_
               refine wpA_region ?_
               refine Ops_quiet _ rfl rfl (QO.assign rfl rfl) ?_
               refine Ops_nil ?_
               refine thenA_n ?_
               refine wpA_ret ?_
               refine thenA_r ?_
               refine blockA_r ?_
               refine thenA_r ?_
               refine thenA_r ?_
               obtain rfl := Option.some.inj ho2
               obtain rfl := Option.some.inj hk2
               exact ⟨rfl, (Sub.cons rfl Sub.nil), (Le.under (Le.refl _) hb1)⟩
              ·replace ho2 := cond_f ho2 g15
               refine wpA_skip ?_
               refine thenA_n ?_
               refine wpA_seq ?_
               refine wpA_region ?_
               refine Ops_quiet _ rfl rfl (QO.move rfl rfl) ?_
               refine Ops_quiet _ rfl rfl (QO.move rfl rfl) ?_
               refine Ops_quiet _ rfl rfl (QO.move rfl rfl) ?_
               refine Ops_quiet _ rfl rfl (QO.fieldAt (fo := 1) rfl sz37 rfl rfl sz35 rfl rfl) ?_
               have hq := chk ho2; clear ho2; obtain ⟨ck19, ho2⟩ := hq
               refine Ops_quiet _ rfl rfl (QO.idxArr rfl sz35 sz24 rfl rfl (by omega) (by omega)) ?_
               have hq := chk ho2; clear ho2; obtain ⟨ck20, ho2⟩ := hq
               refine Ops_quiet _ rfl rfl (QO.idxArr rfl sz24 sz5 rfl rfl (by omega) (by omega)) ?_
               refine Ops_quiet _ rfl rfl (QO.load rfl sz5 rfl rfl (by (refine (rd_own (upd_same _ _ _) _).trans ?_); exact sqC_get (by omega) (by omega))) ?_
               have hq := chk ho2; clear ho2; obtain ⟨ck21, ho2⟩ := hq
               refine Ops_quiet _ rfl rfl (QO.shl rfl rfl rfl (by first | assumption | omega)) ?_
               refine Ops_quiet _ rfl rfl (QO.bin rfl rfl rfl rfl) ?_
               refine Ops_quiet _ rfl rfl (QO.assign rfl rfl) ?_
               refine Ops_nil ?_
               refine thenA_n ?_
               refine wpA_region ?_
               refine Ops_quiet _ rfl rfl (QO.move rfl rfl) ?_
               refine Ops_quiet _ rfl rfl (QO.move rfl rfl) ?_
               refine Ops_quiet _ rfl rfl (QO.move rfl rfl) ?_
               refine Ops_quiet _ rfl rfl (QO.fieldAt (fo := 1) rfl sz37 rfl rfl sz35 rfl rfl) ?_
               have hq := chk ho2; clear ho2; obtain ⟨ck22, ho2⟩ := hq
               refine Ops_quiet _ rfl rfl (QO.idxArr rfl sz35 sz24 rfl rfl (by omega) (by omega)) ?_
               have hq := chk ho2; clear ho2; obtain ⟨ck23, ho2⟩ := hq
               refine Ops_quiet _ rfl rfl (QO.idxArr rfl sz24 sz5 rfl rfl (by omega) (by omega)) ?_
               refine Ops_quiet _ rfl rfl (QO.load rfl sz5 rfl rfl (by (refine (rd_own (upd_same _ _ _) _).trans ?_); exact sqC_get (by omega) (by omega))) ?_
               have hq := chk ho2; clear ho2; obtain ⟨ck24, ho2⟩ := hq
               refine Ops_quiet _ rfl rfl (QO.shl rfl rfl rfl (by first | assumption | omega)) ?_
               refine Ops_quiet _ rfl rfl (QO.bin rfl rfl rfl rfl) ?_
               refine Ops_quiet _ rfl rfl (QO.assign rfl rfl) ?_
               refine Ops_nil ?_
               refine blockA_n ?_
               refine thenA_n ?_
               refine wpA_region ?_
               refine Ops_quiet _ rfl rfl (QO.bin rfl rfl rfl rfl) ?_
               refine Ops_quiet _ rfl rfl (QO.move rfl rfl) ?_
               refine Ops_nil ?_
               obtain rfl := Option.some.inj ho2
               dsimp only at hk2
               exact thenA_n ⟨k2, Nat.lt_succ_self _, _, _, _, hk2, (Sub.cons rfl (Sub.cons rfl (Sub.cons rfl (Sub.cons rfl (Sub.cons rfl (Sub.cons rfl (Sub.cons rfl Sub.nil))))))), (Le.upd_left (Le.under (Le.refl _) hb1) (upd_same _ _ _) (by first | rfl | (simp; done)))⟩
            ·replace ho2 := cond_f ho2 g13
             refine wpA_skip ?_
             refine blockA_n ?_
             refine thenA_n ?_
             refine wpA_region ?_
             refine Ops_quiet _ rfl rfl (QO.bin rfl rfl rfl rfl) ?_
             refine Ops_quiet _ rfl rfl (QO.move rfl rfl) ?_
             refine Ops_nil ?_
             obtain rfl := Option.some.inj ho2
             dsimp only at hk2
             exact thenA_n ⟨k2, Nat.lt_succ_self _, _, _, _, hk2, (Sub.cons rfl (Sub.cons rfl (Sub.cons rfl (Sub.cons rfl (Sub.cons rfl (Sub.cons rfl (Sub.cons rfl Sub.nil))))))), (Le.upd_left (Le.under (Le.refl _) hb1) (upd_same _ _ _) (by first | rfl | (simp; done)))⟩
           ·replace ho2 := cond_f ho2 g12
            refine Ops_skip rfl rfl ?_
            refine Ops_skip rfl rfl ?_
            refine Ops_skip rfl rfl ?_
            refine Ops_quiet _ rfl rfl (QO.pick_f rfl rfl rfl) ?_
            refine Ops_nil ?_
            refine thenA_n ?_
            refine wpA_cond_f rfl ?_
            refine wpA_skip ?_
            refine blockA_n ?_
            refine thenA_n ?_
            refine wpA_region ?_
            refine Ops_quiet _ rfl rfl (QO.bin rfl rfl rfl rfl) ?_
            refine Ops_quiet _ rfl rfl (QO.move rfl rfl) ?_
            refine Ops_nil ?_
            obtain rfl := Option.some.inj ho2
            dsimp only at hk2
            exact thenA_n ⟨k2, Nat.lt_succ_self _, _, _, _, hk2, (Sub.cons rfl (Sub.cons rfl (Sub.cons rfl (Sub.cons rfl (Sub.cons rfl (Sub.cons rfl (Sub.cons rfl Sub.nil))))))), (Le.upd_left (Le.under (Le.refl _) hb1) (upd_same _ _ _) (by first | rfl | (simp; done)))⟩
         ·replace ho2 := cond_f ho2 g10
          refine Ops_skip rfl rfl ?_
          refine Ops_skip rfl rfl ?_
          refine Ops_skip rfl rfl ?_
          refine Ops_skip rfl rfl ?_
          refine Ops_skip rfl rfl ?_
          refine Ops_skip rfl rfl ?_
          refine Ops_skip rfl rfl ?_
          refine Ops_quiet _ rfl rfl (QO.pick_f rfl rfl rfl) ?_
          refine Ops_nil ?_
          refine thenA_n ?_
          refine wpA_cond_f rfl ?_
          refine wpA_skip ?_
          refine thenA_n ?_
          refine wpA_seq ?_
          refine wpA_region ?_
          refine Ops_quiet _ rfl rfl (QO.move rfl rfl) ?_
          refine Ops_quiet _ rfl rfl (QO.move rfl rfl) ?_
          refine Ops_quiet _ rfl rfl (QO.bin rfl rfl rfl rfl) ?_
          refine Ops_quiet _ rfl rfl (QO.move rfl rfl) ?_
          refine Ops_case 40 rfl (fun g16 => ?_) (fun g16 => ?_)
          ·replace ho2 := cond_t ho2 g16
           refine Ops_quiet _ rfl rfl (QO.move rfl rfl) ?_
           refine Ops_quiet _ rfl rfl (QO.move rfl rfl) ?_
           refine Ops_quiet _ rfl rfl (QO.bin rfl rfl rfl rfl) ?_
           refine Ops_quiet _ rfl rfl (QO.pick_t rfl rfl rfl) ?_
           refine Ops_nil ?_
           refine thenA_n ?_
           refine wpA_cond rfl (fun g17 => ?_) (fun g17 => ?_)
           ·replace ho2 := cond_t ho2 g17
            refine wpA_seq ?_
            refine wpA_seq ?_
            refine wpA_region ?_
            refine Ops_quiet _ rfl rfl (QO.move rfl rfl) ?_
            refine Ops_quiet _ rfl rfl (QO.move rfl rfl) ?_
            refine Ops_quiet _ rfl rfl (QO.fieldAt (fo := 1) rfl sz37 rfl rfl sz35 rfl rfl) ?_
            have hq := chk ho2; clear ho2; obtain ⟨ck25, ho2⟩ := hq
            refine Ops_quiet _ rfl rfl (QO.idxArr rfl sz35 sz24 rfl rfl (by omega) (by omega)) ?_
            have hq := chk ho2; clear ho2; obtain ⟨ck26, ho2⟩ := hq
            refine Ops_quiet _ rfl rfl (QO.idxArr rfl sz24 sz5 rfl rfl (by omega) (by omega)) ?_
            refine Ops_quiet _ rfl rfl (QO.load rfl sz5 rfl rfl (by (refine (rd_own (upd_same _ _ _) _).trans ?_); exact sqC_get (by omega) (by omega))) ?_
            refine Ops_quiet _ rfl rfl (QO.conv rfl sz5 sz3 rfl) ?_
            refine Ops_quiet _ rfl rfl (QO.move rfl rfl) ?_
            refine Ops_quiet _ rfl rfl (QO.bin rfl rfl rfl rfl) ?_
            refine Ops_quiet _ rfl rfl (QO.move rfl rfl) ?_
            refine Ops_case 54 rfl (fun g18 => ?_) (fun g18 => ?_)
            ·replace ho2 := cond_t ho2 g18
             refine Ops_skip rfl rfl ?_
             refine Ops_skip rfl rfl ?_
             refine Ops_skip rfl rfl ?_
             refine Ops_skip rfl rfl ?_
             refine Ops_skip rfl rfl ?_
             refine Ops_skip rfl rfl ?_
             refine Ops_skip rfl rfl ?_
             refine Ops_skip rfl rfl ?_
             refine Ops_skip rfl rfl ?_
             refine Ops_quiet _ rfl rfl (QO.pick_t rfl rfl rfl) ?_
             refine Ops_nil ?_
             refine thenA_n ?_
             refine wpA_cond_t rfl ?_
             refine wpA_seq ?_
             refine wpA_region ?_
             refine Ops_quiet _ rfl rfl (QO.assign rfl rfl) ?_
             refine Ops_nil ?_
             refine thenA_n ?_
             refine wpA_ret ?_
             refine thenA_r ?_
             refine blockA_r ?_
             refine thenA_r ?_
             refine thenA_r ?_
             obtain rfl := Option.some.inj ho2
             obtain rfl := Option.some.inj hk2
             exact ⟨rfl, (Sub.cons rfl Sub.nil), (Le.under (Le.refl _) hb1)⟩
            ·replace ho2 := cond_f ho2 g18
             refine Ops_quiet _ rfl rfl (QO.move rfl rfl) ?_
             refine Ops_quiet _ rfl rfl (QO.move rfl rfl) ?_
             refine Ops_quiet _ rfl rfl (QO.fieldAt (fo := 1) rfl sz37 rfl rfl sz35 rfl rfl) ?_
             have hq := chk ho2; clear ho2; obtain ⟨ck27, ho2⟩ := hq
             refine Ops_quiet _ rfl rfl (QO.idxArr rfl sz35 sz24 rfl rfl (by omega) (by omega)) ?_
             have hq := chk ho2; clear ho2; obtain ⟨ck28, ho2⟩ := hq
             refine Ops_quiet _ rfl rfl (QO.idxArr rfl sz24 sz5 rfl rfl (by omega) (by omega)) ?_
             refine Ops_quiet _ rfl rfl (QO.load rfl sz5 rfl rfl (by (refine (rd_own (upd_same _ _ _) _).trans ?_); exact sqC_get (by omega) (by omega))) ?_
             refine Ops_quiet _ rfl rfl (QO.conv rfl sz5 sz3 rfl) ?_
             refine Ops_quiet _ rfl rfl (QO.move rfl rfl) ?_
             refine Ops_quiet _ rfl rfl (QO.bin rfl rfl rfl rfl) ?_
             refine Ops_quiet _ rfl rfl (QO.pick_f rfl rfl rfl) ?_
             refine Ops_nil ?_
             refine thenA_n ?_
             refine wpA_cond rfl (fun g19 => ?_) (fun g19 => ?_)
             ·replace ho2 := cond_t ho2 g19
              refine wpA_seq ?_
              refine wpA_region ?_
              refine Ops_quiet _ rfl rfl (QO.assign rfl rfl) ?_
              refine Ops_nil ?_
              refine thenA_n ?_
              refine wpA_ret ?_
              refine thenA_r ?_
              refine blockA_r ?_
              refine thenA_r ?_
              refine thenA_r ?_
              obtain rfl := Option.some.inj ho2
              obtain rfl := Option.some.inj hk2
              exact ⟨rfl, (Sub.cons rfl Sub.nil), (Le.under (Le.refl _) hb1)⟩
             ·replace ho2 := cond_f ho2 g19
              refine wpA_skip ?_
              refine thenA_n ?_
              refine wpA_seq ?_
              refine wpA_region ?_
              refine Ops_quiet _ rfl rfl (QO.move rfl rfl) ?_
              refine Ops_quiet _ rfl rfl (QO.move rfl rfl) ?_
              refine Ops_quiet _ rfl rfl (QO.move rfl rfl) ?_
              refine Ops_quiet _ rfl rfl (QO.fieldAt (fo := 1) rfl sz37 rfl rfl sz35 rfl rfl) ?_
              have hq := chk ho2; clear ho2; obtain ⟨ck29, ho2⟩ := hq
              refine Ops_quiet _ rfl rfl (QO.idxArr rfl sz35 sz24 rfl rfl (by omega) (by omega)) ?_
              have hq := chk ho2; clear ho2; obtain ⟨ck30, ho2⟩ := hq
              refine Ops_quiet _ rfl rfl (QO.idxArr rfl sz24 sz5 rfl rfl (by omega) (by omega)) ?_
              refine Ops_quiet _ rfl rfl (QO.load rfl sz5 rfl rfl (by (refine (rd_own (upd_same _ _ _) _).trans ?_); exact sqC_get (by omega) (by omega))) ?_
              have hq := chk ho2; clear ho2; obtain ⟨ck31, ho2⟩ := hq
              refine Ops_quiet _ rfl rfl (QO.shl rfl rfl rfl (by first | assumption | omega)) ?_
              refine Ops_quiet _ rfl rfl (QO.bin rfl rfl rfl rfl) ?_
              refine Ops_quiet _ rfl rfl (QO.assign rfl rfl) ?_
              refine Ops_nil ?_
              refine thenA_n ?_
              refine wpA_region ?_
              refine Ops_quiet _ rfl rfl (QO.move rfl rfl) ?_
              refine Ops_quiet _ rfl rfl (QO.move rfl rfl) ?_
              refine Ops_quiet _ rfl rfl (QO.move rfl rfl) ?_
              refine Ops_quiet _ rfl rfl (QO.fieldAt (fo := 1) rfl sz37 rfl rfl sz35 rfl rfl) ?_
              have hq := chk ho2; clear ho2; obtain ⟨ck32, ho2⟩ := hq
              refine Ops_quiet _ rfl rfl (QO.idxArr rfl sz35 sz24 rfl rfl (by omega) (by omega)) ?_
              have hq := chk ho2; clear ho2; obtain ⟨ck33, ho2⟩ := hq
              refine Ops_quiet _ rfl rfl (QO.idxArr rfl sz24 sz5 rfl rfl (by omega) (by omega)) ?_
              refine Ops_quiet _ rfl rfl (QO.load rfl sz5 rfl rfl (by (refine (rd_own (upd_same _ _ _) _).trans ?_); exact sqC_get (by omega) (by omega))) ?_
              have hq := chk ho2; clear ho2; obtain ⟨ck34, ho2⟩ := hq
              refine Ops_quiet _ rfl rfl (QO.shl rfl rfl rfl (by first | assumption | omega)) ?_
              refine Ops_quiet _ rfl rfl (QO.bin rfl rfl rfl rfl) ?_
              refine Ops_quiet _ rfl rfl (QO.assign rfl rfl) ?_
              refine Ops_nil ?_
              refine blockA_n ?_
              refine thenA_n ?_
              refine wpA_region ?_
              refine Ops_quiet _ rfl rfl (QO.bin rfl rfl rfl rfl) ?_
              refine Ops_quiet _ rfl rfl (QO.move rfl rfl) ?_
              refine Ops_nil ?_
              obtain rfl := Option.some.inj ho2
              dsimp only at hk2
              exact thenA_n ⟨k2, Nat.lt_succ_self _, _, _, _, hk2, (Sub.cons rfl (Sub.cons rfl (Sub.cons rfl (Sub.cons rfl (Sub.cons rfl (Sub.cons rfl (Sub.cons rfl Sub.nil))))))), (Le.upd_left (Le.under (Le.refl _) hb1) (upd_same _ _ _) (by first | rfl | (simp; done)))⟩
           ·replace ho2 := cond_f ho2 g17
            refine wpA_skip ?_
            refine blockA_n ?_
            refine thenA_n ?_
            refine wpA_region ?_
            refine Ops_quiet _ rfl rfl (QO.bin rfl rfl rfl rfl) ?_
            refine Ops_quiet _ rfl rfl (QO.move rfl rfl) ?_
            refine Ops_nil ?_
            obtain rfl := Option.some.inj ho2
            dsimp only at hk2
            exact thenA_n ⟨k2, Nat.lt_succ_self _, _, _, _, hk2, (Sub.cons rfl (Sub.cons rfl (Sub.cons rfl (Sub.cons rfl (Sub.cons rfl (Sub.cons rfl (Sub.cons rfl Sub.nil))))))), (Le.upd_left (Le.under (Le.refl _) hb1) (upd_same _ _ _) (by first | rfl | (simp; done)))⟩
          ·replace ho2 := cond_f ho2 g16
           refine Ops_skip rfl rfl ?_
           refine Ops_skip rfl rfl ?_
           refine Ops_skip rfl rfl ?_
           refine Ops_quiet _ rfl rfl (QO.pick_f rfl rfl rfl) ?_
           refine Ops_nil ?_
           refine thenA_n ?_
           refine wpA_cond_f rfl ?_
           refine wpA_skip ?_
           refine blockA_n ?_
           refine thenA_n ?_
           refine wpA_region ?_
           refine Ops_quiet _ rfl rfl (QO.bin rfl rfl rfl rfl) ?_
           refine Ops_quiet _ rfl rfl (QO.move rfl rfl) ?_
           refine Ops_nil ?_
           obtain rfl := Option.some.inj ho2
           dsimp only at hk2
           exact thenA_n ⟨k2, Nat.lt_succ_self _, _, _, _, hk2, (Sub.cons rfl (Sub.cons rfl (Sub.cons rfl (Sub.cons rfl (Sub.cons rfl (Sub.cons rfl (Sub.cons rfl Sub.nil))))))), (Le.upd_left (Le.under (Le.refl _) hb1) (upd_same _ _ _) (by first | rfl | (simp; done)))⟩
       ·replace ho2 := cond_f ho2 g3
        refine wpA_exit ?_
        refine thenA_e ?_
        refine thenA_e ?_
        obtain rfl := Option.some.inj ho2
        obtain rfl := Option.some.inj hk2
        exact ⟨rfl, _, _, _, rfl, (Sub.cons rfl (Sub.cons rfl (Sub.cons rfl (Sub.cons rfl (Sub.cons rfl (Sub.cons rfl (Sub.cons rfl Sub.nil))))))), (Le.upd_left (Le.under (Le.refl _) hb1) (upd_same _ _ _) (by first | rfl | (simp; done)))⟩
     ·intro e s' h' hq
      cases R2 with
      | next x => exact hq.elim
      | ret r =>
       obtain ⟨rfl, hsub1, hle1⟩ := hq
       try dsimp only at ho1
       refine blockA_r ?_
       refine thenA_r ?_
       refine blockA_r ?_
       refine thenA_r ?_
       refine thenA_r ?_
       obtain rfl := Option.some.inj ho1
       obtain rfl := Option.some.inj hk1
       exact ⟨rfl, (Sub.trans hsub1 (Sub.cons rfl Sub.nil)), (Le.trans (Le.refl _) hle1)⟩
      | stop x id =>
       obtain ⟨rfl, x5, x6, x7, rfl, hsub2, hle2⟩ := hq
       try dsimp only at ho1
       by_cases hid1 : id = 2
       ·subst hid1
        rw [if_pos rfl] at ho1
        refine blockA_s ?_
        refine thenA_n ?_
        refine wpA_weaken hsub2.ok hle2 ?_
        refine wpA_seq ?_
        refine wpA_region ?_
        refine Ops_quiet _ rfl rfl (QO.move rfl rfl) ?_
        refine Ops_quiet _ rfl rfl (QO.move rfl rfl) ?_
        refine Ops_quiet _ rfl rfl (QO.bin rfl rfl rfl rfl) ?_
        refine Ops_quiet _ rfl rfl (QO.move rfl rfl) ?_
        refine Ops_case 87 rfl (fun g20 => ?_) (fun g20 => ?_)
        ·replace ho1 := cond_t ho1 g20
         refine Ops_quiet _ rfl rfl (QO.move rfl rfl) ?_
         refine Ops_quiet _ rfl rfl (QO.move rfl rfl) ?_
         have hq := chk ho1; clear ho1; obtain ⟨ck35, ho1⟩ := hq
         refine Ops_quiet _ rfl rfl (QO.shl rfl rfl rfl (by first | assumption | omega)) ?_
         refine Ops_quiet _ rfl rfl (QO.bin rfl rfl rfl rfl) ?_
         refine Ops_quiet _ rfl rfl (QO.bin rfl rfl rfl rfl) ?_
         refine Ops_quiet _ rfl rfl (QO.move rfl rfl) ?_
         refine Ops_case 93 rfl (fun g21 => ?_) (fun g21 => ?_)
         ·replace ho1 := cond_t ho1 g21
          refine Ops_skip rfl rfl ?_
          refine Ops_skip rfl rfl ?_
          refine Ops_skip rfl rfl ?_
          refine Ops_skip rfl rfl ?_
          refine Ops_skip rfl rfl ?_
          refine Ops_quiet _ rfl rfl (QO.pick_t rfl rfl rfl) ?_
          refine Ops_quiet _ rfl rfl (QO.pick_t rfl rfl rfl) ?_
          refine Ops_nil ?_
          refine thenA_n ?_
          refine wpA_cond_t rfl ?_
          refine wpA_seq ?_
          refine wpA_region ?_
          refine Ops_quiet _ rfl rfl (QO.assign rfl rfl) ?_
          refine Ops_nil ?_
          refine thenA_n ?_
          refine wpA_ret ?_
          refine blockA_r ?_
          refine thenA_r ?_
          refine thenA_r ?_
          obtain rfl := Option.some.inj ho1
          obtain rfl := Option.some.inj hk1
          exact ⟨rfl, (Sub.cons rfl Sub.nil), (Le.under (Le.refl _) hb1)⟩
         ·replace ho1 := cond_f ho1 g21
          refine Ops_quiet _ rfl rfl (QO.move rfl rfl) ?_
          refine Ops_quiet _ rfl rfl (QO.move rfl rfl) ?_
          have hq := chk ho1; clear ho1; obtain ⟨ck36, ho1⟩ := hq
          refine Ops_quiet _ rfl rfl (QO.shl rfl rfl rfl (by first | assumption | omega)) ?_
          refine Ops_quiet _ rfl rfl (QO.bin rfl rfl rfl rfl) ?_
          refine Ops_quiet _ rfl rfl (QO.bin rfl rfl rfl rfl) ?_
          refine Ops_quiet _ rfl rfl (QO.pick_f rfl rfl rfl) ?_
          refine Ops_quiet _ rfl rfl (QO.pick_t rfl rfl rfl) ?_
          refine Ops_nil ?_
          refine thenA_n ?_
          refine wpA_cond rfl (fun g22 => ?_) (fun g22 => ?_)
          ·replace ho1 := cond_t ho1 g22
           refine wpA_seq ?_
           refine wpA_region ?_
           refine Ops_quiet _ rfl rfl (QO.assign rfl rfl) ?_
           refine Ops_nil ?_
           refine thenA_n ?_
           refine wpA_ret ?_
           refine blockA_r ?_
           refine thenA_r ?_
           refine thenA_r ?_
           obtain rfl := Option.some.inj ho1
           obtain rfl := Option.some.inj hk1
           exact ⟨rfl, (Sub.cons rfl Sub.nil), (Le.under (Le.refl _) hb1)⟩
          ·replace ho1 := cond_f ho1 g22
           refine wpA_skip ?_
           refine blockA_n ?_
           refine thenA_n ?_
           refine wpA_region ?_
           refine Ops_quiet _ rfl rfl (QO.bin rfl rfl rfl rfl) ?_
           refine Ops_quiet _ rfl rfl (QO.move rfl rfl) ?_
           refine Ops_nil ?_
           obtain rfl := Option.some.inj ho1
           dsimp only at hk1
           exact thenA_n ⟨k1, Nat.lt_succ_self _, _, hk1, (Sub.cons rfl (Sub.cons rfl (Sub.cons rfl Sub.nil))), (Le.upd_left (Le.under (Le.refl _) hb1) (upd_same _ _ _) (by first | rfl | (simp; done)))⟩
        ·replace ho1 := cond_f ho1 g20
         refine Ops_skip rfl rfl ?_
         refine Ops_skip rfl rfl ?_
         refine Ops_skip rfl rfl ?_
         refine Ops_skip rfl rfl ?_
         refine Ops_skip rfl rfl ?_
         refine Ops_skip rfl rfl ?_
         refine Ops_skip rfl rfl ?_
         refine Ops_skip rfl rfl ?_
         refine Ops_skip rfl rfl ?_
         refine Ops_skip rfl rfl ?_
         refine Ops_skip rfl rfl ?_
         refine Ops_skip rfl rfl ?_
         refine Ops_quiet _ rfl rfl (QO.pick_f rfl rfl rfl) ?_
         refine Ops_nil ?_
         refine thenA_n ?_
         refine wpA_cond_f rfl ?_
         refine wpA_skip ?_
         refine blockA_n ?_
         refine thenA_n ?_
         refine wpA_region ?_
         refine Ops_quiet _ rfl rfl (QO.bin rfl rfl rfl rfl) ?_
         refine Ops_quiet _ rfl rfl (QO.move rfl rfl) ?_
         refine Ops_nil ?_
         obtain rfl := Option.some.inj ho1
         dsimp only at hk1
         exact thenA_n ⟨k1, Nat.lt_succ_self _, _, hk1, (Sub.cons rfl (Sub.cons rfl (Sub.cons rfl Sub.nil))), (Le.upd_left (Le.under (Le.refl _) hb1) (upd_same _ _ _) (by first | rfl | (simp; done)))⟩
       rw [if_neg hid1] at ho1
       exact absurd ho1 (by simp)
    ·replace ho1 := cond_f ho1 g2
     refine wpA_exit ?_
     refine thenA_e ?_
     refine thenA_e ?_
     obtain rfl := Option.some.inj ho1
     obtain rfl := Option.some.inj hk1
     exact ⟨rfl, _, rfl, (Sub.cons rfl (Sub.cons rfl (Sub.cons rfl Sub.nil))), (Le.upd_left (Le.under (Le.refl _) hb1) (upd_same _ _ _) (by first | rfl | (simp; done)))⟩
  ·intro e s' h' hq
   cases R1 with
   | next x => exact hq.elim
   | ret r =>
    obtain ⟨rfl, hsub3, hle3⟩ := hq
    try dsimp only at hm
    refine blockA_r ?_
    refine thenA_r ?_
    obtain rfl := Option.some.inj hm
    refine retA_sub hsub3.ok hle3 ?_
    exact retA_r (h2 := h) (Res.one rfl (rfl)) (Le.refl _) ⟨rfl, rfl⟩
   | stop x id =>
    obtain ⟨rfl, x8, rfl, hsub4, hle4⟩ := hq
    try dsimp only at hm
    by_cases hid2 : id = 0
    ·subst hid2
     rw [if_pos rfl] at hm
     refine blockA_s ?_
     refine thenA_n ?_
     refine wpA_weaken hsub4.ok hle4 ?_
     refine wpA_seq ?_
     refine wpA_region ?_
     refine Ops_quiet _ rfl rfl (QO.assign rfl rfl) ?_
     refine Ops_nil ?_
     refine thenA_n ?_
     refine wpA_ret ?_
     obtain rfl := Option.some.inj hm
     exact retA_r (h2 := h) (Res.one rfl (rfl)) (Le.under (Le.refl _) hb1) ⟨rfl, rfl⟩
    rw [if_neg hid2] at hm
    exact absurd hm (by simp)

/-! loop.example/g01195/impl.direct$1 -/
theorem c_impl_direct_1 {a0 : Int} {a1 : Int} {v0 : Int} {q0 : Nat} {v1 : Sq} {q1 : Nat} {v2 : Sq} {q2 : Nat} {h : Hp} {r : Int} (hm : m_impl_direct_1 a0 a1 v0 v1 v2 = some r) (hq0 : h q0 = some (.own 5 ([.int .u8 v0]) 1)) (hq1 : h q1 = some (.own 37 (sqC v1) 101)) (hq2 : h q2 = some (.own 37 (sqC v2) 101)) :
    QC Try.prog 55 #[.int .u8 a0, .int .u8 a1, .pointer (some ⟨q0, 0, none⟩), .pointer (some ⟨q1, 0, none⟩), .pointer (some ⟨q2, 0, none⟩)] h (.int .u8 r) := by
 unfold m_impl_direct_1 at hm
 refine CC.enter Try.func55 rfl Try.ntmps55 rfl ?_
 refine wpA_seq ?_
 refine wpA_region ?_
 refine Ops_quiet _ rfl rfl (QO.assign rfl rfl) ?_
 refine Ops_nil ?_
 refine thenA_n ?_
 refine wpA_seq ?_
 refine wpA_drawn (by kernel_rfl) (by kernel_rfl) ?_
 refine QOps.quiet _ rfl rfl (QO.load rfl sz5 rfl rfl (by (refine (rd_own hq0 _).trans ?_); exact rfl)) ?_
 refine QOps.quiet _ rfl rfl (QO.move rfl rfl) ?_
 refine QOps.quiet _ rfl rfl (QO.load rfl sz5 rfl rfl (by (refine (rd_own hq0 _).trans ?_); exact rfl)) ?_
 have hq := chk hm; clear hm; obtain ⟨ck1, hm⟩ := hq
 refine QOps.quiet _ rfl rfl (QO.quo rfl rfl rfl (by first | assumption | omega)) ?_
 refine QOps.quiet _ rfl rfl (QO.move rfl rfl) ?_
 refine QOps.quiet _ rfl rfl (QO.load rfl sz5 rfl rfl (by (refine (rd_own hq0 _).trans ?_); exact rfl)) ?_
 have hq := chk hm; clear hm; obtain ⟨ck2, hm⟩ := hq
 refine QOps.quiet _ rfl rfl (QO.quo rfl rfl rfl (by first | assumption | omega)) ?_
 refine QOps.quiet _ rfl rfl (QO.fieldAt (fo := 1) rfl sz37 rfl rfl sz35 rfl rfl) ?_
 have hq := chk hm; clear hm; obtain ⟨ck3, hm⟩ := hq
 refine QOps.quiet _ rfl rfl (QO.idxArr rfl sz35 sz24 rfl rfl (by omega) (by omega)) ?_
 have hq := chk hm; clear hm; obtain ⟨ck4, hm⟩ := hq
 refine QOps.quiet _ rfl rfl (QO.idxArr rfl sz24 sz5 rfl rfl (by omega) (by omega)) ?_
 refine QOps.quiet _ rfl rfl (QO.load rfl sz5 rfl rfl (by (refine (rd_own hq1 _).trans ?_); exact sqC_get (by omega) (by omega))) ?_
 refine QOps.quiet _ rfl rfl (QO.bin rfl rfl rfl rfl) ?_
 refine QOps.quiet _ rfl rfl (QO.move rfl rfl) ?_
 refine QOps.quiet _ rfl rfl (QO.load rfl sz5 rfl rfl (by (refine (rd_own hq0 _).trans ?_); exact rfl)) ?_
 have hq := chk hm; clear hm; obtain ⟨ck5, hm⟩ := hq
 refine QOps.quiet _ rfl rfl (QO.rem rfl rfl rfl (by first | assumption | omega)) ?_
 refine QOps.quiet _ rfl rfl (QO.move rfl rfl) ?_
 refine QOps.quiet _ rfl rfl (QO.load rfl sz5 rfl rfl (by (refine (rd_own hq0 _).trans ?_); exact rfl)) ?_
 have hq := chk hm; clear hm; obtain ⟨ck6, hm⟩ := hq
 refine QOps.quiet _ rfl rfl (QO.rem rfl rfl rfl (by first | assumption | omega)) ?_
 refine QOps.quiet _ rfl rfl (QO.fieldAt (fo := 1) rfl sz37 rfl rfl sz35 rfl rfl) ?_
 have hq := chk hm; clear hm; obtain ⟨ck7, hm⟩ := hq
 refine QOps.quiet _ rfl rfl (QO.idxArr rfl sz35 sz24 rfl rfl (by omega) (by omega)) ?_
 have hq := chk hm; clear hm; obtain ⟨ck8, hm⟩ := hq
 refine QOps.quiet _ rfl rfl (QO.idxArr rfl sz24 sz5 rfl rfl (by omega) (by omega)) ?_
 refine QOps.quiet _ rfl rfl (QO.load rfl sz5 rfl rfl (by (refine (rd_own hq2 _).trans ?_); exact sqC_get (by omega) (by omega))) ?_
 refine QOps.quiet _ rfl rfl (QO.bin rfl rfl rfl rfl) ?_
 refine QOps.quiet _ rfl rfl (QO.assign rfl rfl) ?_
 refine QOps.nil ?_
 refine thenA_n ?_
 refine wpA_ret ?_
 obtain rfl := Option.some.inj hm
 exact retA_r (h2 := h) (Res.one rfl (rfl)) (Le.refl _) ⟨rfl, rfl⟩

/-! (loop.example/g01195/impl.Square).elements -/
theorem c_impl_Square_elements {a0 : Sq} {h : Hp} {r : (List Int)} (hm : m_impl_Square_elements a0 = some r)  :
    CC Try.prog 59 #[.agg (sqC a0).toArray] h (NewSl 5 1 (ints .u8 r) r.length h) := by
 unfold m_impl_Square_elements at hm
 refine CC.enter Try.func59 rfl Try.ntmps59 rfl ?_
 refine wpA_seq ?_
 refine wpA_region ?_
 refine Ops_loud rfl (LO.boxAgg rfl rfl rfl (fun b1 hb1 => ?_))
 refine Ops_quiet _ rfl rfl (QO.assign rfl rfl) ?_
 refine Ops_nil ?_
 refine thenA_n ?_
 refine wpA_seq ?_
 refine wpA_region ?_
 refine Ops_loud rfl (LO.sliceNil rfl sz22 sz5 rfl (fun b2 hb2 => ?_))
 simp only [upd_noneA] at hb2
 obtain ⟨n_b2_b1, hb2⟩ := hb2
 refine Ops_quiet _ rfl rfl (QO.assign rfl rfl) ?_
 refine Ops_nil ?_
 refine thenA_n ?_
 refine wpA_seq ?_
 refine wpA_seq ?_
 refine wpA_region ?_
 refine Ops_quiet _ rfl rfl (QO.fieldAt (fo := 0) rfl sz37 rfl rfl sz2 rfl rfl) ?_
 refine Ops_quiet _ rfl rfl (QO.load rfl sz2 rfl rfl (by (refine (rd_own ((upd_ne _ _ n_b2_b1.ne.symm).trans (upd_same _ _ _)) _).trans ?_); exact rfl)) ?_
 refine Ops_quiet _ rfl rfl (QO.conv rfl sz2 sz5 rfl) ?_
 refine Ops_quiet _ rfl rfl (QO.move rfl rfl) ?_
 refine Ops_nil ?_
 refine thenA_n ?_
 refine wpA_block ?_
 obtain ⟨R1, hR, hm⟩ := Option.bind_eq_some_iff.1 hm
 obtain ⟨k1, hk1⟩ := loopV_some hR
 clear hR
 refine wpA_mono (Q := fun e s' h' => match (generalizing := false) R1 with | .stop x id => e = .exit id ∧ ∃ (x1 : (List Int)) (x2 : Int) (b3 cap_b3 : Nat), x = (x1, x2) ∧ (h) b3 = none ∧ x1.length ≤ cap_b3 ∧ cap_b3 ≤ maxLen ∧ Sub s' [(3, .slice (some ⟨b3, 0, none⟩) x1.length cap_b3), (8, .int .u8 (IntKind.u8.wrap a0.order)), (9, .int .u8 x2)] ∧ Le (upd (h) b3 (.own 5 (ints .u8 x1) (cap_b3 * 1))) h' | .ret r => False | .next _ => False) ?_ ?_
 ·refine wpA_loop (fun k s' h' => ∃ (x1 : (List Int)) (x2 : Int) (b3 cap_b3 : Nat), loopW (m_impl_Square_elements_l0 a0) k (x1, x2) = some R1 ∧ (h) b3 = none ∧ x1.length ≤ cap_b3 ∧ cap_b3 ≤ maxLen ∧ Sub s' [(3, .slice (some ⟨b3, 0, none⟩) x1.length cap_b3), (8, .int .u8 (IntKind.u8.wrap a0.order)), (9, .int .u8 x2)] ∧ Le (upd (h) b3 (.own 5 (ints .u8 x1) (cap_b3 * 1))) h') (m := k1) ⟨[], 0, b2, 0, hk1, hb2, (by first | assumption | (simp; done) | omega), (by first | assumption | (simp only [maxLen]; omega)), (Sub.cons rfl (Sub.cons rfl (Sub.cons rfl Sub.nil))), (Le.upd_left (Le.under (Le.under (Le.refl _) hb1) hb2) (upd_same _ _ _) (by first | rfl | (simp; done)))⟩ ?_
  rintro k1 s' h' ⟨x1, x2, b3, cap_b3, hk1, hb3, hk_b3, hc_b3, hsub, hle⟩
  refine wpA_weaken hsub.ok hle ?_
  clear hsub hle s' h'
  cases k1 with
  | zero => exact absurd hk1 (by simp [loopW])
  | succ k1 =>
   obtain ⟨o1, ho1, hk1⟩ := loopW_succ hk1
   unfold m_impl_Square_elements_l0 at ho1
   try dsimp only at ho1
   refine wpA_seq ?_
   refine wpA_region ?_
   refine Ops_quiet _ rfl rfl (QO.bin rfl rfl rfl rfl) ?_
   refine Ops_nil ?_
   refine thenA_n ?_
   refine wpA_seq ?_
   refine wpA_cond rfl (fun g1 => ?_) (fun g1 => ?_)
   ·replace ho1 := cond_t ho1 g1
    refine wpA_skip ?_
    refine thenA_n ?_
    refine wpA_seq ?_
    refine wpA_block ?_
    refine wpA_seq ?_
    refine wpA_region ?_
    refine Ops_quiet _ rfl rfl (QO.move rfl rfl) ?_
    refine Ops_quiet _ rfl rfl (QO.assign rfl rfl) ?_
    refine Ops_nil ?_
    refine thenA_n ?_
    refine wpA_region ?_
    refine Ops_quiet _ rfl rfl (QO.move rfl rfl) ?_
    refine Ops_quiet _ rfl rfl (QO.move rfl rfl) ?_
    refine Ops_loud rfl (LO.slice1 (r := ints .u8 [x2]) rfl sz22 sz5 zr5 (by first | rfl | (simp [sqC_length, tbC_length, tabI_length, tabB_length, ints_length, plsC_length, trC_length, sqsC_length, strsC_length, boolsC_length, tbB_length, List.length_append, List.length_cons, List.length_nil, List.length_set, List.length_replicate, rep_length]; done)) (by decide) (by decide) rfl rfl (by first | rfl | (simp [sqC_length, tbC_length, tabI_length, tabB_length, ints_length, plsC_length, trC_length, sqsC_length, strsC_length, boolsC_length, tbB_length, List.length_append, List.length_cons, List.length_nil, List.length_set, List.length_replicate, rep_length]; done)) rfl (fun b4 hb4 => ?_))
    simp only [upd_noneA] at hb4
    obtain ⟨n_b4_b3, hb4⟩ := hb4
    have hq := chk ho1; clear ho1; obtain ⟨ck1, ho1⟩ := hq
    refine Ops_loud rfl (LO.append2 (ys := ints .u8 [x2]) (k' := (x1 ++ [x2]).length) (xs' := ints .u8 (x1 ++ [x2])) rfl sz22 el5 rfl rfl (Del.drop n_b4_b3.ne hb4 (Del.here hb3)) (by first | assumption | omega) (by first | assumption | (simp only [maxLen]; omega)) (by first | rfl | (simp [sqC_length, tbC_length, tabI_length, tabB_length, ints_length, plsC_length, trC_length, sqsC_length, strsC_length, boolsC_length, tbB_length, List.length_append, List.length_cons, List.length_nil, List.length_set, List.length_replicate, rep_length]; done) | (simp [sqC_length, tbC_length, tabI_length, tabB_length, ints_length, plsC_length, trC_length, sqsC_length, strsC_length, boolsC_length, tbB_length, List.length_append, List.length_cons, List.length_nil, List.length_set, List.length_replicate, rep_length]; omega)) (by first | rfl | (simp [sqC_length, tbC_length, tabI_length, tabB_length, ints_length, plsC_length, trC_length, sqsC_length, strsC_length, boolsC_length, tbB_length, List.length_append, List.length_cons, List.length_nil, List.length_set, List.length_replicate, rep_length]; done) | (simp [sqC_length, tbC_length, tabI_length, tabB_length, ints_length, plsC_length, trC_length, sqsC_length, strsC_length, boolsC_length, tbB_length, List.length_append, List.length_cons, List.length_nil, List.length_set, List.length_replicate, rep_length]; omega)) (RdS.own (upd_same _ _ _)) (by first | assumption | exact tabI_one _ _ _ | exact tbC_one _ | exact sqC_one _ | exact tabB_one _ _ | exact ints_one _ _ | exact plsC_one _ | exact strsC_one _ | exact srcC_one _ _ _ _ | (intro v hv; simp at hv; subst hv; rfl)) (by decide) (by omega) (by decide) (by decide) rfl (by first | rfl | (simp [sqC_length, tbC_length, tabI_length, tabB_length, ints_length, plsC_length, trC_length, sqsC_length, strsC_length, boolsC_length, tbB_length, List.length_append, List.length_cons, List.length_nil, List.length_set, List.length_replicate, rep_length]; done) | (simp [sqC_length, tbC_length, tabI_length, tabB_length, ints_length, plsC_length, trC_length, sqsC_length, strsC_length, boolsC_length, tbB_length, List.length_append, List.length_cons, List.length_nil, List.length_set, List.length_replicate, rep_length]; omega)) (by first | rfl | (simp [ints, plsC, sqsC, boolsC, strsC]; done)) (fun b5 cap_b5 hb5 hk_b5 hc_b5 => ?_))
    refine Ops_quiet _ rfl rfl (QO.assign rfl rfl) ?_
    refine Ops_nil ?_
    refine blockA_n ?_
    refine thenA_n ?_
    refine wpA_region ?_
    refine Ops_quiet _ rfl rfl (QO.bin rfl rfl rfl rfl) ?_
    refine Ops_quiet _ rfl rfl (QO.move rfl rfl) ?_
    refine Ops_nil ?_
    obtain rfl := Option.some.inj ho1
    dsimp only at hk1
    exact thenA_n ⟨k1, Nat.lt_succ_self _, _, _, b5, cap_b5, hk1, hb5, (by first | assumption | (simp; done) | omega), (by first | assumption | (simp only [maxLen]; omega)), (Sub.cons rfl (Sub.cons rfl (Sub.cons rfl Sub.nil))), (Le.upd_left (Le.under (Le.refl _) hb5) (upd_same _ _ _) (by first | rfl | (simp; done)))⟩
   ·replace ho1 := cond_f ho1 g1
    refine wpA_exit ?_
    refine thenA_e ?_
    refine thenA_e ?_
    obtain rfl := Option.some.inj ho1
    obtain rfl := Option.some.inj hk1
    exact ⟨rfl, _, _, b3, cap_b3, rfl, hb3, (by first | assumption | (simp; done) | omega), (by first | assumption | (simp only [maxLen]; omega)), (Sub.cons rfl (Sub.cons rfl (Sub.cons rfl Sub.nil))), (Le.upd_left (Le.under (Le.refl _) hb3) (upd_same _ _ _) (by first | rfl | (simp; done)))⟩
 ·intro e s' h' hq
  cases R1 with
  | next x => exact hq.elim
  | ret r => exact hq.elim
  | stop x id =>
   obtain ⟨rfl, x3, x4, b6, cap_b6, rfl, hb6, hk_b6, hc_b6, hsub1, hle1⟩ := hq
   try dsimp only at hm
   by_cases hid1 : id = 0
   ·subst hid1
    rw [if_pos rfl] at hm
    refine blockA_s ?_
    refine thenA_n ?_
    refine wpA_weaken hsub1.ok hle1 ?_
    refine wpA_seq ?_
    refine wpA_region ?_
    refine Ops_quiet _ rfl rfl (QO.move rfl rfl) ?_
    refine Ops_quiet _ rfl rfl (QO.assign rfl rfl) ?_
    refine Ops_nil ?_
    refine thenA_n ?_
    refine wpA_ret ?_
    obtain rfl := Option.some.inj hm
    exact retA_r (h2 := upd h b6 (.own 5 (ints .u8 x3) (cap_b6 * 1))) (Res.one rfl (rfl)) (Le.upd_left (Le.under (Le.refl _) hb6) (upd_same _ _ _) (by first | rfl | (simp; done))) ⟨b6, cap_b6, (by first | rfl | (simp [*]; done)), (by assumption), (by first | assumption | omega), (by first | assumption | (simp only [maxLen]; omega)), rfl⟩
   rw [if_neg hid1] at hm
   exact absurd hm (by simp)

/-! loop.example/g01195/impl.made -/
theorem c_impl_made {a0 : Int} {ff1 : Int → Int → Option Int} {gg1 : FuncId} {kk1 : List Value} {h : Hp} {r : Sq} (hm : m_impl_made a0 ff1 = some r) (hgg1 : FnOk Try.prog gg1) (hff1 : ∀ x0 x1 r, ff1 x0 x1 = some r → QC Try.prog gg1 ([.int .u8 x0, .int .u8 x1] ++ kk1 : List Value).toArray h (.int .u8 r)) :
    QC Try.prog 49 #[.int .i64 a0, .func (.func gg1) #[] kk1.toArray] h (.agg (sqC r).toArray) := by
 unfold m_impl_made at hm
 refine CC.enter Try.func49 rfl Try.ntmps49 rfl ?_
 refine wpA_seq ?_
 refine wpA_region ?_
 refine Ops_loud rfl (LO.alloc rfl zr37 rfl (fun b1 hb1 => ?_))
 refine Ops_nil ?_
 refine thenA_n ?_
 refine wpA_seq ?_
 refine wpA_region ?_
 refine Ops_quiet _ rfl rfl (QO.move rfl rfl) ?_
 refine Ops_quiet _ rfl rfl (QO.build1 rfl rfl (bd37_0 a0)) ?_
 refine Ops_loud rfl (LO.alloc rfl zr37 rfl (fun b2 hb2 => ?_))
 simp only [upd_noneA] at hb2
 obtain ⟨n_b2_b1, hb2⟩ := hb2
 refine Ops_loud rfl (LO.storeAll (cs := sqC (⟨a0, tb0⟩ : Sq)) rfl sz37 rfl rfl (sqC_one _) (sqC_length _) (upd_same _ _ _) (sqC_length _) Chg.here rfl ?_)
 refine Ops_nil ?_
 refine thenA_n ?_
 refine wpA_seq ?_
 refine wpA_seq ?_
 refine wpA_region ?_
 refine Ops_quiet _ rfl rfl (QO.loadRow (cs := sqC (⟨a0, tb0⟩ : Sq)) (hr := (rdAll (upd_same _ _ _))) rfl sz37 rfl rfl (sqC_length _)) ?_
 have hq := Option.bind_eq_some_iff.1 hm; clear hm; obtain ⟨r1, hr1, hm⟩ := hq
 refine Ops_call _ _ rfl rfl (EO.fn rfl Try.func59 rfl rfl (Evs.cons rfl Evs.nil)) (CC.mono (c_impl_Square_elements hr1 ) ?_)
 rintro _ _ ⟨b3, cap_b3, rfl, hb3, hk_b3, hc_b3, rfl⟩
 simp only [upd_noneA] at hb3
 obtain ⟨n_b3_b2, n_b3_b1, hb3⟩ := hb3
 refine Ops_quiet _ rfl rfl (QO.lenSl rfl sz22 rfl) ?_
 refine Ops_quiet _ rfl rfl (QO.move rfl rfl) ?_
 refine Ops_nil ?_
 refine thenA_n ?_
 refine wpA_block ?_
 obtain ⟨R1, hR, hm⟩ := Option.bind_eq_some_iff.1 hm
 obtain ⟨k1, hk1⟩ := loopV_some hR
 clear hR
 refine wpA_mono (Q := fun e s' h' => match (generalizing := false) R1 with | .stop x id => e = .exit id ∧ ∃ (x1 : Int) (x2 : Sq), x = (x1, x2) ∧ Sub s' [(1, .func (.func gg1) #[] kk1.toArray), (4, .pointer (some ⟨b1, 0, none⟩)), (5, .pointer (some ⟨b2, 0, none⟩)), (13, .slice (some ⟨b3, 0, none⟩) r1.length cap_b3), (14, .int .i64 ((r1.length : Nat) : Int)), (15, .int .i64 x1)] ∧ Le (upd (upd (upd (h) b1 (.own 37 (sqC sq0) 101)) b2 (.own 37 (sqC x2) 101)) b3 (.own 5 (ints .u8 r1) (cap_b3 * 1))) h' | .ret r => False | .next _ => False) ?_ ?_
 ·refine wpA_loop (fun k s' h' => ∃ (x1 : Int) (x2 : Sq), loopW (m_impl_made_l0 ff1 r1) k (x1, x2) = some R1 ∧ Sub s' [(1, .func (.func gg1) #[] kk1.toArray), (4, .pointer (some ⟨b1, 0, none⟩)), (5, .pointer (some ⟨b2, 0, none⟩)), (13, .slice (some ⟨b3, 0, none⟩) r1.length cap_b3), (14, .int .i64 ((r1.length : Nat) : Int)), (15, .int .i64 x1)] ∧ Le (upd (upd (upd (h) b1 (.own 37 (sqC sq0) 101)) b2 (.own 37 (sqC x2) 101)) b3 (.own 5 (ints .u8 r1) (cap_b3 * 1))) h') (m := k1) ⟨0, (⟨a0, tb0⟩ : Sq), hk1, (Sub.cons rfl (Sub.cons rfl (Sub.cons rfl (Sub.cons rfl (Sub.cons rfl (Sub.cons rfl Sub.nil)))))), (Le.upd_left (Le.upd_left (Le.upd_left (Le.under (Le.under (Le.under (Le.refl _) hb1) hb2) hb3) ((upd_ne _ _ n_b3_b1.ne.symm).trans ((upd_ne _ _ n_b2_b1.ne.symm).trans (upd_same _ _ _))) (by first | rfl | (simp; done))) ((upd_ne _ _ n_b3_b2.ne.symm).trans (upd_same _ _ _)) (by first | rfl | (simp; done))) (upd_same _ _ _) (by first | rfl | (simp; done)))⟩ ?_
  rintro k1 s' h' ⟨x1, x2, hk1, hsub, hle⟩
  refine wpA_weaken hsub.ok hle ?_
  clear hsub hle s' h'
  cases k1 with
  | zero => exact absurd hk1 (by simp [loopW])
  | succ k1 =>
   obtain ⟨o1, ho1, hk1⟩ := loopW_succ hk1
   unfold m_impl_made_l0 at ho1
   try dsimp only at ho1
   refine wpA_seq ?_
   refine wpA_region ?_
   refine Ops_quiet _ rfl rfl (QO.bin rfl rfl rfl rfl) ?_
   refine Ops_nil ?_
   refine thenA_n ?_
   refine wpA_seq ?_
   refine wpA_cond rfl (fun g1 => ?_) (fun g1 => ?_)
   ·replace ho1 := cond_t ho1 g1
    refine wpA_skip ?_
    refine thenA_n ?_
    refine wpA_seq ?_
    refine wpA_block ?_
    refine wpA_seq ?_
    refine wpA_region ?_
    have hq := chk ho1; clear ho1; obtain ⟨ck1, ho1⟩ := hq
    refine Ops_quiet _ rfl rfl (QO.idxSl rfl sz22 sz5 rfl rfl (by omega) (by omega)) ?_
    refine Ops_quiet _ rfl rfl (QO.load rfl sz5 rfl rfl (by (refine (rd_own (upd_same _ _ _) _).trans ?_); exact ints_get01 (by first | omega | (simp only [List.length_cons, List.length_nil]; omega)))) ?_
    refine Ops_quiet _ rfl rfl (QO.assign rfl rfl) ?_
    refine Ops_nil ?_
    refine thenA_n ?_
    refine wpA_seq ?_
    refine wpA_region ?_
    refine Ops_quiet _ rfl rfl (QO.loadRow (cs := sqC x2) (hr := (rdAll ((upd_ne _ _ n_b3_b2.ne.symm).trans (upd_same _ _ _)))) rfl sz37 rfl rfl (sqC_length _)) ?_
    have hq := Option.bind_eq_some_iff.1 ho1; clear ho1; obtain ⟨r2, hr2, ho1⟩ := hq
    refine Ops_call _ _ rfl rfl (EO.fn rfl Try.func59 rfl rfl (Evs.cons rfl Evs.nil)) (CC.mono (c_impl_Square_elements hr2 ) ?_)
    rintro _ _ ⟨b4, cap_b4, rfl, hb4, hk_b4, hc_b4, rfl⟩
    simp only [upd_noneA] at hb4
    obtain ⟨n_b4_b3, n_b4_b2, n_b4_b1, hb4⟩ := hb4
    refine Ops_quiet _ rfl rfl (QO.lenSl rfl sz22 rfl) ?_
    refine Ops_quiet _ rfl rfl (QO.move rfl rfl) ?_
    refine Ops_nil ?_
    refine thenA_n ?_
    refine wpA_block ?_
    obtain ⟨R2, hR, ho1⟩ := Option.bind_eq_some_iff.1 ho1
    obtain ⟨k2, hk2⟩ := loopV_some hR
    clear hR
    refine wpA_mono (Q := fun e s' h' => match (generalizing := false) R2 with | .stop x id => e = .exit id ∧ ∃ (x3 : Int) (x4 : Sq), x = (x3, x4) ∧ Sub s' [(1, .func (.func gg1) #[] kk1.toArray), (4, .pointer (some ⟨b1, 0, none⟩)), (5, .pointer (some ⟨b2, 0, none⟩)), (7, .int .u8 (r1.getD (x1).toNat 0)), (13, .slice (some ⟨b3, 0, none⟩) r1.length cap_b3), (14, .int .i64 ((r1.length : Nat) : Int)), (15, .int .i64 x1), (20, .slice (some ⟨b4, 0, none⟩) r2.length cap_b4), (21, .int .i64 ((r2.length : Nat) : Int)), (22, .int .i64 x3)] ∧ Le (upd (upd (upd (upd (h) b1 (.own 37 (sqC sq0) 101)) b2 (.own 37 (sqC x4) 101)) b3 (.own 5 (ints .u8 r1) (cap_b3 * 1))) b4 (.own 5 (ints .u8 r2) (cap_b4 * 1))) h' | .ret r => False | .next _ => False) ?_ ?_
    ·refine wpA_loop (fun k s' h' => ∃ (x3 : Int) (x4 : Sq), loopW (m_impl_made_l1 ff1 r1 x1 r2) k (x3, x4) = some R2 ∧ Sub s' [(1, .func (.func gg1) #[] kk1.toArray), (4, .pointer (some ⟨b1, 0, none⟩)), (5, .pointer (some ⟨b2, 0, none⟩)), (7, .int .u8 (r1.getD (x1).toNat 0)), (13, .slice (some ⟨b3, 0, none⟩) r1.length cap_b3), (14, .int .i64 ((r1.length : Nat) : Int)), (15, .int .i64 x1), (20, .slice (some ⟨b4, 0, none⟩) r2.length cap_b4), (21, .int .i64 ((r2.length : Nat) : Int)), (22, .int .i64 x3)] ∧ Le (upd (upd (upd (upd (h) b1 (.own 37 (sqC sq0) 101)) b2 (.own 37 (sqC x4) 101)) b3 (.own 5 (ints .u8 r1) (cap_b3 * 1))) b4 (.own 5 (ints .u8 r2) (cap_b4 * 1))) h') (m := k2) ⟨0, x2, hk2, (Sub.cons rfl (Sub.cons rfl (Sub.cons rfl (Sub.cons rfl (Sub.cons rfl (Sub.cons rfl (Sub.cons rfl (Sub.cons rfl (Sub.cons rfl (Sub.cons rfl Sub.nil)))))))))), (Le.upd_left (Le.upd_left (Le.upd_left (Le.upd_left (Le.under (Le.under (Le.under (Le.under (Le.refl _) hb1) hb2) hb3) hb4) ((upd_ne _ _ n_b4_b1.ne.symm).trans ((upd_ne _ _ n_b3_b1.ne.symm).trans ((upd_ne _ _ n_b2_b1.ne.symm).trans (upd_same _ _ _)))) (by first | rfl | (simp; done))) ((upd_ne _ _ n_b4_b2.ne.symm).trans ((upd_ne _ _ n_b3_b2.ne.symm).trans (upd_same _ _ _))) (by first | rfl | (simp; done))) ((upd_ne _ _ n_b4_b3.ne.symm).trans (upd_same _ _ _)) (by first | rfl | (simp; done))) (upd_same _ _ _) (by first | rfl | (simp; done)))⟩ ?_
     rintro k2 s' h' ⟨x3, x4, hk2, hsub, hle⟩
     refine wpA_weaken hsub.ok hle ?_
     clear hsub hle s' h'
     cases k2 with
     | zero => exact absurd hk2 (by simp [loopW])
     | succ k2 =>
      obtain ⟨o2, ho2, hk2⟩ := loopW_succ hk2
      unfold m_impl_made_l1 at ho2
      try dsimp only at ho2
      refine wpA_seq ?_
      refine wpA_region ?_
      refine Ops_quiet _ rfl rfl (QO.bin rfl rfl rfl rfl) ?_
      refine Ops_nil ?_
      refine thenA_n ?_
      refine wpA_seq ?_
      refine wpA_cond rfl (fun g2 => ?_) (fun g2 => ?_)
      ·replace ho2 := cond_t ho2 g2
       refine wpA_skip ?_
       refine thenA_n ?_
       refine wpA_seq ?_
       refine wpA_block ?_
       refine wpA_seq ?_
       refine wpA_region ?_
       have hq := chk ho2; clear ho2; obtain ⟨ck2, ho2⟩ := hq
       refine Ops_quiet _ rfl rfl (QO.idxSl rfl sz22 sz5 rfl rfl (by omega) (by omega)) ?_
       refine Ops_quiet _ rfl rfl (QO.load rfl sz5 rfl rfl (by (refine (rd_own (upd_same _ _ _) _).trans ?_); exact ints_get01 (by first | omega | (simp only [List.length_cons, List.length_nil]; omega)))) ?_
       refine Ops_quiet _ rfl rfl (QO.assign rfl rfl) ?_
       refine Ops_nil ?_
       refine thenA_n ?_
       refine wpA_any (upd (upd (upd (upd (h) b1 (.own 37 (sqC sq0) 101)) b2 (.own 37 (sqC x4) 101)) b3 (.own 5 (ints .u8 r1) (cap_b3 * 1))) b4 (.own 5 (ints .u8 r2) (cap_b4 * 1))) [9] [9] (by kernel_rfl) (by kernel_rfl) (DW.start ?_)
       refine DW.pure' 0 _ rfl (by kernel_rfl) rfl (fun _ => QO.move rfl rfl) ?_
       refine DW.pure' 1 _ rfl (by kernel_rfl) rfl (fun _ => QO.move rfl rfl) ?_
       refine DW.pure' 2 _ rfl (by kernel_rfl) rfl (fun _ => QO.move rfl rfl) ?_
       refine DW.pure' 3 _ rfl (by kernel_rfl) rfl (fun _ => QO.move rfl rfl) ?_
       refine DW.pure' 4 _ rfl (by kernel_rfl) rfl (fun _ => QO.move rfl rfl) ?_
       have hq := Option.bind_eq_some_iff.1 ho2; clear ho2; obtain ⟨r3, hr3, ho2⟩ := hq
       refine DW.qcall' 5 _ _ _ rfl (by kernel_rfl) rfl (EO.par rfl rfl hgg1 (Evs.cons rfl (Evs.cons rfl Evs.nil))) (QC.frame (Le.under (Le.under (Le.under (Le.under (Le.refl _) hb1) hb2) hb3) hb4) (hff1 _ _ _  hr3)) ?_
       refine DW.pure' 6 _ rfl (by kernel_rfl) rfl (fun _ => QO.fieldAt (fo := 1) rfl sz37 rfl rfl sz35 rfl rfl) ?_
       have hq := chk ho2; clear ho2; obtain ⟨ck3, ho2⟩ := hq
       refine DW.pure' 7 _ rfl (by kernel_rfl) rfl (fun _ => QO.idxArr rfl sz35 sz24 rfl rfl (by omega) (by omega)) ?_
       have hq := chk ho2; clear ho2; obtain ⟨ck4, ho2⟩ := hq
       refine DW.pure' 8 _ rfl (by kernel_rfl) rfl (fun _ => QO.idxArr rfl sz24 sz5 rfl rfl (by omega) (by omega)) ?_
       refine DW.loud 9 rfl (by kernel_rfl) rfl rfl (LO.store' (xs' := sqC (⟨x4.order, (tset x4.t ((r1.getD (x1).toNat 0)).toNat ((r2.getD (x3).toNat 0)).toNat r3)⟩ : Sq)) rfl sz5 rfl rfl rfl ((upd_ne _ _ n_b4_b2.ne.symm).trans ((upd_ne _ _ n_b3_b2.ne.symm).trans (upd_same _ _ _))) (by first | ((try simp only [sqC_length, tbC_length, tabI_length, tabB_length, ints_length, plsC_length, trC_length, sqsC_length, strsC_length, boolsC_length, tbB_length, List.length_append, List.length_cons, List.length_nil, List.length_set, List.length_replicate, rep_length]); first | omega | decide) | exact Nat.le_of_ble_eq_true rfl) (sqC_set (by omega) (by omega)) (Chg.there n_b4_b2.ne (Chg.there n_b3_b2.ne Chg.here)) rfl ?_)
       refine ⟨(fun e => absurd e (by decide)), ?_⟩
       refine DW.done (by kernel_rfl) ?_ _
       refine blockA_n ?_
       refine thenA_n ?_
       refine wpA_region ?_
       refine Ops_quiet _ rfl rfl (QO.bin rfl rfl rfl rfl) ?_
       refine Ops_quiet _ rfl rfl (QO.move rfl rfl) ?_
       refine Ops_nil ?_
       obtain rfl := Option.some.inj ho2
       dsimp only at hk2
       exact thenA_n ⟨k2, Nat.lt_succ_self _, _, _, hk2, (Sub.cons rfl (Sub.cons rfl (Sub.cons rfl (Sub.cons rfl (Sub.cons rfl (Sub.cons rfl (Sub.cons rfl (Sub.cons rfl (Sub.cons rfl (Sub.cons rfl Sub.nil)))))))))), (Le.upd_left (Le.upd_left (Le.upd_left (Le.upd_left (Le.under (Le.under (Le.under (Le.under (Le.refl _) hb1) hb2) hb3) hb4) ((upd_ne _ _ n_b4_b1.ne.symm).trans ((upd_ne _ _ n_b3_b1.ne.symm).trans ((upd_ne _ _ n_b2_b1.ne.symm).trans (upd_same _ _ _)))) (by first | rfl | (simp; done))) ((upd_ne _ _ n_b4_b2.ne.symm).trans ((upd_ne _ _ n_b3_b2.ne.symm).trans (upd_same _ _ _))) (by first | rfl | (simp; done))) ((upd_ne _ _ n_b4_b3.ne.symm).trans (upd_same _ _ _)) (by first | rfl | (simp; done))) (upd_same _ _ _) (by first | rfl | (simp; done)))⟩
      ·replace ho2 := cond_f ho2 g2
       refine wpA_exit ?_
       refine thenA_e ?_
       refine thenA_e ?_
       obtain rfl := Option.some.inj ho2
       obtain rfl := Option.some.inj hk2
       exact ⟨rfl, _, _, rfl, (Sub.cons rfl (Sub.cons rfl (Sub.cons rfl (Sub.cons rfl (Sub.cons rfl (Sub.cons rfl (Sub.cons rfl (Sub.cons rfl (Sub.cons rfl (Sub.cons rfl Sub.nil)))))))))), (Le.upd_left (Le.upd_left (Le.upd_left (Le.upd_left (Le.under (Le.under (Le.under (Le.under (Le.refl _) hb1) hb2) hb3) hb4) ((upd_ne _ _ n_b4_b1.ne.symm).trans ((upd_ne _ _ n_b3_b1.ne.symm).trans ((upd_ne _ _ n_b2_b1.ne.symm).trans (upd_same _ _ _)))) (by first | rfl | (simp; done))) ((upd_ne _ _ n_b4_b2.ne.symm).trans ((upd_ne _ _ n_b3_b2.ne.symm).trans (upd_same _ _ _))) (by first | rfl | (simp; done))) ((upd_ne _ _ n_b4_b3.ne.symm).trans (upd_same _ _ _)) (by first | rfl | (simp; done))) (upd_same _ _ _) (by first | rfl | (simp; done)))⟩
    ·intro e s' h' hq
     cases R2 with
     | next x => exact hq.elim
     | ret r => exact hq.elim
     | stop x id =>
      obtain ⟨rfl, x5, x6, rfl, hsub1, hle1⟩ := hq
      try dsimp only at ho1
      by_cases hid1 : id = 2
      ·subst hid1
       rw [if_pos rfl] at ho1
       refine blockA_s ?_
       refine blockA_n ?_
       refine thenA_n ?_
       refine wpA_weaken hsub1.ok hle1 ?_
       refine wpA_region ?_
       refine Ops_quiet _ rfl rfl (QO.bin rfl rfl rfl rfl) ?_
       refine Ops_quiet _ rfl rfl (QO.move rfl rfl) ?_
       refine Ops_nil ?_
       obtain rfl := Option.some.inj ho1
       dsimp only at hk1
       exact thenA_n ⟨k1, Nat.lt_succ_self _, _, _, hk1, (Sub.cons rfl (Sub.cons rfl (Sub.cons rfl (Sub.cons rfl (Sub.cons rfl (Sub.cons rfl Sub.nil)))))), (Le.upd_left (Le.upd_left (Le.upd_left (Le.under (Le.under (Le.under (Le.under (Le.refl _) hb1) hb2) hb3) hb4) ((upd_ne _ _ n_b4_b1.ne.symm).trans ((upd_ne _ _ n_b3_b1.ne.symm).trans ((upd_ne _ _ n_b2_b1.ne.symm).trans (upd_same _ _ _)))) (by first | rfl | (simp; done))) ((upd_ne _ _ n_b4_b2.ne.symm).trans ((upd_ne _ _ n_b3_b2.ne.symm).trans (upd_same _ _ _))) (by first | rfl | (simp; done))) ((upd_ne _ _ n_b4_b3.ne.symm).trans (upd_same _ _ _)) (by first | rfl | (simp; done)))⟩
      rw [if_neg hid1] at ho1
      exact absurd ho1 (by simp)
   ·replace ho1 := cond_f ho1 g1
    refine wpA_exit ?_
    refine thenA_e ?_
    refine thenA_e ?_
    obtain rfl := Option.some.inj ho1
    obtain rfl := Option.some.inj hk1
    exact ⟨rfl, _, _, rfl, (Sub.cons rfl (Sub.cons rfl (Sub.cons rfl (Sub.cons rfl (Sub.cons rfl (Sub.cons rfl Sub.nil)))))), (Le.upd_left (Le.upd_left (Le.upd_left (Le.under (Le.under (Le.under (Le.refl _) hb1) hb2) hb3) ((upd_ne _ _ n_b3_b1.ne.symm).trans ((upd_ne _ _ n_b2_b1.ne.symm).trans (upd_same _ _ _))) (by first | rfl | (simp; done))) ((upd_ne _ _ n_b3_b2.ne.symm).trans (upd_same _ _ _)) (by first | rfl | (simp; done))) (upd_same _ _ _) (by first | rfl | (simp; done)))⟩
 ·intro e s' h' hq
  cases R1 with
  | next x => exact hq.elim
  | ret r => exact hq.elim
  | stop x id =>
   obtain ⟨rfl, x7, x8, rfl, hsub2, hle2⟩ := hq
   try dsimp only at hm
   by_cases hid2 : id = 0
   ·subst hid2
    rw [if_pos rfl] at hm
    refine blockA_s ?_
    refine thenA_n ?_
    refine wpA_weaken hsub2.ok hle2 ?_
    refine wpA_seq ?_
    refine wpA_region ?_
    refine Ops_quiet _ rfl rfl (QO.loadRow (cs := sqC x8) (hr := (rdAll ((upd_ne _ _ n_b3_b2.ne.symm).trans (upd_same _ _ _)))) rfl sz37 rfl rfl (sqC_length _)) ?_
    refine Ops_loud rfl (LO.storeAll (cs := sqC x8) rfl sz37 rfl rfl (sqC_one _) (sqC_length _) ((upd_ne _ _ n_b3_b1.ne.symm).trans ((upd_ne _ _ n_b2_b1.ne.symm).trans (upd_same _ _ _))) (sqC_length _) (Chg.there n_b3_b1.ne (Chg.there n_b2_b1.ne Chg.here)) rfl ?_)
    refine Ops_nil ?_
    refine thenA_n ?_
    refine wpA_ret ?_
    obtain rfl := Option.some.inj hm
    exact retA_r (h2 := h) (Res.one rfl (res1.row (cs := sqC x8) (hr := (rdAll ((upd_ne _ _ n_b3_b1.ne.symm).trans ((upd_ne _ _ n_b2_b1.ne.symm).trans (upd_same _ _ _))))) sz37 rfl rfl (sqC_length _))) (Le.under (Le.under (Le.under (Le.refl _) hb1) hb2) hb3) ⟨rfl, rfl⟩
   rw [if_neg hid2] at hm
   exact absurd hm (by simp)

/-! loop.example/g01195/impl.direct -/
theorem c_impl_direct {a0 : Sq} {a1 : Sq} {h : Hp} {r : Sq} (hm : m_impl_direct a0 a1 = some r)  :
    QC Try.prog 41 #[.agg (sqC a0).toArray, .agg (sqC a1).toArray] h (.agg (sqC r).toArray) := by
 unfold m_impl_direct at hm
 refine CC.enter Try.func41 rfl Try.ntmps41 rfl ?_
 refine wpA_seq ?_
 refine wpA_region ?_
 refine Ops_loud rfl (LO.boxAgg rfl rfl rfl (fun b1 hb1 => ?_))
 refine Ops_loud rfl (LO.boxAgg rfl rfl rfl (fun b2 hb2 => ?_))
 simp only [upd_noneA] at hb2
 obtain ⟨n_b2_b1, hb2⟩ := hb2
 refine Ops_loud rfl (LO.alloc rfl zr37 rfl (fun b3 hb3 => ?_))
 simp only [upd_noneA] at hb3
 obtain ⟨n_b3_b2, n_b3_b1, hb3⟩ := hb3
 refine Ops_nil ?_
 refine thenA_n ?_
 refine wpA_seq ?_
 refine wpA_region ?_
 refine Ops_quiet _ rfl rfl (QO.fieldAt (fo := 0) rfl sz37 rfl rfl sz2 rfl rfl) ?_
 refine Ops_quiet _ rfl rfl (QO.load rfl sz2 rfl rfl (by (refine (rd_own ((upd_ne _ _ n_b3_b2.ne.symm).trans (upd_same _ _ _)) _).trans ?_); exact rfl)) ?_
 refine Ops_quiet _ rfl rfl (QO.conv rfl sz2 sz5 rfl) ?_
 refine Ops_loud rfl (LO.alloc rfl zr5 rfl (fun b4 hb4 => ?_))
 simp only [upd_noneA] at hb4
 obtain ⟨n_b4_b3, n_b4_b2, n_b4_b1, hb4⟩ := hb4
 refine Ops_loud rfl (LO.store' (xs' := [.int .u8 (IntKind.u8.wrap a1.order)]) rfl sz5 rfl rfl rfl (upd_same _ _ _) (by first | ((try simp only [sqC_length, tbC_length, tabI_length, tabB_length, ints_length, plsC_length, trC_length, sqsC_length, strsC_length, boolsC_length, tbB_length, List.length_append, List.length_cons, List.length_nil, List.length_set, List.length_replicate, rep_length]); first | omega | decide) | exact Nat.le_of_ble_eq_true rfl) rfl Chg.here rfl ?_)
 refine Ops_nil ?_
 refine thenA_n ?_
 refine wpA_seq ?_
 refine wpA_region ?_
 refine Ops_quiet _ rfl rfl (QO.fieldAt (fo := 0) rfl sz37 rfl rfl sz2 rfl rfl) ?_
 refine Ops_quiet _ rfl rfl (QO.load rfl sz2 rfl rfl (by (refine (rd_own ((upd_ne _ _ n_b4_b1.ne.symm).trans ((upd_ne _ _ n_b3_b1.ne.symm).trans ((upd_ne _ _ n_b2_b1.ne.symm).trans (upd_same _ _ _)))) _).trans ?_); exact rfl)) ?_
 refine Ops_quiet _ rfl rfl (QO.fieldAt (fo := 0) rfl sz37 rfl rfl sz2 rfl rfl) ?_
 refine Ops_quiet _ rfl rfl (QO.load rfl sz2 rfl rfl (by (refine (rd_own ((upd_ne _ _ n_b4_b2.ne.symm).trans ((upd_ne _ _ n_b3_b2.ne.symm).trans (upd_same _ _ _))) _).trans ?_); exact rfl)) ?_
 refine Ops_quiet _ rfl rfl (QO.bin rfl rfl rfl rfl) ?_
 refine Ops_quiet _ rfl rfl (QO.makeClo rfl (Evs.cons rfl (Evs.cons rfl (Evs.cons rfl Evs.nil)))) ?_
 have hq := Option.bind_eq_some_iff.1 hm; clear hm; obtain ⟨r1, hr1, hm⟩ := hq
 refine Ops_call _ _ rfl rfl (EO.fn rfl Try.func49 rfl rfl (Evs.cons rfl (Evs.cons rfl Evs.nil))) (QC.cc (c_impl_made hr1 ⟨_, _, Try.func55, rfl, rfl⟩ (fun _ _ _  hm => c_impl_direct_1 hm (upd_same _ _ _) ((upd_ne _ _ n_b4_b1.ne.symm).trans ((upd_ne _ _ n_b3_b1.ne.symm).trans ((upd_ne _ _ n_b2_b1.ne.symm).trans (upd_same _ _ _)))) ((upd_ne _ _ n_b4_b2.ne.symm).trans ((upd_ne _ _ n_b3_b2.ne.symm).trans (upd_same _ _ _))))) ?_)
 refine Ops_loud rfl (LO.storeAll (cs := sqC r1) rfl sz37 rfl rfl (sqC_one _) (sqC_length _) ((upd_ne _ _ n_b4_b3.ne.symm).trans (upd_same _ _ _)) (sqC_length _) (Chg.there n_b4_b3.ne Chg.here) rfl ?_)
 refine Ops_nil ?_
 refine thenA_n ?_
 refine wpA_ret ?_
 obtain rfl := Option.some.inj hm
 exact retA_r (h2 := h) (Res.one rfl (res1.row (cs := sqC r1) (hr := (rdAll ((upd_ne _ _ n_b4_b3.ne.symm).trans (upd_same _ _ _)))) sz37 rfl rfl (sqC_length _))) (Le.under (Le.under (Le.under (Le.under (Le.refl _) hb1) hb2) hb3) hb4) ⟨rfl, rfl⟩

/-! loop.example/g01195/impl.DirectProduct -/
theorem c_impl_DirectProduct {a0 : Sq} {a1 : Sq} {h : Hp} {r : Sq × Int} (hm : m_impl_DirectProduct a0 a1 = some r)  :
    QC Try.prog 15 #[.agg (sqC a0).toArray, .agg (sqC a1).toArray] h (.tuple #[.agg (sqC r.1).toArray, .int .i64 r.2]) := by
 unfold m_impl_DirectProduct at hm
 refine CC.enter Try.func15 rfl Try.ntmps15 rfl ?_
 refine wpA_seq ?_
 refine wpA_region ?_
 refine Ops_loud rfl (LO.boxAgg rfl rfl rfl (fun b1 hb1 => ?_))
 refine Ops_loud rfl (LO.boxAgg rfl rfl rfl (fun b2 hb2 => ?_))
 simp only [upd_noneA] at hb2
 obtain ⟨n_b2_b1, hb2⟩ := hb2
 refine Ops_loud rfl (LO.alloc rfl zr37 rfl (fun b3 hb3 => ?_))
 simp only [upd_noneA] at hb3
 obtain ⟨n_b3_b2, n_b3_b1, hb3⟩ := hb3
 refine Ops_quiet _ rfl rfl (QO.assign rfl rfl) ?_
 refine Ops_nil ?_
 refine thenA_n ?_
 refine wpA_seq ?_
 refine wpA_block ?_
 refine wpA_seq ?_
 refine wpA_region ?_
 refine Ops_quiet _ rfl rfl (QO.loadRow (cs := sqC a0) (hr := (rdAll ((upd_ne _ _ n_b3_b1.ne.symm).trans ((upd_ne _ _ n_b2_b1.ne.symm).trans (upd_same _ _ _))))) rfl sz37 rfl rfl (sqC_length _)) ?_
 have hq := Option.bind_eq_some_iff.1 hm; clear hm; obtain ⟨r1, hr1, hm⟩ := hq
 refine Ops_call _ _ rfl rfl (EO.fn rfl Try.func17 rfl rfl (Evs.cons rfl Evs.nil)) (QC.cc (c_impl_IsSquare hr1 ) ?_)
 refine Ops_quiet _ rfl rfl (QO.not rfl rfl) ?_
 refine Ops_quiet _ rfl rfl (QO.move rfl rfl) ?_
 refine Ops_case 10 rfl (fun g1 => ?_) (fun g1 => ?_)
 ·replace hm := cond_t hm g1
  refine Ops_skip rfl rfl ?_
  refine Ops_skip rfl rfl ?_
  refine Ops_skip rfl rfl ?_
  refine Ops_quiet _ rfl rfl (QO.pick_t rfl rfl rfl) ?_
  refine Ops_quiet _ rfl rfl (QO.assign rfl rfl) ?_
  refine Ops_nil ?_
  refine thenA_n ?_
  refine wpA_cond_t rfl ?_
  refine wpA_seq ?_
  refine wpA_region ?_
  refine Ops_quiet _ rfl rfl (QO.build0 rfl bd37) ?_
  refine Ops_loud rfl (LO.storeAll (cs := sqC sq0) rfl sz37 rfl rfl (sqC_one _) (sqC_length _) (upd_same _ _ _) (sqC_length _) Chg.here rfl ?_)
  refine Ops_quiet _ rfl rfl (QO.assign rfl rfl) ?_
  refine Ops_nil ?_
  refine thenA_n ?_
  refine wpA_ret ?_
  refine blockA_r ?_
  refine thenA_r ?_
  obtain rfl := Option.some.inj hm
  exact retA_r (h2 := h) (Res.two rfl (res1.row (cs := sqC sq0) (hr := (rdAll (upd_same _ _ _))) sz37 rfl rfl (sqC_length _)) (rfl)) (Le.under (Le.under (Le.under (Le.refl _) hb1) hb2) hb3) ⟨rfl, rfl⟩
 ·replace hm := cond_f hm g1
  refine Ops_quiet _ rfl rfl (QO.loadRow (cs := sqC a1) (hr := (rdAll ((upd_ne _ _ n_b3_b2.ne.symm).trans (upd_same _ _ _)))) rfl sz37 rfl rfl (sqC_length _)) ?_
  have hq := Option.bind_eq_some_iff.1 hm; clear hm; obtain ⟨r2, hr2, hm⟩ := hq
  refine Ops_call _ _ rfl rfl (EO.fn rfl Try.func17 rfl rfl (Evs.cons rfl Evs.nil)) (QC.cc (c_impl_IsSquare hr2 ) ?_)
  refine Ops_quiet _ rfl rfl (QO.not rfl rfl) ?_
  refine Ops_quiet _ rfl rfl (QO.pick_f rfl rfl rfl) ?_
  refine Ops_quiet _ rfl rfl (QO.assign rfl rfl) ?_
  refine Ops_nil ?_
  refine thenA_n ?_
  refine wpA_cond rfl (fun g2 => ?_) (fun g2 => ?_)
  ·replace hm := cond_t hm g2
   refine wpA_seq ?_
   refine wpA_region ?_
   refine Ops_quiet _ rfl rfl (QO.build0 rfl bd37) ?_
   refine Ops_loud rfl (LO.storeAll (cs := sqC sq0) rfl sz37 rfl rfl (sqC_one _) (sqC_length _) (upd_same _ _ _) (sqC_length _) Chg.here rfl ?_)
   refine Ops_quiet _ rfl rfl (QO.assign rfl rfl) ?_
   refine Ops_nil ?_
   refine thenA_n ?_
   refine wpA_ret ?_
   refine blockA_r ?_
   refine thenA_r ?_
   obtain rfl := Option.some.inj hm
   exact retA_r (h2 := h) (Res.two rfl (res1.row (cs := sqC sq0) (hr := (rdAll (upd_same _ _ _))) sz37 rfl rfl (sqC_length _)) (rfl)) (Le.under (Le.under (Le.under (Le.refl _) hb1) hb2) hb3) ⟨rfl, rfl⟩
  ·replace hm := cond_f hm g2
   refine wpA_seq ?_
   refine wpA_region ?_
   refine Ops_quiet _ rfl rfl (QO.fieldAt (fo := 0) rfl sz37 rfl rfl sz2 rfl rfl) ?_
   refine Ops_quiet _ rfl rfl (QO.load rfl sz2 rfl rfl (by (refine (rd_own ((upd_ne _ _ n_b3_b1.ne.symm).trans ((upd_ne _ _ n_b2_b1.ne.symm).trans (upd_same _ _ _))) _).trans ?_); exact rfl)) ?_
   refine Ops_quiet _ rfl rfl (QO.fieldAt (fo := 0) rfl sz37 rfl rfl sz2 rfl rfl) ?_
   refine Ops_quiet _ rfl rfl (QO.load rfl sz2 rfl rfl (by (refine (rd_own ((upd_ne _ _ n_b3_b2.ne.symm).trans (upd_same _ _ _)) _).trans ?_); exact rfl)) ?_
   refine Ops_quiet _ rfl rfl (QO.bin rfl rfl rfl rfl) ?_
   refine Ops_quiet _ rfl rfl (QO.bin rfl rfl rfl rfl) ?_
   refine Ops_quiet _ rfl rfl (QO.assign rfl rfl) ?_
   refine Ops_nil ?_
   refine thenA_n ?_
   refine wpA_cond rfl (fun g3 => ?_) (fun g3 => ?_)
   ·replace hm := cond_t hm g3
    refine wpA_seq ?_
    refine wpA_region ?_
    refine Ops_quiet _ rfl rfl (QO.build0 rfl bd37) ?_
    refine Ops_loud rfl (LO.storeAll (cs := sqC sq0) rfl sz37 rfl rfl (sqC_one _) (sqC_length _) (upd_same _ _ _) (sqC_length _) Chg.here rfl ?_)
    refine Ops_quiet _ rfl rfl (QO.assign rfl rfl) ?_
    refine Ops_nil ?_
    refine thenA_n ?_
    refine wpA_ret ?_
    refine blockA_r ?_
    refine thenA_r ?_
    obtain rfl := Option.some.inj hm
    exact retA_r (h2 := h) (Res.two rfl (res1.row (cs := sqC sq0) (hr := (rdAll (upd_same _ _ _))) sz37 rfl rfl (sqC_length _)) (rfl)) (Le.under (Le.under (Le.under (Le.refl _) hb1) hb2) hb3) ⟨rfl, rfl⟩
   ·replace hm := cond_f hm g3
    refine wpA_skip ?_
    refine blockA_n ?_
    refine thenA_n ?_
    refine wpA_seq ?_
    refine wpA_region ?_
    refine Ops_quiet _ rfl rfl (QO.loadRow (cs := sqC a0) (hr := (rdAll ((upd_ne _ _ n_b3_b1.ne.symm).trans ((upd_ne _ _ n_b2_b1.ne.symm).trans (upd_same _ _ _))))) rfl sz37 rfl rfl (sqC_length _)) ?_
    refine Ops_quiet _ rfl rfl (QO.loadRow (cs := sqC a1) (hr := (rdAll ((upd_ne _ _ n_b3_b2.ne.symm).trans (upd_same _ _ _)))) rfl sz37 rfl rfl (sqC_length _)) ?_
    have hq := Option.bind_eq_some_iff.1 hm; clear hm; obtain ⟨r3, hr3, hm⟩ := hq
    refine Ops_call _ _ rfl rfl (EO.fn rfl Try.func41 rfl rfl (Evs.cons rfl (Evs.cons rfl Evs.nil))) (QC.cc (c_impl_direct hr3 ) ?_)
    refine Ops_loud rfl (LO.storeAll (cs := sqC r3) rfl sz37 rfl rfl (sqC_one _) (sqC_length _) (upd_same _ _ _) (sqC_length _) Chg.here rfl ?_)
    refine Ops_quiet _ rfl rfl (QO.assign rfl rfl) ?_
    refine Ops_nil ?_
    refine thenA_n ?_
    refine wpA_ret ?_
    obtain rfl := Option.some.inj hm
    exact retA_r (h2 := h) (Res.two rfl (res1.row (cs := sqC r3) (hr := (rdAll (upd_same _ _ _))) sz37 rfl rfl (sqC_length _)) (rfl)) (Le.under (Le.under (Le.under (Le.refl _) hb1) hb2) hb3) ⟨rfl, rfl⟩

/-! loop.example/g01195/spec.DirectProduct -/
theorem c_spec_DirectProduct {a0 : Sq} {a1 : Sq} {h : Hp} {r : Sq × Int} (hm : m_spec_DirectProduct a0 a1 = some r)  :
    QC Try.prog 16 #[.agg (sqC a0).toArray, .agg (sqC a1).toArray] h (.tuple #[.agg (sqC r.1).toArray, .int .i64 r.2]) := by
 unfold m_spec_DirectProduct at hm
 refine CC.enter Try.func16 rfl Try.ntmps16 rfl ?_
 refine wpA_seq ?_
 refine wpA_region ?_
 refine Ops_loud rfl (LO.boxAgg rfl rfl rfl (fun b1 hb1 => ?_))
 refine Ops_loud rfl (LO.boxAgg rfl rfl rfl (fun b2 hb2 => ?_))
 simp only [upd_noneA] at hb2
 obtain ⟨n_b2_b1, hb2⟩ := hb2
 refine Ops_loud rfl (LO.alloc rfl zr37 rfl (fun b3 hb3 => ?_))
 simp only [upd_noneA] at hb3
 obtain ⟨n_b3_b2, n_b3_b1, hb3⟩ := hb3
 refine Ops_quiet _ rfl rfl (QO.assign rfl rfl) ?_
 refine Ops_nil ?_
 refine thenA_n ?_
 refine wpA_seq ?_
 refine wpA_block ?_
 refine wpA_seq ?_
 refine wpA_region ?_
 refine Ops_quiet _ rfl rfl (QO.loadRow (cs := sqC a0) (hr := (rdAll ((upd_ne _ _ n_b3_b1.ne.symm).trans ((upd_ne _ _ n_b2_b1.ne.symm).trans (upd_same _ _ _))))) rfl sz37 rfl rfl (sqC_length _)) ?_
 have hq := Option.bind_eq_some_iff.1 hm; clear hm; obtain ⟨r1, hr1, hm⟩ := hq
 refine Ops_call _ _ rfl rfl (EO.fn rfl Try.func42 rfl rfl (Evs.cons rfl Evs.nil)) (QC.cc (c_spec_l01Is hr1 ) ?_)
 refine Ops_quiet _ rfl rfl (QO.not rfl rfl) ?_
 refine Ops_quiet _ rfl rfl (QO.move rfl rfl) ?_
 refine Ops_case 10 rfl (fun g1 => ?_) (fun g1 => ?_)
 ·replace hm := cond_t hm g1
  refine Ops_skip rfl rfl ?_
  refine Ops_skip rfl rfl ?_
  refine Ops_skip rfl rfl ?_
  refine Ops_quiet _ rfl rfl (QO.pick_t rfl rfl rfl) ?_
  refine Ops_quiet _ rfl rfl (QO.assign rfl rfl) ?_
  refine Ops_nil ?_
  refine thenA_n ?_
  refine wpA_cond_t rfl ?_
  refine wpA_seq ?_
  refine wpA_region ?_
  refine Ops_quiet _ rfl rfl (QO.build0 rfl bd37) ?_
  refine Ops_loud rfl (LO.storeAll (cs := sqC sq0) rfl sz37 rfl rfl (sqC_one _) (sqC_length _) (upd_same _ _ _) (sqC_length _) Chg.here rfl ?_)
  refine Ops_quiet _ rfl rfl (QO.assign rfl rfl) ?_
  refine Ops_nil ?_
  refine thenA_n ?_
  refine wpA_ret ?_
  refine blockA_r ?_
  refine thenA_r ?_
  obtain rfl := Option.some.inj hm
  exact retA_r (h2 := h) (Res.two rfl (res1.row (cs := sqC sq0) (hr := (rdAll (upd_same _ _ _))) sz37 rfl rfl (sqC_length _)) (rfl)) (Le.under (Le.under (Le.under (Le.refl _) hb1) hb2) hb3) ⟨rfl, rfl⟩
 ·replace hm := cond_f hm g1
  refine Ops_quiet _ rfl rfl (QO.loadRow (cs := sqC a1) (hr := (rdAll ((upd_ne _ _ n_b3_b2.ne.symm).trans (upd_same _ _ _)))) rfl sz37 rfl rfl (sqC_length _)) ?_
  have hq := Option.bind_eq_some_iff.1 hm; clear hm; obtain ⟨r2, hr2, hm⟩ := hq
  refine Ops_call _ _ rfl rfl (EO.fn rfl Try.func42 rfl rfl (Evs.cons rfl Evs.nil)) (QC.cc (c_spec_l01Is hr2 ) ?_)
  refine Ops_quiet _ rfl rfl (QO.not rfl rfl) ?_
  refine Ops_quiet _ rfl rfl (QO.pick_f rfl rfl rfl) ?_
  refine Ops_quiet _ rfl rfl (QO.assign rfl rfl) ?_
  refine Ops_nil ?_
  refine thenA_n ?_
  refine wpA_cond rfl (fun g2 => ?_) (fun g2 => ?_)
  ·replace hm := cond_t hm g2
   refine wpA_seq ?_
   refine wpA_region ?_
   refine Ops_quiet _ rfl rfl (QO.build0 rfl bd37) ?_
   refine Ops_loud rfl (LO.storeAll (cs := sqC sq0) rfl sz37 rfl rfl (sqC_one _) (sqC_length _) (upd_same _ _ _) (sqC_length _) Chg.here rfl ?_)
   refine Ops_quiet _ rfl rfl (QO.assign rfl rfl) ?_
   refine Ops_nil ?_
   refine thenA_n ?_
   refine wpA_ret ?_
   refine blockA_r ?_
   refine thenA_r ?_
   obtain rfl := Option.some.inj hm
   exact retA_r (h2 := h) (Res.two rfl (res1.row (cs := sqC sq0) (hr := (rdAll (upd_same _ _ _))) sz37 rfl rfl (sqC_length _)) (rfl)) (Le.under (Le.under (Le.under (Le.refl _) hb1) hb2) hb3) ⟨rfl, rfl⟩
  ·replace hm := cond_f hm g2
   refine wpA_seq ?_
   refine wpA_region ?_
   refine Ops_quiet _ rfl rfl (QO.fieldAt (fo := 0) rfl sz37 rfl rfl sz2 rfl rfl) ?_
   refine Ops_quiet _ rfl rfl (QO.load rfl sz2 rfl rfl (by (refine (rd_own ((upd_ne _ _ n_b3_b1.ne.symm).trans ((upd_ne _ _ n_b2_b1.ne.symm).trans (upd_same _ _ _))) _).trans ?_); exact rfl)) ?_
   refine Ops_quiet _ rfl rfl (QO.fieldAt (fo := 0) rfl sz37 rfl rfl sz2 rfl rfl) ?_
   refine Ops_quiet _ rfl rfl (QO.load rfl sz2 rfl rfl (by (refine (rd_own ((upd_ne _ _ n_b3_b2.ne.symm).trans (upd_same _ _ _)) _).trans ?_); exact rfl)) ?_
   refine Ops_quiet _ rfl rfl (QO.bin rfl rfl rfl rfl) ?_
   refine Ops_quiet _ rfl rfl (QO.bin rfl rfl rfl rfl) ?_
   refine Ops_quiet _ rfl rfl (QO.assign rfl rfl) ?_
   refine Ops_nil ?_
   refine thenA_n ?_
   refine wpA_cond rfl (fun g3 => ?_) (fun g3 => ?_)
   ·replace hm := cond_t hm g3
    refine wpA_seq ?_
    refine wpA_region ?_
    refine Ops_quiet _ rfl rfl (QO.build0 rfl bd37) ?_
    refine Ops_loud rfl (LO.storeAll (cs := sqC sq0) rfl sz37 rfl rfl (sqC_one _) (sqC_length _) (upd_same _ _ _) (sqC_length _) Chg.here rfl ?_)
    refine Ops_quiet _ rfl rfl (QO.assign rfl rfl) ?_
    refine Ops_nil ?_
    refine thenA_n ?_
    refine wpA_ret ?_
    refine blockA_r ?_
    refine thenA_r ?_
    obtain rfl := Option.some.inj hm
    exact retA_r (h2 := h) (Res.two rfl (res1.row (cs := sqC sq0) (hr := (rdAll (upd_same _ _ _))) sz37 rfl rfl (sqC_length _)) (rfl)) (Le.under (Le.under (Le.under (Le.refl _) hb1) hb2) hb3) ⟨rfl, rfl⟩
   ·replace hm := cond_f hm g3
    refine wpA_skip ?_
    refine blockA_n ?_
    refine thenA_n ?_
    refine wpA_seq ?_
    refine wpA_region ?_
    refine Ops_quiet _ rfl rfl (QO.loadRow (cs := sqC a0) (hr := (rdAll ((upd_ne _ _ n_b3_b1.ne.symm).trans ((upd_ne _ _ n_b2_b1.ne.symm).trans (upd_same _ _ _))))) rfl sz37 rfl rfl (sqC_length _)) ?_
    refine Ops_quiet _ rfl rfl (QO.loadRow (cs := sqC a1) (hr := (rdAll ((upd_ne _ _ n_b3_b2.ne.symm).trans (upd_same _ _ _)))) rfl sz37 rfl rfl (sqC_length _)) ?_
    have hq := Option.bind_eq_some_iff.1 hm; clear hm; obtain ⟨r3, hr3, hm⟩ := hq
    refine Ops_call _ _ rfl rfl (EO.fn rfl Try.func43 rfl rfl (Evs.cons rfl (Evs.cons rfl Evs.nil))) (QC.cc (c_spec_l01Direct hr3 ) ?_)
    refine Ops_loud rfl (LO.storeAll (cs := sqC r3) rfl sz37 rfl rfl (sqC_one _) (sqC_length _) (upd_same _ _ _) (sqC_length _) Chg.here rfl ?_)
    refine Ops_quiet _ rfl rfl (QO.assign rfl rfl) ?_
    refine Ops_nil ?_
    refine thenA_n ?_
    refine wpA_ret ?_
    obtain rfl := Option.some.inj hm
    exact retA_r (h2 := h) (Res.two rfl (res1.row (cs := sqC r3) (hr := (rdAll (upd_same _ _ _))) sz37 rfl rfl (sqC_length _)) (rfl)) (Le.under (Le.under (Le.under (Le.refl _) hb1) hb2) hb3) ⟨rfl, rfl⟩

/-! (loop.example/g01195/impl.Square).isUnit -/
theorem c_impl_Square_isUnit {a0 : Sq} {a1 : Int} {h : Hp} {r : Bool} (hm : m_impl_Square_isUnit a0 a1 = some r)  :
    QC Try.prog 58 #[.agg (sqC a0).toArray, .int .u8 a1] h (.bool r) := by
 unfold m_impl_Square_isUnit at hm
 refine CC.enter Try.func58 rfl Try.ntmps58 rfl ?_
 refine wpA_seq ?_
 refine wpA_region ?_
 refine Ops_loud rfl (LO.boxAgg rfl rfl rfl (fun b1 hb1 => ?_))
 refine Ops_quiet _ rfl rfl (QO.assign rfl rfl) ?_
 refine Ops_nil ?_
 refine thenA_n ?_
 refine wpA_seq ?_
 refine wpA_seq ?_
 refine wpA_region ?_
 refine Ops_quiet _ rfl rfl (QO.loadRow (cs := sqC a0) (hr := (rdAll (upd_same _ _ _))) rfl sz37 rfl rfl (sqC_length _)) ?_
 have hq := Option.bind_eq_some_iff.1 hm; clear hm; obtain ⟨r1, hr1, hm⟩ := hq
 refine Ops_call _ _ rfl rfl (EO.fn rfl Try.func59 rfl rfl (Evs.cons rfl Evs.nil)) (CC.mono (c_impl_Square_elements hr1 ) ?_)
 rintro _ _ ⟨b2, cap_b2, rfl, hb2, hk_b2, hc_b2, rfl⟩
 simp only [upd_noneA] at hb2
 obtain ⟨n_b2_b1, hb2⟩ := hb2
 refine Ops_quiet _ rfl rfl (QO.lenSl rfl sz22 rfl) ?_
 refine Ops_quiet _ rfl rfl (QO.move rfl rfl) ?_
 refine Ops_nil ?_
 refine thenA_n ?_
 refine wpA_block ?_
 obtain ⟨R1, hR, hm⟩ := Option.bind_eq_some_iff.1 hm
 obtain ⟨k1, hk1⟩ := loopV_some hR
 clear hR
 refine wpA_mono (Q := fun e s' h' => match (generalizing := false) R1 with | .stop x id => e = .exit id ∧ ∃ (x1 : Int), x = x1 ∧ Sub s' [(1, .int .u8 a1), (2, .pointer (some ⟨b1, 0, none⟩)), (8, .slice (some ⟨b2, 0, none⟩) r1.length cap_b2), (9, .int .i64 ((r1.length : Nat) : Int)), (10, .int .i64 x1)] ∧ Le (upd (upd (h) b1 (.own 37 (sqC a0) 101)) b2 (.own 5 (ints .u8 r1) (cap_b2 * 1))) h' | .ret r => e = .ret ∧ Sub s' [(4, .bool r)] ∧ Le (h) h' | .next _ => False) ?_ ?_
 ·refine wpA_loop (fun k s' h' => ∃ (x1 : Int), loopW (m_impl_Square_isUnit_l0 a0 a1 r1) k x1 = some R1 ∧ Sub s' [(1, .int .u8 a1), (2, .pointer (some ⟨b1, 0, none⟩)), (8, .slice (some ⟨b2, 0, none⟩) r1.length cap_b2), (9, .int .i64 ((r1.length : Nat) : Int)), (10, .int .i64 x1)] ∧ Le (upd (upd (h) b1 (.own 37 (sqC a0) 101)) b2 (.own 5 (ints .u8 r1) (cap_b2 * 1))) h') (m := k1) ⟨0, hk1, (Sub.cons rfl (Sub.cons rfl (Sub.cons rfl (Sub.cons rfl (Sub.cons rfl Sub.nil))))), (Le.upd_left (Le.upd_left (Le.under (Le.under (Le.refl _) hb1) hb2) ((upd_ne _ _ n_b2_b1.ne.symm).trans (upd_same _ _ _)) (by first | rfl | (simp; done))) (upd_same _ _ _) (by first | rfl | (simp; done)))⟩ ?_
  rintro k1 s' h' ⟨x1, hk1, hsub, hle⟩
  refine wpA_weaken hsub.ok hle ?_
  clear hsub hle s' h'
  cases k1 with
  | zero => exact absurd hk1 (by simp [loopW])
  | succ k1 =>
   obtain ⟨o1, ho1, hk1⟩ := loopW_succ hk1
   unfold m_impl_Square_isUnit_l0 at ho1
   try dsimp only at ho1
   refine wpA_seq ?_
   refine wpA_region ?_
   refine Ops_quiet _ rfl rfl (QO.bin rfl rfl rfl rfl) ?_
   refine Ops_nil ?_
   refine thenA_n ?_
   refine wpA_seq ?_
   refine wpA_cond rfl (fun g1 => ?_) (fun g1 => ?_)
   ·replace ho1 := cond_t ho1 g1
    refine wpA_skip ?_
    refine thenA_n ?_
    refine wpA_seq ?_
    refine wpA_block ?_
    refine wpA_seq ?_
    refine wpA_region ?_
    have hq := chk ho1; clear ho1; obtain ⟨ck1, ho1⟩ := hq
    refine Ops_quiet _ rfl rfl (QO.idxSl rfl sz22 sz5 rfl rfl (by omega) (by omega)) ?_
    refine Ops_quiet _ rfl rfl (QO.load rfl sz5 rfl rfl (by (refine (rd_own (upd_same _ _ _) _).trans ?_); exact ints_get01 (by first | omega | (simp only [List.length_cons, List.length_nil]; omega)))) ?_
    refine Ops_quiet _ rfl rfl (QO.assign rfl rfl) ?_
    refine Ops_nil ?_
    refine thenA_n ?_
    refine wpA_seq ?_
    refine wpA_region ?_
    refine Ops_quiet _ rfl rfl (QO.move rfl rfl) ?_
    refine Ops_quiet _ rfl rfl (QO.move rfl rfl) ?_
    refine Ops_quiet _ rfl rfl (QO.fieldAt (fo := 1) rfl sz37 rfl rfl sz35 rfl rfl) ?_
    have hq := chk ho1; clear ho1; obtain ⟨ck2, ho1⟩ := hq
    refine Ops_quiet _ rfl rfl (QO.idxArr rfl sz35 sz24 rfl rfl (by omega) (by omega)) ?_
    have hq := chk ho1; clear ho1; obtain ⟨ck3, ho1⟩ := hq
    refine Ops_quiet _ rfl rfl (QO.idxArr rfl sz24 sz5 rfl rfl (by omega) (by omega)) ?_
    refine Ops_quiet _ rfl rfl (QO.load rfl sz5 rfl rfl (by (refine (rd_own ((upd_ne _ _ n_b2_b1.ne.symm).trans (upd_same _ _ _)) _).trans ?_); exact sqC_get (by omega) (by omega))) ?_
    refine Ops_quiet _ rfl rfl (QO.move rfl rfl) ?_
    refine Ops_quiet _ rfl rfl (QO.bin rfl rfl rfl rfl) ?_
    refine Ops_quiet _ rfl rfl (QO.move rfl rfl) ?_
    refine Ops_case 22 rfl (fun g2 => ?_) (fun g2 => ?_)
    ·replace ho1 := cond_t ho1 g2
     refine Ops_skip rfl rfl ?_
     refine Ops_skip rfl rfl ?_
     refine Ops_skip rfl rfl ?_
     refine Ops_skip rfl rfl ?_
     refine Ops_skip rfl rfl ?_
     refine Ops_skip rfl rfl ?_
     refine Ops_skip rfl rfl ?_
     refine Ops_skip rfl rfl ?_
     refine Ops_quiet _ rfl rfl (QO.pick_t rfl rfl rfl) ?_
     refine Ops_nil ?_
     refine thenA_n ?_
     refine wpA_cond_t rfl ?_
     refine wpA_seq ?_
     refine wpA_region ?_
     refine Ops_quiet _ rfl rfl (QO.assign rfl rfl) ?_
     refine Ops_nil ?_
     refine thenA_n ?_
     refine wpA_ret ?_
     refine blockA_r ?_
     refine thenA_r ?_
     refine thenA_r ?_
     obtain rfl := Option.some.inj ho1
     obtain rfl := Option.some.inj hk1
     exact ⟨rfl, (Sub.cons rfl Sub.nil), (Le.under (Le.under (Le.refl _) hb1) hb2)⟩
    ·replace ho1 := cond_f ho1 g2
     refine Ops_quiet _ rfl rfl (QO.move rfl rfl) ?_
     refine Ops_quiet _ rfl rfl (QO.move rfl rfl) ?_
     refine Ops_quiet _ rfl rfl (QO.fieldAt (fo := 1) rfl sz37 rfl rfl sz35 rfl rfl) ?_
     have hq := chk ho1; clear ho1; obtain ⟨ck4, ho1⟩ := hq
     refine Ops_quiet _ rfl rfl (QO.idxArr rfl sz35 sz24 rfl rfl (by omega) (by omega)) ?_
     have hq := chk ho1; clear ho1; obtain ⟨ck5, ho1⟩ := hq
     refine Ops_quiet _ rfl rfl (QO.idxArr rfl sz24 sz5 rfl rfl (by omega) (by omega)) ?_
     refine Ops_quiet _ rfl rfl (QO.load rfl sz5 rfl rfl (by (refine (rd_own ((upd_ne _ _ n_b2_b1.ne.symm).trans (upd_same _ _ _)) _).trans ?_); exact sqC_get (by omega) (by omega))) ?_
     refine Ops_quiet _ rfl rfl (QO.move rfl rfl) ?_
     refine Ops_quiet _ rfl rfl (QO.bin rfl rfl rfl rfl) ?_
     refine Ops_quiet _ rfl rfl (QO.pick_f rfl rfl rfl) ?_
     refine Ops_nil ?_
     refine thenA_n ?_
     refine wpA_cond rfl (fun g3 => ?_) (fun g3 => ?_)
     ·replace ho1 := cond_t ho1 g3
      refine wpA_seq ?_
      refine wpA_region ?_
      refine Ops_quiet _ rfl rfl (QO.assign rfl rfl) ?_
      refine Ops_nil ?_
      refine thenA_n ?_
      refine wpA_ret ?_
      refine blockA_r ?_
      refine thenA_r ?_
      refine thenA_r ?_
      obtain rfl := Option.some.inj ho1
      obtain rfl := Option.some.inj hk1
      exact ⟨rfl, (Sub.cons rfl Sub.nil), (Le.under (Le.under (Le.refl _) hb1) hb2)⟩
     ·replace ho1 := cond_f ho1 g3
      refine wpA_skip ?_
      refine blockA_n ?_
      refine thenA_n ?_
      refine wpA_region ?_
      refine Ops_quiet _ rfl rfl (QO.bin rfl rfl rfl rfl) ?_
      refine Ops_quiet _ rfl rfl (QO.move rfl rfl) ?_
      refine Ops_nil ?_
      obtain rfl := Option.some.inj ho1
      dsimp only at hk1
      exact thenA_n ⟨k1, Nat.lt_succ_self _, _, hk1, (Sub.cons rfl (Sub.cons rfl (Sub.cons rfl (Sub.cons rfl (Sub.cons rfl Sub.nil))))), (Le.upd_left (Le.upd_left (Le.under (Le.under (Le.refl _) hb1) hb2) ((upd_ne _ _ n_b2_b1.ne.symm).trans (upd_same _ _ _)) (by first | rfl | (simp; done))) (upd_same _ _ _) (by first | rfl | (simp; done)))⟩
   ·replace ho1 := cond_f ho1 g1
    refine wpA_exit ?_
    refine thenA_e ?_
    refine thenA_e ?_
    obtain rfl := Option.some.inj ho1
    obtain rfl := Option.some.inj hk1
    exact ⟨rfl, _, rfl, (Sub.cons rfl (Sub.cons rfl (Sub.cons rfl (Sub.cons rfl (Sub.cons rfl Sub.nil))))), (Le.upd_left (Le.upd_left (Le.under (Le.under (Le.refl _) hb1) hb2) ((upd_ne _ _ n_b2_b1.ne.symm).trans (upd_same _ _ _)) (by first | rfl | (simp; done))) (upd_same _ _ _) (by first | rfl | (simp; done)))⟩
 ·intro e s' h' hq
  cases R1 with
  | next x => exact hq.elim
  | ret r =>
   obtain ⟨rfl, hsub1, hle1⟩ := hq
   try dsimp only at hm
   refine blockA_r ?_
   refine thenA_r ?_
   obtain rfl := Option.some.inj hm
   refine retA_sub hsub1.ok hle1 ?_
   exact retA_r (h2 := h) (Res.one rfl (rfl)) (Le.refl _) ⟨rfl, rfl⟩
  | stop x id =>
   obtain ⟨rfl, x2, rfl, hsub2, hle2⟩ := hq
   try dsimp only at hm
   by_cases hid1 : id = 0
   ·subst hid1
    rw [if_pos rfl] at hm
    refine blockA_s ?_
    refine thenA_n ?_
    refine wpA_weaken hsub2.ok hle2 ?_
    refine wpA_seq ?_
    refine wpA_region ?_
    refine Ops_quiet _ rfl rfl (QO.assign rfl rfl) ?_
    refine Ops_nil ?_
    refine thenA_n ?_
    refine wpA_ret ?_
    obtain rfl := Option.some.inj hm
    exact retA_r (h2 := h) (Res.one rfl (rfl)) (Le.under (Le.under (Le.refl _) hb1) hb2) ⟨rfl, rfl⟩
   rw [if_neg hid1] at hm
   exact absurd hm (by simp)

/-! loop.example/g01195/impl.IsLoop -/
theorem c_impl_IsLoop {a0 : Sq} {h : Hp} {r : Bool} (hm : m_impl_IsLoop a0 = some r)  :
    QC Try.prog 44 #[.agg (sqC a0).toArray] h (.bool r) := by
 unfold m_impl_IsLoop at hm
 refine CC.enter Try.func44 rfl Try.ntmps44 rfl ?_
 refine wpA_seq ?_
 refine wpA_region ?_
 refine Ops_loud rfl (LO.boxAgg rfl rfl rfl (fun b1 hb1 => ?_))
 refine Ops_quiet _ rfl rfl (QO.assign rfl rfl) ?_
 refine Ops_nil ?_
 refine thenA_n ?_
 refine wpA_seq ?_
 refine wpA_region ?_
 refine Ops_quiet _ rfl rfl (QO.loadRow (cs := sqC a0) (hr := (rdAll (upd_same _ _ _))) rfl sz37 rfl rfl (sqC_length _)) ?_
 have hq := Option.bind_eq_some_iff.1 hm; clear hm; obtain ⟨r1, hr1, hm⟩ := hq
 refine Ops_call _ _ rfl rfl (EO.fn rfl Try.func17 rfl rfl (Evs.cons rfl Evs.nil)) (QC.cc (c_impl_IsSquare hr1 ) ?_)
 refine Ops_quiet _ rfl rfl (QO.move rfl rfl) ?_
 refine Ops_case 5 rfl (fun g1 => ?_) (fun g1 => ?_)
 ·replace hm := cond_t hm g1
  refine Ops_quiet _ rfl rfl (QO.loadRow (cs := sqC a0) (hr := (rdAll (upd_same _ _ _))) rfl sz37 rfl rfl (sqC_length _)) ?_
  have hq := Option.bind_eq_some_iff.1 hm; clear hm; obtain ⟨r2, hr2, hm⟩ := hq
  refine Ops_call _ _ rfl rfl (EO.fn rfl Try.func58 rfl rfl (Evs.cons rfl (Evs.cons rfl Evs.nil))) (QC.cc (c_impl_Square_isUnit hr2 ) ?_)
  refine Ops_quiet _ rfl rfl (QO.pick_t rfl rfl rfl) ?_
  refine Ops_quiet _ rfl rfl (QO.assign rfl rfl) ?_
  refine Ops_nil ?_
  refine thenA_n ?_
  refine wpA_ret ?_
  obtain rfl := Option.some.inj hm
  exact retA_r (h2 := h) (Res.one rfl (rfl)) (Le.under (Le.refl _) hb1) ⟨rfl, rfl⟩
 ·replace hm := cond_f hm g1
  refine Ops_skip rfl rfl ?_
  refine Ops_skip rfl rfl ?_
  refine Ops_quiet _ rfl rfl (QO.pick_f rfl rfl rfl) ?_
  refine Ops_quiet _ rfl rfl (QO.assign rfl rfl) ?_
  refine Ops_nil ?_
  refine thenA_n ?_
  refine wpA_ret ?_
  obtain rfl := Option.some.inj hm
  exact retA_r (h2 := h) (Res.one rfl (rfl)) (Le.under (Le.refl _) hb1) ⟨rfl, rfl⟩

/-! (loop.example/g01195/impl.Square).isAssociative -/
theorem c_impl_Square_isAssociative {a0 : Sq} {h : Hp} {r : Bool} (hm : m_impl_Square_isAssociative a0 = some r)  :
    QC Try.prog 45 #[.agg (sqC a0).toArray] h (.bool r) := by
 unfold m_impl_Square_isAssociative at hm
 refine CC.enter Try.func45 rfl Try.ntmps45 rfl ?_
 refine wpA_seq ?_
 refine wpA_region ?_
 refine Ops_loud rfl (LO.boxAgg rfl rfl rfl (fun b1 hb1 => ?_))
 refine Ops_quiet _ rfl rfl (QO.assign rfl rfl) ?_
 refine Ops_nil ?_
 refine thenA_n ?_
 refine wpA_seq ?_
 refine wpA_seq ?_
 refine wpA_region ?_
 refine Ops_quiet _ rfl rfl (QO.loadRow (cs := sqC a0) (hr := (rdAll (upd_same _ _ _))) rfl sz37 rfl rfl (sqC_length _)) ?_
 have hq := Option.bind_eq_some_iff.1 hm; clear hm; obtain ⟨r1, hr1, hm⟩ := hq
 refine Ops_call _ _ rfl rfl (EO.fn rfl Try.func59 rfl rfl (Evs.cons rfl Evs.nil)) (CC.mono (c_impl_Square_elements hr1 ) ?_)
 rintro _ _ ⟨b2, cap_b2, rfl, hb2, hk_b2, hc_b2, rfl⟩
 simp only [upd_noneA] at hb2
 obtain ⟨n_b2_b1, hb2⟩ := hb2
 refine Ops_quiet _ rfl rfl (QO.lenSl rfl sz22 rfl) ?_
 refine Ops_quiet _ rfl rfl (QO.move rfl rfl) ?_
 refine Ops_nil ?_
 refine thenA_n ?_
 refine wpA_block ?_
 obtain ⟨R1, hR, hm⟩ := Option.bind_eq_some_iff.1 hm
 obtain ⟨k1, hk1⟩ := loopV_some hR
 clear hR
 refine wpA_mono (Q := fun e s' h' => match (generalizing := false) R1 with | .stop x id => e = .exit id ∧ ∃ (x1 : Int), x = x1 ∧ Sub s' [(1, .pointer (some ⟨b1, 0, none⟩)), (10, .slice (some ⟨b2, 0, none⟩) r1.length cap_b2), (11, .int .i64 ((r1.length : Nat) : Int)), (12, .int .i64 x1)] ∧ Le (upd (upd (h) b1 (.own 37 (sqC a0) 101)) b2 (.own 5 (ints .u8 r1) (cap_b2 * 1))) h' | .ret r => e = .ret ∧ Sub s' [(2, .bool r)] ∧ Le (h) h' | .next _ => False) ?_ ?_
 ·refine wpA_loop (fun k s' h' => ∃ (x1 : Int), loopW (m_impl_Square_isAssociative_l0 a0 r1) k x1 = some R1 ∧ Sub s' [(1, .pointer (some ⟨b1, 0, none⟩)), (10, .slice (some ⟨b2, 0, none⟩) r1.length cap_b2), (11, .int .i64 ((r1.length : Nat) : Int)), (12, .int .i64 x1)] ∧ Le (upd (upd (h) b1 (.own 37 (sqC a0) 101)) b2 (.own 5 (ints .u8 r1) (cap_b2 * 1))) h') (m := k1) ⟨0, hk1, (Sub.cons rfl (Sub.cons rfl (Sub.cons rfl (Sub.cons rfl Sub.nil)))), (Le.upd_left (Le.upd_left (Le.under (Le.under (Le.refl _) hb1) hb2) ((upd_ne _ _ n_b2_b1.ne.symm).trans (upd_same _ _ _)) (by first | rfl | (simp; done))) (upd_same _ _ _) (by first | rfl | (simp; done)))⟩ ?_
  rintro k1 s' h' ⟨x1, hk1, hsub, hle⟩
  refine wpA_weaken hsub.ok hle ?_
  clear hsub hle s' h'
  cases k1 with
  | zero => exact absurd hk1 (by simp [loopW])
  | succ k1 =>
   obtain ⟨o1, ho1, hk1⟩ := loopW_succ hk1
   unfold m_impl_Square_isAssociative_l0 at ho1
   try dsimp only at ho1
   refine wpA_seq ?_
   refine wpA_region ?_
   refine Ops_quiet _ rfl rfl (QO.bin rfl rfl rfl rfl) ?_
   refine Ops_nil ?_
   refine thenA_n ?_
   refine wpA_seq ?_
   refine wpA_cond rfl (fun g1 => ?_) (fun g1 => ?_)
   ·replace ho1 := cond_t ho1 g1
    refine wpA_skip ?_
    refine thenA_n ?_
    refine wpA_seq ?_
    refine wpA_block ?_
    refine wpA_seq ?_
    refine wpA_region ?_
    have hq := chk ho1; clear ho1; obtain ⟨ck1, ho1⟩ := hq
    refine Ops_quiet _ rfl rfl (QO.idxSl rfl sz22 sz5 rfl rfl (by omega) (by omega)) ?_
    refine Ops_quiet _ rfl rfl (QO.load rfl sz5 rfl rfl (by (refine (rd_own (upd_same _ _ _) _).trans ?_); exact ints_get01 (by first | omega | (simp only [List.length_cons, List.length_nil]; omega)))) ?_
    refine Ops_quiet _ rfl rfl (QO.assign rfl rfl) ?_
    refine Ops_nil ?_
    refine thenA_n ?_
    refine wpA_seq ?_
    refine wpA_region ?_
    refine Ops_quiet _ rfl rfl (QO.loadRow (cs := sqC a0) (hr := (rdAll ((upd_ne _ _ n_b2_b1.ne.symm).trans (upd_same _ _ _)))) rfl sz37 rfl rfl (sqC_length _)) ?_
    have hq := Option.bind_eq_some_iff.1 ho1; clear ho1; obtain ⟨r2, hr2, ho1⟩ := hq
    refine Ops_call _ _ rfl rfl (EO.fn rfl Try.func59 rfl rfl (Evs.cons rfl Evs.nil)) (CC.mono (c_impl_Square_elements hr2 ) ?_)
    rintro _ _ ⟨b3, cap_b3, rfl, hb3, hk_b3, hc_b3, rfl⟩
    simp only [upd_noneA] at hb3
    obtain ⟨n_b3_b2, n_b3_b1, hb3⟩ := hb3
    refine Ops_quiet _ rfl rfl (QO.lenSl rfl sz22 rfl) ?_
    refine Ops_quiet _ rfl rfl (QO.move rfl rfl) ?_
    refine Ops_nil ?_
    refine thenA_n ?_
    refine wpA_block ?_
    obtain ⟨R2, hR, ho1⟩ := Option.bind_eq_some_iff.1 ho1
    obtain ⟨k2, hk2⟩ := loopV_some hR
    clear hR
    refine wpA_mono (Q := fun e s' h' => match (generalizing := false) R2 with | .stop x id => e = .exit id ∧ ∃ (x2 : Int), x = x2 ∧ Sub s' [(1, .pointer (some ⟨b1, 0, none⟩)), (4, .int .u8 (r1.getD (x1).toNat 0)), (10, .slice (some ⟨b2, 0, none⟩) r1.length cap_b2), (11, .int .i64 ((r1.length : Nat) : Int)), (12, .int .i64 x1), (17, .slice (some ⟨b3, 0, none⟩) r2.length cap_b3), (18, .int .i64 ((r2.length : Nat) : Int)), (19, .int .i64 x2)] ∧ Le (upd (upd (upd (h) b1 (.own 37 (sqC a0) 101)) b2 (.own 5 (ints .u8 r1) (cap_b2 * 1))) b3 (.own 5 (ints .u8 r2) (cap_b3 * 1))) h' | .ret r => e = .ret ∧ Sub s' [(2, .bool r)] ∧ Le (h) h' | .next _ => False) ?_ ?_
    ·refine wpA_loop (fun k s' h' => ∃ (x2 : Int), loopW (m_impl_Square_isAssociative_l1 a0 r1 x1 r2) k x2 = some R2 ∧ Sub s' [(1, .pointer (some ⟨b1, 0, none⟩)), (4, .int .u8 (r1.getD (x1).toNat 0)), (10, .slice (some ⟨b2, 0, none⟩) r1.length cap_b2), (11, .int .i64 ((r1.length : Nat) : Int)), (12, .int .i64 x1), (17, .slice (some ⟨b3, 0, none⟩) r2.length cap_b3), (18, .int .i64 ((r2.length : Nat) : Int)), (19, .int .i64 x2)] ∧ Le (upd (upd (upd (h) b1 (.own 37 (sqC a0) 101)) b2 (.own 5 (ints .u8 r1) (cap_b2 * 1))) b3 (.own 5 (ints .u8 r2) (cap_b3 * 1))) h') (m := k2) ⟨0, hk2, (Sub.cons rfl (Sub.cons rfl (Sub.cons rfl (Sub.cons rfl (Sub.cons rfl (Sub.cons rfl (Sub.cons rfl (Sub.cons rfl Sub.nil)))))))), (Le.upd_left (Le.upd_left (Le.upd_left (Le.under (Le.under (Le.under (Le.refl _) hb1) hb2) hb3) ((upd_ne _ _ n_b3_b1.ne.symm).trans ((upd_ne _ _ n_b2_b1.ne.symm).trans (upd_same _ _ _))) (by first | rfl | (simp; done))) ((upd_ne _ _ n_b3_b2.ne.symm).trans (upd_same _ _ _)) (by first | rfl | (simp; done))) (upd_same _ _ _) (by first | rfl | (simp; done)))⟩ ?_
     rintro k2 s' h' ⟨x2, hk2, hsub, hle⟩
     refine wpA_weaken hsub.ok hle ?_
     clear hsub hle s' h'
     cases k2 with
     | zero => exact absurd hk2 (by simp [loopW])
     | succ k2 =>
      obtain ⟨o2, ho2, hk2⟩ := loopW_succ hk2
      unfold m_impl_Square_isAssociative_l1 at ho2
      try dsimp only at ho2
      refine wpA_seq ?_
      refine wpA_region ?_
      refine Ops_quiet _ rfl rfl (QO.bin rfl rfl rfl rfl) ?_
      refine Ops_nil ?_
      refine thenA_n ?_
      refine wpA_seq ?_
      refine wpA_cond rfl (fun g2 => ?_) (fun g2 => ?_)
      ·replace ho2 := cond_t ho2 g2
       refine wpA_skip ?_
       refine thenA_n ?_
       refine wpA_seq ?_
       refine wpA_block ?_
       refine wpA_seq ?_
       refine wpA_region ?_
       have hq := chk ho2; clear ho2; obtain ⟨ck2, ho2⟩ := hq
       refine Ops_quiet _ rfl rfl (QO.idxSl rfl sz22 sz5 rfl rfl (by omega) (by omega)) ?_
       refine Ops_quiet _ rfl rfl (QO.load rfl sz5 rfl rfl (by (refine (rd_own (upd_same _ _ _) _).trans ?_); exact ints_get01 (by first | omega | (simp only [List.length_cons, List.length_nil]; omega)))) ?_
       refine Ops_quiet _ rfl rfl (QO.assign rfl rfl) ?_
       refine Ops_nil ?_
       refine thenA_n ?_
       refine wpA_seq ?_
       refine wpA_region ?_
       refine Ops_quiet _ rfl rfl (QO.loadRow (cs := sqC a0) (hr := (rdAll ((upd_ne _ _ n_b3_b1.ne.symm).trans ((upd_ne _ _ n_b2_b1.ne.symm).trans (upd_same _ _ _))))) rfl sz37 rfl rfl (sqC_length _)) ?_
       have hq := Option.bind_eq_some_iff.1 ho2; clear ho2; obtain ⟨r3, hr3, ho2⟩ := hq
       refine Ops_call _ _ rfl rfl (EO.fn rfl Try.func59 rfl rfl (Evs.cons rfl Evs.nil)) (CC.mono (c_impl_Square_elements hr3 ) ?_)
       rintro _ _ ⟨b4, cap_b4, rfl, hb4, hk_b4, hc_b4, rfl⟩
       simp only [upd_noneA] at hb4
       obtain ⟨n_b4_b3, n_b4_b2, n_b4_b1, hb4⟩ := hb4
       refine Ops_quiet _ rfl rfl (QO.lenSl rfl sz22 rfl) ?_
       refine Ops_quiet _ rfl rfl (QO.move rfl rfl) ?_
       refine Ops_nil ?_
       refine thenA_n ?_
       refine wpA_block ?_
       obtain ⟨R3, hR, ho2⟩ := Option.bind_eq_some_iff.1 ho2
       obtain ⟨k3, hk3⟩ := loopV_some hR
       clear hR
       refine wpA_mono (Q := fun e s' h' => match (generalizing := false) R3 with | .stop x id => e = .exit id ∧ ∃ (x3 : Int), x = x3 ∧ Sub s' [(1, .pointer (some ⟨b1, 0, none⟩)), (4, .int .u8 (r1.getD (x1).toNat 0)), (6, .int .u8 (r2.getD (x2).toNat 0)), (10, .slice (some ⟨b2, 0, none⟩) r1.length cap_b2), (11, .int .i64 ((r1.length : Nat) : Int)), (12, .int .i64 x1), (17, .slice (some ⟨b3, 0, none⟩) r2.length cap_b3), (18, .int .i64 ((r2.length : Nat) : Int)), (19, .int .i64 x2), (24, .slice (some ⟨b4, 0, none⟩) r3.length cap_b4), (25, .int .i64 ((r3.length : Nat) : Int)), (26, .int .i64 x3)] ∧ Le (upd (upd (upd (upd (h) b1 (.own 37 (sqC a0) 101)) b2 (.own 5 (ints .u8 r1) (cap_b2 * 1))) b3 (.own 5 (ints .u8 r2) (cap_b3 * 1))) b4 (.own 5 (ints .u8 r3) (cap_b4 * 1))) h' | .ret r => e = .ret ∧ Sub s' [(2, .bool r)] ∧ Le (h) h' | .next _ => False) ?_ ?_
       ·refine wpA_loop (fun k s' h' => ∃ (x3 : Int), loopW (m_impl_Square_isAssociative_l2 a0 r1 x1 r2 x2 r3) k x3 = some R3 ∧ Sub s' [(1, .pointer (some ⟨b1, 0, none⟩)), (4, .int .u8 (r1.getD (x1).toNat 0)), (6, .int .u8 (r2.getD (x2).toNat 0)), (10, .slice (some ⟨b2, 0, none⟩) r1.length cap_b2), (11, .int .i64 ((r1.length : Nat) : Int)), (12, .int .i64 x1), (17, .slice (some ⟨b3, 0, none⟩) r2.length cap_b3), (18, .int .i64 ((r2.length : Nat) : Int)), (19, .int .i64 x2), (24, .slice (some ⟨b4, 0, none⟩) r3.length cap_b4), (25, .int .i64 ((r3.length : Nat) : Int)), (26, .int .i64 x3)] ∧ Le (upd (upd (upd (upd (h) b1 (.own 37 (sqC a0) 101)) b2 (.own 5 (ints .u8 r1) (cap_b2 * 1))) b3 (.own 5 (ints .u8 r2) (cap_b3 * 1))) b4 (.own 5 (ints .u8 r3) (cap_b4 * 1))) h') (m := k3) ⟨0, hk3, (Sub.cons rfl (Sub.cons rfl (Sub.cons rfl (Sub.cons rfl (Sub.cons rfl (Sub.cons rfl (Sub.cons rfl (Sub.cons rfl (Sub.cons rfl (Sub.cons rfl (Sub.cons rfl (Sub.cons rfl Sub.nil)))))))))))), (Le.upd_left (Le.upd_left (Le.upd_left (Le.upd_left (Le.under (Le.under (Le.under (Le.under (Le.refl _) hb1) hb2) hb3) hb4) ((upd_ne _ _ n_b4_b1.ne.symm).trans ((upd_ne _ _ n_b3_b1.ne.symm).trans ((upd_ne _ _ n_b2_b1.ne.symm).trans (upd_same _ _ _)))) (by first | rfl | (simp; done))) ((upd_ne _ _ n_b4_b2.ne.symm).trans ((upd_ne _ _ n_b3_b2.ne.symm).trans (upd_same _ _ _))) (by first | rfl | (simp; done))) ((upd_ne _ _ n_b4_b3.ne.symm).trans (upd_same _ _ _)) (by first | rfl | (simp; done))) (upd_same _ _ _) (by first | rfl | (simp; done)))⟩ ?_
        rintro k3 s' h' ⟨x3, hk3, hsub, hle⟩
        refine wpA_weaken hsub.ok hle ?_
        clear hsub hle s' h'
        cases k3 with
        | zero => exact absurd hk3 (by simp [loopW])
        | succ k3 =>
         obtain ⟨o3, ho3, hk3⟩ := loopW_succ hk3
         unfold m_impl_Square_isAssociative_l2 at ho3
         try dsimp only at ho3
         refine wpA_seq ?_
         refine wpA_region ?_
         refine Ops_quiet _ rfl rfl (QO.bin rfl rfl rfl rfl) ?_
         refine Ops_nil ?_
         refine thenA_n ?_
         refine wpA_seq ?_
         refine wpA_cond rfl (fun g3 => ?_) (fun g3 => ?_)
         ·replace ho3 := cond_t ho3 g3
          refine wpA_skip ?_
          refine thenA_n ?_
          refine wpA_seq ?_
          refine wpA_block ?_
          refine wpA_seq ?_
          refine wpA_region ?_
          have hq := chk ho3; clear ho3; obtain ⟨ck3, ho3⟩ := hq
          refine Ops_quiet _ rfl rfl (QO.idxSl rfl sz22 sz5 rfl rfl (by omega) (by omega)) ?_
          refine Ops_quiet _ rfl rfl (QO.load rfl sz5 rfl rfl (by (refine (rd_own (upd_same _ _ _) _).trans ?_); exact ints_get01 (by first | omega | (simp only [List.length_cons, List.length_nil]; omega)))) ?_
          refine Ops_quiet _ rfl rfl (QO.assign rfl rfl) ?_
          refine Ops_nil ?_
          refine thenA_n ?_
          refine wpA_seq ?_
          refine wpA_drawn (by kernel_rfl) (by kernel_rfl) ?_
          refine QOps.quiet _ rfl rfl (QO.move rfl rfl) ?_
          refine QOps.quiet _ rfl rfl (QO.move rfl rfl) ?_
          refine QOps.quiet _ rfl rfl (QO.fieldAt (fo := 1) rfl sz37 rfl rfl sz35 rfl rfl) ?_
          have hq := chk ho3; clear ho3; obtain ⟨ck4, ho3⟩ := hq
          refine QOps.quiet _ rfl rfl (QO.idxArr rfl sz35 sz24 rfl rfl (by omega) (by omega)) ?_
          have hq := chk ho3; clear ho3; obtain ⟨ck5, ho3⟩ := hq
          refine QOps.quiet _ rfl rfl (QO.idxArr rfl sz24 sz5 rfl rfl (by omega) (by omega)) ?_
          refine QOps.quiet _ rfl rfl (QO.load rfl sz5 rfl rfl (by (refine (rd_own ((upd_ne _ _ n_b4_b1.ne.symm).trans ((upd_ne _ _ n_b3_b1.ne.symm).trans ((upd_ne _ _ n_b2_b1.ne.symm).trans (upd_same _ _ _)))) _).trans ?_); exact sqC_get (by omega) (by omega))) ?_
          refine QOps.quiet _ rfl rfl (QO.move rfl rfl) ?_
          refine QOps.quiet _ rfl rfl (QO.fieldAt (fo := 1) rfl sz37 rfl rfl sz35 rfl rfl) ?_
          have hq := chk ho3; clear ho3; obtain ⟨ck6, ho3⟩ := hq
          refine QOps.quiet _ rfl rfl (QO.idxArr rfl sz35 sz24 rfl rfl (by omega) (by omega)) ?_
          have hq := chk ho3; clear ho3; obtain ⟨ck7, ho3⟩ := hq
          refine QOps.quiet _ rfl rfl (QO.idxArr rfl sz24 sz5 rfl rfl (by omega) (by omega)) ?_
          refine QOps.quiet _ rfl rfl (QO.load rfl sz5 rfl rfl (by (refine (rd_own ((upd_ne _ _ n_b4_b1.ne.symm).trans ((upd_ne _ _ n_b3_b1.ne.symm).trans ((upd_ne _ _ n_b2_b1.ne.symm).trans (upd_same _ _ _)))) _).trans ?_); exact sqC_get (by omega) (by omega))) ?_
          refine QOps.quiet _ rfl rfl (QO.move rfl rfl) ?_
          refine QOps.quiet _ rfl rfl (QO.move rfl rfl) ?_
          refine QOps.quiet _ rfl rfl (QO.move rfl rfl) ?_
          refine QOps.quiet _ rfl rfl (QO.fieldAt (fo := 1) rfl sz37 rfl rfl sz35 rfl rfl) ?_
          have hq := chk ho3; clear ho3; obtain ⟨ck8, ho3⟩ := hq
          refine QOps.quiet _ rfl rfl (QO.idxArr rfl sz35 sz24 rfl rfl (by omega) (by omega)) ?_
          have hq := chk ho3; clear ho3; obtain ⟨ck9, ho3⟩ := hq
          refine QOps.quiet _ rfl rfl (QO.idxArr rfl sz24 sz5 rfl rfl (by omega) (by omega)) ?_
          refine QOps.quiet _ rfl rfl (QO.load rfl sz5 rfl rfl (by (refine (rd_own ((upd_ne _ _ n_b4_b1.ne.symm).trans ((upd_ne _ _ n_b3_b1.ne.symm).trans ((upd_ne _ _ n_b2_b1.ne.symm).trans (upd_same _ _ _)))) _).trans ?_); exact sqC_get (by omega) (by omega))) ?_
          refine QOps.quiet _ rfl rfl (QO.fieldAt (fo := 1) rfl sz37 rfl rfl sz35 rfl rfl) ?_
          have hq := chk ho3; clear ho3; obtain ⟨ck10, ho3⟩ := hq
          refine QOps.quiet _ rfl rfl (QO.idxArr rfl sz35 sz24 rfl rfl (by omega) (by omega)) ?_
          have hq := chk ho3; clear ho3; obtain ⟨ck11, ho3⟩ := hq
          refine QOps.quiet _ rfl rfl (QO.idxArr rfl sz24 sz5 rfl rfl (by omega) (by omega)) ?_
          refine QOps.quiet _ rfl rfl (QO.load rfl sz5 rfl rfl (by (refine (rd_own ((upd_ne _ _ n_b4_b1.ne.symm).trans ((upd_ne _ _ n_b3_b1.ne.symm).trans ((upd_ne _ _ n_b2_b1.ne.symm).trans (upd_same _ _ _)))) _).trans ?_); exact sqC_get (by omega) (by omega))) ?_
          refine QOps.quiet _ rfl rfl (QO.bin rfl rfl rfl rfl) ?_
          refine QOps.nil ?_
          refine thenA_n ?_
          refine wpA_cond rfl (fun g4 => ?_) (fun g4 => ?_)
          ·replace ho3 := cond_t ho3 g4
           refine wpA_seq ?_
           refine wpA_region ?_
           refine Ops_quiet _ rfl rfl (QO.assign rfl rfl) ?_
           refine Ops_nil ?_
           refine thenA_n ?_
           refine wpA_ret ?_
           refine blockA_r ?_
           refine thenA_r ?_
           refine thenA_r ?_
           obtain rfl := Option.some.inj ho3
           obtain rfl := Option.some.inj hk3
           exact ⟨rfl, (Sub.cons rfl Sub.nil), (Le.under (Le.under (Le.under (Le.under (Le.refl _) hb1) hb2) hb3) hb4)⟩
          ·replace ho3 := cond_f ho3 g4
           refine wpA_skip ?_
           refine blockA_n ?_
           refine thenA_n ?_
           refine wpA_region ?_
           refine Ops_quiet _ rfl rfl (QO.bin rfl rfl rfl rfl) ?_
           refine Ops_quiet _ rfl rfl (QO.move rfl rfl) ?_
           refine Ops_nil ?_
           obtain rfl := Option.some.inj ho3
           dsimp only at hk3
           exact thenA_n ⟨k3, Nat.lt_succ_self _, _, hk3, (Sub.cons rfl (Sub.cons rfl (Sub.cons rfl (Sub.cons rfl (Sub.cons rfl (Sub.cons rfl (Sub.cons rfl (Sub.cons rfl (Sub.cons rfl (Sub.cons rfl (Sub.cons rfl (Sub.cons rfl Sub.nil)))))))))))), (Le.upd_left (Le.upd_left (Le.upd_left (Le.upd_left (Le.under (Le.under (Le.under (Le.under (Le.refl _) hb1) hb2) hb3) hb4) ((upd_ne _ _ n_b4_b1.ne.symm).trans ((upd_ne _ _ n_b3_b1.ne.symm).trans ((upd_ne _ _ n_b2_b1.ne.symm).trans (upd_same _ _ _)))) (by first | rfl | (simp; done))) ((upd_ne _ _ n_b4_b2.ne.symm).trans ((upd_ne _ _ n_b3_b2.ne.symm).trans (upd_same _ _ _))) (by first | rfl | (simp; done))) ((upd_ne _ _ n_b4_b3.ne.symm).trans (upd_same _ _ _)) (by first | rfl | (simp; done))) (upd_same _ _ _) (by first | rfl | (simp; done)))⟩
         ·replace ho3 := cond_f ho3 g3
          refine wpA_exit ?_
          refine thenA_e ?_
          refine thenA_e ?_
          obtain rfl := Option.some.inj ho3
          obtain rfl := Option.some.inj hk3
          exact ⟨rfl, _, rfl, (Sub.cons rfl (Sub.cons rfl (Sub.cons rfl (Sub.cons rfl (Sub.cons rfl (Sub.cons rfl (Sub.cons rfl (Sub.cons rfl (Sub.cons rfl (Sub.cons rfl (Sub.cons rfl (Sub.cons rfl Sub.nil)))))))))))), (Le.upd_left (Le.upd_left (Le.upd_left (Le.upd_left (Le.under (Le.under (Le.under (Le.under (Le.refl _) hb1) hb2) hb3) hb4) ((upd_ne _ _ n_b4_b1.ne.symm).trans ((upd_ne _ _ n_b3_b1.ne.symm).trans ((upd_ne _ _ n_b2_b1.ne.symm).trans (upd_same _ _ _)))) (by first | rfl | (simp; done))) ((upd_ne _ _ n_b4_b2.ne.symm).trans ((upd_ne _ _ n_b3_b2.ne.symm).trans (upd_same _ _ _))) (by first | rfl | (simp; done))) ((upd_ne _ _ n_b4_b3.ne.symm).trans (upd_same _ _ _)) (by first | rfl | (simp; done))) (upd_same _ _ _) (by first | rfl | (simp; done)))⟩
       ·intro e s' h' hq
        cases R3 with
        | next x => exact hq.elim
        | ret r =>
         obtain ⟨rfl, hsub1, hle1⟩ := hq
         try dsimp only at ho2
         refine blockA_r ?_
         refine blockA_r ?_
         refine thenA_r ?_
         refine thenA_r ?_
         obtain rfl := Option.some.inj ho2
         obtain rfl := Option.some.inj hk2
         exact ⟨rfl, (Sub.trans hsub1 (Sub.cons rfl Sub.nil)), (Le.trans (Le.refl _) hle1)⟩
        | stop x id =>
         obtain ⟨rfl, x4, rfl, hsub2, hle2⟩ := hq
         try dsimp only at ho2
         by_cases hid1 : id = 4
         ·subst hid1
          rw [if_pos rfl] at ho2
          refine blockA_s ?_
          refine blockA_n ?_
          refine thenA_n ?_
          refine wpA_weaken hsub2.ok hle2 ?_
          refine wpA_region ?_
          refine Ops_quiet _ rfl rfl (QO.bin rfl rfl rfl rfl) ?_
          refine Ops_quiet _ rfl rfl (QO.move rfl rfl) ?_
          refine Ops_nil ?_
          obtain rfl := Option.some.inj ho2
          dsimp only at hk2
          exact thenA_n ⟨k2, Nat.lt_succ_self _, _, hk2, (Sub.cons rfl (Sub.cons rfl (Sub.cons rfl (Sub.cons rfl (Sub.cons rfl (Sub.cons rfl (Sub.cons rfl (Sub.cons rfl Sub.nil)))))))), (Le.upd_left (Le.upd_left (Le.upd_left (Le.under (Le.under (Le.under (Le.under (Le.refl _) hb1) hb2) hb3) hb4) ((upd_ne _ _ n_b4_b1.ne.symm).trans ((upd_ne _ _ n_b3_b1.ne.symm).trans ((upd_ne _ _ n_b2_b1.ne.symm).trans (upd_same _ _ _)))) (by first | rfl | (simp; done))) ((upd_ne _ _ n_b4_b2.ne.symm).trans ((upd_ne _ _ n_b3_b2.ne.symm).trans (upd_same _ _ _))) (by first | rfl | (simp; done))) ((upd_ne _ _ n_b4_b3.ne.symm).trans (upd_same _ _ _)) (by first | rfl | (simp; done)))⟩
         rw [if_neg hid1] at ho2
         exact absurd ho2 (by simp)
      ·replace ho2 := cond_f ho2 g2
       refine wpA_exit ?_
       refine thenA_e ?_
       refine thenA_e ?_
       obtain rfl := Option.some.inj ho2
       obtain rfl := Option.some.inj hk2
       exact ⟨rfl, _, rfl, (Sub.cons rfl (Sub.cons rfl (Sub.cons rfl (Sub.cons rfl (Sub.cons rfl (Sub.cons rfl (Sub.cons rfl (Sub.cons rfl Sub.nil)))))))), (Le.upd_left (Le.upd_left (Le.upd_left (Le.under (Le.under (Le.under (Le.refl _) hb1) hb2) hb3) ((upd_ne _ _ n_b3_b1.ne.symm).trans ((upd_ne _ _ n_b2_b1.ne.symm).trans (upd_same _ _ _))) (by first | rfl | (simp; done))) ((upd_ne _ _ n_b3_b2.ne.symm).trans (upd_same _ _ _)) (by first | rfl | (simp; done))) (upd_same _ _ _) (by first | rfl | (simp; done)))⟩
    ·intro e s' h' hq
     cases R2 with
     | next x => exact hq.elim
     | ret r =>
      obtain ⟨rfl, hsub3, hle3⟩ := hq
      try dsimp only at ho1
      refine blockA_r ?_
      refine blockA_r ?_
      refine thenA_r ?_
      refine thenA_r ?_
      obtain rfl := Option.some.inj ho1
      obtain rfl := Option.some.inj hk1
      exact ⟨rfl, (Sub.trans hsub3 (Sub.cons rfl Sub.nil)), (Le.trans (Le.refl _) hle3)⟩
     | stop x id =>
      obtain ⟨rfl, x5, rfl, hsub4, hle4⟩ := hq
      try dsimp only at ho1
      by_cases hid2 : id = 2
      ·subst hid2
       rw [if_pos rfl] at ho1
       refine blockA_s ?_
       refine blockA_n ?_
       refine thenA_n ?_
       refine wpA_weaken hsub4.ok hle4 ?_
       refine wpA_region ?_
       refine Ops_quiet _ rfl rfl (QO.bin rfl rfl rfl rfl) ?_
       refine Ops_quiet _ rfl rfl (QO.move rfl rfl) ?_
       refine Ops_nil ?_
       obtain rfl := Option.some.inj ho1
       dsimp only at hk1
       exact thenA_n ⟨k1, Nat.lt_succ_self _, _, hk1, (Sub.cons rfl (Sub.cons rfl (Sub.cons rfl (Sub.cons rfl Sub.nil)))), (Le.upd_left (Le.upd_left (Le.under (Le.under (Le.under (Le.refl _) hb1) hb2) hb3) ((upd_ne _ _ n_b3_b1.ne.symm).trans ((upd_ne _ _ n_b2_b1.ne.symm).trans (upd_same _ _ _))) (by first | rfl | (simp; done))) ((upd_ne _ _ n_b3_b2.ne.symm).trans (upd_same _ _ _)) (by first | rfl | (simp; done)))⟩
      rw [if_neg hid2] at ho1
      exact absurd ho1 (by simp)
   ·replace ho1 := cond_f ho1 g1
    refine wpA_exit ?_
    refine thenA_e ?_
    refine thenA_e ?_
    obtain rfl := Option.some.inj ho1
    obtain rfl := Option.some.inj hk1
    exact ⟨rfl, _, rfl, (Sub.cons rfl (Sub.cons rfl (Sub.cons rfl (Sub.cons rfl Sub.nil)))), (Le.upd_left (Le.upd_left (Le.under (Le.under (Le.refl _) hb1) hb2) ((upd_ne _ _ n_b2_b1.ne.symm).trans (upd_same _ _ _)) (by first | rfl | (simp; done))) (upd_same _ _ _) (by first | rfl | (simp; done)))⟩
 ·intro e s' h' hq
  cases R1 with
  | next x => exact hq.elim
  | ret r =>
   obtain ⟨rfl, hsub5, hle5⟩ := hq
   try dsimp only at hm
   refine blockA_r ?_
   refine thenA_r ?_
   obtain rfl := Option.some.inj hm
   refine retA_sub hsub5.ok hle5 ?_
   exact retA_r (h2 := h) (Res.one rfl (rfl)) (Le.refl _) ⟨rfl, rfl⟩
  | stop x id =>
   obtain ⟨rfl, x6, rfl, hsub6, hle6⟩ := hq
   try dsimp only at hm
   by_cases hid3 : id = 0
   ·subst hid3
    rw [if_pos rfl] at hm
    refine blockA_s ?_
    refine thenA_n ?_
    refine wpA_weaken hsub6.ok hle6 ?_
    refine wpA_seq ?_
    refine wpA_region ?_
    refine Ops_quiet _ rfl rfl (QO.assign rfl rfl) ?_
    refine Ops_nil ?_
    refine thenA_n ?_
    refine wpA_ret ?_
    obtain rfl := Option.some.inj hm
    exact retA_r (h2 := h) (Res.one rfl (rfl)) (Le.under (Le.under (Le.refl _) hb1) hb2) ⟨rfl, rfl⟩
   rw [if_neg hid3] at hm
   exact absurd hm (by simp)

/-! loop.example/g01195/impl.IsGroup -/
theorem c_impl_IsGroup {a0 : Sq} {h : Hp} {r : Bool} (hm : m_impl_IsGroup a0 = some r)  :
    QC Try.prog 18 #[.agg (sqC a0).toArray] h (.bool r) := by
 unfold m_impl_IsGroup at hm
 refine CC.enter Try.func18 rfl Try.ntmps18 rfl ?_
 refine wpA_seq ?_
 refine wpA_region ?_
 refine Ops_loud rfl (LO.boxAgg rfl rfl rfl (fun b1 hb1 => ?_))
 refine Ops_quiet _ rfl rfl (QO.assign rfl rfl) ?_
 refine Ops_nil ?_
 refine thenA_n ?_
 refine wpA_seq ?_
 refine wpA_region ?_
 refine Ops_quiet _ rfl rfl (QO.loadRow (cs := sqC a0) (hr := (rdAll (upd_same _ _ _))) rfl sz37 rfl rfl (sqC_length _)) ?_
 have hq := Option.bind_eq_some_iff.1 hm; clear hm; obtain ⟨r1, hr1, hm⟩ := hq
 refine Ops_call _ _ rfl rfl (EO.fn rfl Try.func44 rfl rfl (Evs.cons rfl Evs.nil)) (QC.cc (c_impl_IsLoop hr1 ) ?_)
 refine Ops_quiet _ rfl rfl (QO.move rfl rfl) ?_
 refine Ops_case 5 rfl (fun g1 => ?_) (fun g1 => ?_)
 ·replace hm := cond_t hm g1
  refine Ops_quiet _ rfl rfl (QO.loadRow (cs := sqC a0) (hr := (rdAll (upd_same _ _ _))) rfl sz37 rfl rfl (sqC_length _)) ?_
  have hq := Option.bind_eq_some_iff.1 hm; clear hm; obtain ⟨r2, hr2, hm⟩ := hq
  refine Ops_call _ _ rfl rfl (EO.fn rfl Try.func45 rfl rfl (Evs.cons rfl Evs.nil)) (QC.cc (c_impl_Square_isAssociative hr2 ) ?_)
  refine Ops_quiet _ rfl rfl (QO.pick_t rfl rfl rfl) ?_
  refine Ops_quiet _ rfl rfl (QO.assign rfl rfl) ?_
  refine Ops_nil ?_
  refine thenA_n ?_
  refine wpA_ret ?_
  obtain rfl := Option.some.inj hm
  exact retA_r (h2 := h) (Res.one rfl (rfl)) (Le.under (Le.refl _) hb1) ⟨rfl, rfl⟩
 ·replace hm := cond_f hm g1
  refine Ops_skip rfl rfl ?_
  refine Ops_skip rfl rfl ?_
  refine Ops_quiet _ rfl rfl (QO.pick_f rfl rfl rfl) ?_
  refine Ops_quiet _ rfl rfl (QO.assign rfl rfl) ?_
  refine Ops_nil ?_
  refine thenA_n ?_
  refine wpA_ret ?_
  obtain rfl := Option.some.inj hm
  exact retA_r (h2 := h) (Res.one rfl (rfl)) (Le.under (Le.refl _) hb1) ⟨rfl, rfl⟩

/-! loop.example/g01195/spec.l01Near -/
theorem c_spec_l01Near {a0 : Src} {p0 : Nat} {l_s : List Int} {A_s : Option Addr} {c_s : Nat} {a1 : Int} {h : Hp} {r : Int × Src} (hm : m_spec_l01Near a0 l_s a1 = some r) (hs_s : RdS h A_s (ints .u8 l_s)) (h_p0 : h p0 = none) :
    CC Try.prog 46 #[.pointer (some ⟨p0, 0, none⟩), .int .i64 a1] (upd (h) p0 (.own 65 (srcC A_s l_s.length c_s a0) 3)) (fun v h' => v = .int .i64 r.1 ∧ h' = upd (h) p0 (.own 65 (srcC A_s l_s.length c_s r.2) 3)) := by
 unfold m_spec_l01Near at hm
 refine CC.enter Try.func46 rfl Try.ntmps46 rfl ?_
 refine wpA_seq ?_
 refine wpA_region ?_
 refine Ops_quiet _ rfl rfl (QO.assign rfl rfl) ?_
 refine Ops_nil ?_
 refine thenA_n ?_
 refine wpA_seq ?_
 refine wpA_seq ?_
 refine wpA_region ?_
 refine Ops_quiet _ rfl rfl (QO.move rfl rfl) ?_
 have hq := Option.bind_eq_some_iff.1 hm; clear hm; obtain ⟨r1, hr1, hm⟩ := hq
 have hd1 : Del (upd (h) p0 (.own 65 (srcC A_s l_s.length c_s a0) 3)) p0 (.own 65 (srcC A_s l_s.length c_s a0) 3) (h) := (Del.here h_p0)
 refine Ops_call _ _ rfl rfl (EO.fn rfl Try.func27 rfl rfl (Evs.cons rfl (Evs.cons rfl Evs.nil))) (CC.mono (CC.atLe (c_spec_l01Next (h := h) hr1 (RdS.le hs_s (Le.refl _)) hd1.none) hd1.le) ?_)
 rintro _ _ ⟨rfl, rfl⟩
 refine Ops_quiet _ rfl rfl (QO.bin rfl rfl rfl rfl) ?_
 refine Ops_nil ?_
 refine thenA_n ?_
 refine wpA_cond rfl (fun g1 => ?_) (fun g1 => ?_)
 ·replace hm := cond_t hm g1
  refine wpA_seq ?_
  refine wpA_region ?_
  refine Ops_quiet _ rfl rfl (QO.move rfl rfl) ?_
  refine Ops_quiet _ rfl rfl (QO.move rfl rfl) ?_
  refine Ops_quiet _ rfl rfl (QO.bin rfl rfl rfl rfl) ?_
  refine Ops_loud rfl (LO.slice' [(0, .int .i64 (-1)), (1, .int .i64 (IntKind.i64.wrap (a1 + 1))), (2, .int .i64 1099511627776), (3, .int .i64 (-4611686018427387904))] (r := ints .i64 [(-1), (IntKind.i64.wrap (a1 + 1)), 1099511627776, (-4611686018427387904)]) rfl sz70 sz2 zr2 (by first | rfl | (simp [sqC_length, tbC_length, tabI_length, tabB_length, ints_length, plsC_length, trC_length, sqsC_length, strsC_length, boolsC_length, tbB_length, List.length_append, List.length_cons, List.length_nil, List.length_set, List.length_replicate, rep_length]; done)) (by decide) (by decide) (by decide) rfl rfl (by first | rfl | (simp [sqC_length, tbC_length, tabI_length, tabB_length, ints_length, plsC_length, trC_length, sqsC_length, strsC_length, boolsC_length, tbB_length, List.length_append, List.length_cons, List.length_nil, List.length_set, List.length_replicate, rep_length]; done)) rfl (fun b1 hb1 => ?_))
  simp only [upd_noneA] at hb1
  obtain ⟨n_b1_p0, hb1⟩ := hb1
  have hq := Option.bind_eq_some_iff.1 hm; clear hm; obtain ⟨r2, hr2, hm⟩ := hq
  have hd2 : Del (upd (upd (h) p0 (.own 65 (srcC A_s l_s.length c_s r1.2) 3)) b1 (.own 2 (ints .i64 [(-1), (IntKind.i64.wrap (a1 + 1)), 1099511627776, (-4611686018427387904)]) (4 * 1))) p0 (.own 65 (srcC A_s l_s.length c_s r1.2) 3) (upd (h) b1 (.own 2 (ints .i64 [(-1), (IntKind.i64.wrap (a1 + 1)), 1099511627776, (-4611686018427387904)]) (4 * 1))) := (Del.there n_b1_p0.ne.symm (Del.here h_p0))
  refine Ops_call _ _ rfl rfl (EO.fn rfl Try.func40 rfl rfl (Evs.cons rfl (Evs.cons rfl Evs.nil))) (CC.mono (CC.atLe (c_spec_l01Pick (l1 := [(-1), (IntKind.i64.wrap (a1 + 1)), 1099511627776, (-4611686018427387904)]) (A1 := some ⟨b1, 0, none⟩) (c1 := 4) (h := upd (h) b1 (.own 2 (ints .i64 [(-1), (IntKind.i64.wrap (a1 + 1)), 1099511627776, (-4611686018427387904)]) (4 * 1))) hr2 (RdS.le hs_s (Le.under (Le.refl _) hb1)) (RdS.own (upd_same _ _ _)) hd2.none) hd2.le) ?_)
  rintro _ _ ⟨rfl, rfl⟩
  refine Ops_quiet _ rfl rfl (QO.assign rfl rfl) ?_
  refine Ops_nil ?_
  refine thenA_n ?_
  refine wpA_ret ?_
  refine thenA_r ?_
  obtain rfl := Option.some.inj hm
  exact retA_r (h2 := upd (h) p0 (.own 65 (srcC A_s l_s.length c_s r2.2) 3)) (Res.one rfl (rfl)) (Le.upd_left (Le.under (Le.under (Le.refl _) hb1) h_p0) (upd_same _ _ _) (by first | rfl | (simp; done))) ⟨rfl, rfl⟩
 ·replace hm := cond_f hm g1
  refine wpA_skip ?_
  refine thenA_n ?_
  refine wpA_seq ?_
  refine wpA_region ?_
  refine Ops_quiet _ rfl rfl (QO.move rfl rfl) ?_
  refine Ops_quiet _ rfl rfl (QO.move rfl rfl) ?_
  refine Ops_quiet _ rfl rfl (QO.bin rfl rfl rfl rfl) ?_
  have hq := Option.bind_eq_some_iff.1 hm; clear hm; obtain ⟨r3, hr3, hm⟩ := hq
  have hd3 : Del (upd (h) p0 (.own 65 (srcC A_s l_s.length c_s r1.2) 3)) p0 (.own 65 (srcC A_s l_s.length c_s r1.2) 3) (h) := (Del.here h_p0)
  refine Ops_call _ _ rfl rfl (EO.fn rfl Try.func27 rfl rfl (Evs.cons rfl (Evs.cons rfl Evs.nil))) (CC.mono (CC.atLe (c_spec_l01Next (h := h) hr3 (RdS.le hs_s (Le.refl _)) hd3.none) hd3.le) ?_)
  rintro _ _ ⟨rfl, rfl⟩
  refine Ops_quiet _ rfl rfl (QO.assign rfl rfl) ?_
  refine Ops_nil ?_
  refine thenA_n ?_
  refine wpA_ret ?_
  obtain rfl := Option.some.inj hm
  exact retA_r (h2 := upd (h) p0 (.own 65 (srcC A_s l_s.length c_s r3.2) 3)) (Res.one rfl (rfl)) (Le.upd_left (Le.under (Le.refl _) h_p0) (upd_same _ _ _) (by first | rfl | (simp; done))) ⟨rfl, rfl⟩

/-! loop.example/g01195/spec.DrawCyclicSquare -/
theorem c_spec_DrawCyclicSquare {l0 : (List Int)} {A0 : Option Addr} {c0 : Nat} {h : Hp} {r : Int} (hm : m_spec_DrawCyclicSquare l0 = some r) (hs0 : RdS h A0 (ints .u8 l0)) :
    QC Try.prog 19 #[.slice A0 l0.length c0] h (.int .i64 r) := by
 unfold m_spec_DrawCyclicSquare at hm
 refine CC.enter Try.func19 rfl Try.ntmps19 rfl ?_
 refine wpA_seq ?_
 refine wpA_region ?_
 refine Ops_quiet _ rfl rfl (QO.assign rfl rfl) ?_
 refine Ops_nil ?_
 refine thenA_n ?_
 refine wpA_seq ?_
 refine wpA_region ?_
 refine Ops_quiet _ rfl rfl (QO.move rfl rfl) ?_
 have hq := Option.bind_eq_some_iff.1 hm; clear hm; obtain ⟨r1, hr1, hm⟩ := hq
 refine Ops_call _ _ rfl rfl (EO.fn rfl Try.func25 rfl rfl (Evs.cons rfl Evs.nil)) (CC.mono (c_spec_l01From (l0 := l0) (A0 := A0) (c0 := c0) hr1 (RdS.le hs0 (Le.refl _))) ?_)
 rintro _ _ ⟨b1, hb1, rfl, rfl⟩
 have hq := Option.bind_eq_some_iff.1 hm; clear hm; obtain ⟨r2, hr2, hm⟩ := hq
 have hd1 : Del (upd (h) b1 (.own 65 (srcC A0 l0.length c0 r1) 3)) b1 (.own 65 (srcC A0 l0.length c0 r1) 3) (h) := (Del.here hb1)
 refine Ops_call _ _ rfl rfl (EO.fn rfl Try.func46 rfl rfl (Evs.cons rfl (Evs.cons rfl Evs.nil))) (CC.mono (CC.atLe (c_spec_l01Near (h := h) hr2 (RdS.le hs0 (Le.refl _)) hd1.none) hd1.le) ?_)
 rintro _ _ ⟨rfl, rfl⟩
 refine Ops_quiet _ rfl rfl (QO.bin rfl rfl rfl rfl) ?_
 refine Ops_quiet _ rfl rfl (QO.assign rfl rfl) ?_
 refine Ops_nil ?_
 refine thenA_n ?_
 refine wpA_ret ?_
 obtain rfl := Option.some.inj hm
 exact retA_r (h2 := h) (Res.one rfl (rfl)) (Le.under (Le.refl _) hb1) ⟨rfl, rfl⟩

/-! loop.example/g01195/impl.cyclic$1 -/
theorem c_impl_cyclic_1 {a0 : Int} {a1 : Int} {v0 : Int} {q0 : Nat} {h : Hp} {r : Int} (hm : m_impl_cyclic_1 a0 a1 v0 = some r) (hq0 : h q0 = some (.own 2 ([.int .i64 v0]) 1)) :
    QC Try.prog 60 #[.int .u8 a0, .int .u8 a1, .pointer (some ⟨q0, 0, none⟩)] h (.int .u8 r) := by
 unfold m_impl_cyclic_1 at hm
 refine CC.enter Try.func60 rfl Try.ntmps60 rfl ?_
 refine wpA_seq ?_
 refine wpA_region ?_
 refine Ops_quiet _ rfl rfl (QO.assign rfl rfl) ?_
 refine Ops_nil ?_
 refine thenA_n ?_
 refine wpA_seq ?_
 refine wpA_region ?_
 refine Ops_quiet _ rfl rfl (QO.move rfl rfl) ?_
 refine Ops_quiet _ rfl rfl (QO.move rfl rfl) ?_
 refine Ops_quiet _ rfl rfl (QO.bin rfl rfl rfl rfl) ?_
 refine Ops_quiet _ rfl rfl (QO.load rfl sz2 rfl rfl (by (refine (rd_own hq0 _).trans ?_); exact rfl)) ?_
 refine Ops_quiet _ rfl rfl (QO.conv rfl sz2 sz5 rfl) ?_
 have hq := chk hm; clear hm; obtain ⟨ck1, hm⟩ := hq
 refine Ops_quiet _ rfl rfl (QO.rem rfl rfl rfl (by first | assumption | omega)) ?_
 refine Ops_quiet _ rfl rfl (QO.assign rfl rfl) ?_
 refine Ops_nil ?_
 refine thenA_n ?_
 refine wpA_ret ?_
 obtain rfl := Option.some.inj hm
 exact retA_r (h2 := h) (Res.one rfl (rfl)) (Le.refl _) ⟨rfl, rfl⟩

/-! loop.example/g01195/impl.cyclic -/
theorem c_impl_cyclic {a0 : Int} {h : Hp} {r : Sq} (hm : m_impl_cyclic a0 = some r)  :
    QC Try.prog 47 #[.int .i64 a0] h (.agg (sqC r).toArray) := by
 unfold m_impl_cyclic at hm
 refine CC.enter Try.func47 rfl Try.ntmps47 rfl ?_
 refine wpA_seq ?_
 refine wpA_region ?_
 refine Ops_loud rfl (LO.boxOne rfl rfl rfl rfl (fun b1 hb1 => ?_))
 refine Ops_loud rfl (LO.alloc rfl zr37 rfl (fun b2 hb2 => ?_))
 simp only [upd_noneA] at hb2
 obtain ⟨n_b2_b1, hb2⟩ := hb2
 refine Ops_nil ?_
 refine thenA_n ?_
 refine wpA_seq ?_
 refine wpA_region ?_
 refine Ops_quiet _ rfl rfl (QO.load rfl sz2 rfl rfl (by (refine (rd_own ((upd_ne _ _ n_b2_b1.ne.symm).trans (upd_same _ _ _)) _).trans ?_); exact rfl)) ?_
 refine Ops_quiet _ rfl rfl (QO.makeClo rfl (Evs.cons rfl Evs.nil)) ?_
 have hq := Option.bind_eq_some_iff.1 hm; clear hm; obtain ⟨r1, hr1, hm⟩ := hq
 refine Ops_call _ _ rfl rfl (EO.fn rfl Try.func49 rfl rfl (Evs.cons rfl (Evs.cons rfl Evs.nil))) (QC.cc (c_impl_made hr1 ⟨_, _, Try.func60, rfl, rfl⟩ (fun _ _ _  hm => c_impl_cyclic_1 hm ((upd_ne _ _ n_b2_b1.ne.symm).trans (upd_same _ _ _)))) ?_)
 refine Ops_loud rfl (LO.storeAll (cs := sqC r1) rfl sz37 rfl rfl (sqC_one _) (sqC_length _) (upd_same _ _ _) (sqC_length _) Chg.here rfl ?_)
 refine Ops_nil ?_
 refine thenA_n ?_
 refine wpA_ret ?_
 obtain rfl := Option.some.inj hm
 exact retA_r (h2 := h) (Res.one rfl (res1.row (cs := sqC r1) (hr := (rdAll (upd_same _ _ _))) sz37 rfl rfl (sqC_length _))) (Le.under (Le.under (Le.refl _) hb1) hb2) ⟨rfl, rfl⟩

/-! loop.example/g01195/impl.CyclicSquare -/
theorem c_impl_CyclicSquare {a0 : Int} {h : Hp} {r : Sq × Int} (hm : m_impl_CyclicSquare a0 = some r)  :
    QC Try.prog 20 #[.int .i64 a0] h (.tuple #[.agg (sqC r.1).toArray, .int .i64 r.2]) := by
 unfold m_impl_CyclicSquare at hm
 refine CC.enter Try.func20 rfl Try.ntmps20 rfl ?_
 refine wpA_seq ?_
 refine wpA_region ?_
 refine Ops_loud rfl (LO.alloc rfl zr37 rfl (fun b1 hb1 => ?_))
 refine Ops_quiet _ rfl rfl (QO.assign rfl rfl) ?_
 refine Ops_nil ?_
 refine thenA_n ?_
 refine wpA_seq ?_
 refine wpA_seq ?_
 refine wpA_region ?_
 refine Ops_quiet _ rfl rfl (QO.move rfl rfl) ?_
 have hq := Option.bind_eq_some_iff.1 hm; clear hm; obtain ⟨r1, hr1, hm⟩ := hq
 refine Ops_call _ _ rfl rfl (EO.fn rfl Try.func36 rfl rfl (Evs.cons rfl (Evs.cons rfl (Evs.cons rfl Evs.nil)))) (QC.cc (c_impl_within hr1 ) ?_)
 refine Ops_quiet _ rfl rfl (QO.not rfl rfl) ?_
 refine Ops_nil ?_
 refine thenA_n ?_
 refine wpA_cond rfl (fun g1 => ?_) (fun g1 => ?_)
 ·replace hm := cond_t hm g1
  refine wpA_seq ?_
  refine wpA_region ?_
  refine Ops_quiet _ rfl rfl (QO.build0 rfl bd37) ?_
  refine Ops_loud rfl (LO.storeAll (cs := sqC sq0) rfl sz37 rfl rfl (sqC_one _) (sqC_length _) (upd_same _ _ _) (sqC_length _) Chg.here rfl ?_)
  refine Ops_quiet _ rfl rfl (QO.assign rfl rfl) ?_
  refine Ops_nil ?_
  refine thenA_n ?_
  refine wpA_ret ?_
  refine thenA_r ?_
  obtain rfl := Option.some.inj hm
  exact retA_r (h2 := h) (Res.two rfl (res1.row (cs := sqC sq0) (hr := (rdAll (upd_same _ _ _))) sz37 rfl rfl (sqC_length _)) (rfl)) (Le.under (Le.refl _) hb1) ⟨rfl, rfl⟩
 ·replace hm := cond_f hm g1
  refine wpA_skip ?_
  refine thenA_n ?_
  refine wpA_seq ?_
  refine wpA_region ?_
  refine Ops_quiet _ rfl rfl (QO.move rfl rfl) ?_
  have hq := Option.bind_eq_some_iff.1 hm; clear hm; obtain ⟨r2, hr2, hm⟩ := hq
  refine Ops_call _ _ rfl rfl (EO.fn rfl Try.func47 rfl rfl (Evs.cons rfl Evs.nil)) (QC.cc (c_impl_cyclic hr2 ) ?_)
  refine Ops_loud rfl (LO.storeAll (cs := sqC r2) rfl sz37 rfl rfl (sqC_one _) (sqC_length _) (upd_same _ _ _) (sqC_length _) Chg.here rfl ?_)
  refine Ops_quiet _ rfl rfl (QO.assign rfl rfl) ?_
  refine Ops_nil ?_
  refine thenA_n ?_
  refine wpA_ret ?_
  obtain rfl := Option.some.inj hm
  exact retA_r (h2 := h) (Res.two rfl (res1.row (cs := sqC r2) (hr := (rdAll (upd_same _ _ _))) sz37 rfl rfl (sqC_length _)) (rfl)) (Le.under (Le.refl _) hb1) ⟨rfl, rfl⟩

/-! loop.example/g01195/spec.CyclicSquare -/
theorem c_spec_CyclicSquare {a0 : Int} {h : Hp} {r : Sq × Int} (hm : m_spec_CyclicSquare a0 = some r)  :
    QC Try.prog 21 #[.int .i64 a0] h (.tuple #[.agg (sqC r.1).toArray, .int .i64 r.2]) := by
 unfold m_spec_CyclicSquare at hm
 refine CC.enter Try.func21 rfl Try.ntmps21 rfl ?_
 refine wpA_seq ?_
 refine wpA_region ?_
 refine Ops_loud rfl (LO.alloc rfl zr37 rfl (fun b1 hb1 => ?_))
 refine Ops_quiet _ rfl rfl (QO.assign rfl rfl) ?_
 refine Ops_nil ?_
 refine thenA_n ?_
 refine wpA_seq ?_
 refine wpA_seq ?_
 refine wpA_region ?_
 refine Ops_quiet _ rfl rfl (QO.move rfl rfl) ?_
 have hq := Option.bind_eq_some_iff.1 hm; clear hm; obtain ⟨r1, hr1, hm⟩ := hq
 refine Ops_call _ _ rfl rfl (EO.fn rfl Try.func48 rfl rfl (Evs.cons rfl (Evs.cons rfl (Evs.cons rfl Evs.nil)))) (QC.cc (c_spec_l01In hr1 ) ?_)
 refine Ops_quiet _ rfl rfl (QO.not rfl rfl) ?_
 refine Ops_nil ?_
 refine thenA_n ?_
 refine wpA_cond rfl (fun g1 => ?_) (fun g1 => ?_)
 ·replace hm := cond_t hm g1
  refine wpA_seq ?_
  refine wpA_region ?_
  refine Ops_quiet _ rfl rfl (QO.build0 rfl bd37) ?_
  refine Ops_loud rfl (LO.storeAll (cs := sqC sq0) rfl sz37 rfl rfl (sqC_one _) (sqC_length _) (upd_same _ _ _) (sqC_length _) Chg.here rfl ?_)
  refine Ops_quiet _ rfl rfl (QO.assign rfl rfl) ?_
  refine Ops_nil ?_
  refine thenA_n ?_
  refine wpA_ret ?_
  refine thenA_r ?_
  obtain rfl := Option.some.inj hm
  exact retA_r (h2 := h) (Res.two rfl (res1.row (cs := sqC sq0) (hr := (rdAll (upd_same _ _ _))) sz37 rfl rfl (sqC_length _)) (rfl)) (Le.under (Le.refl _) hb1) ⟨rfl, rfl⟩
 ·replace hm := cond_f hm g1
  refine wpA_skip ?_
  refine thenA_n ?_
  refine wpA_seq ?_
  refine wpA_region ?_
  refine Ops_quiet _ rfl rfl (QO.move rfl rfl) ?_
  have hq := Option.bind_eq_some_iff.1 hm; clear hm; obtain ⟨r2, hr2, hm⟩ := hq
  refine Ops_call _ _ rfl rfl (EO.fn rfl Try.func39 rfl rfl (Evs.cons rfl Evs.nil)) (QC.cc (c_spec_l01Cyclic hr2 ) ?_)
  refine Ops_loud rfl (LO.storeAll (cs := sqC r2) rfl sz37 rfl rfl (sqC_one _) (sqC_length _) (upd_same _ _ _) (sqC_length _) Chg.here rfl ?_)
  refine Ops_quiet _ rfl rfl (QO.assign rfl rfl) ?_
  refine Ops_nil ?_
  refine thenA_n ?_
  refine wpA_ret ?_
  obtain rfl := Option.some.inj hm
  exact retA_r (h2 := h) (Res.two rfl (res1.row (cs := sqC r2) (hr := (rdAll (upd_same _ _ _))) sz37 rfl rfl (sqC_length _)) (rfl)) (Le.under (Le.refl _) hb1) ⟨rfl, rfl⟩

/-! loop.example/g01195/spec.DrawElementarySquare -/
theorem c_spec_DrawElementarySquare {l0 : (List Int)} {A0 : Option Addr} {c0 : Nat} {h : Hp} {r : Int} (hm : m_spec_DrawElementarySquare l0 = some r) (hs0 : RdS h A0 (ints .u8 l0)) :
    QC Try.prog 22 #[.slice A0 l0.length c0] h (.int .i64 r) := by
 unfold m_spec_DrawElementarySquare at hm
 refine CC.enter Try.func22 rfl Try.ntmps22 rfl ?_
 refine wpA_seq ?_
 refine wpA_region ?_
 refine Ops_quiet _ rfl rfl (QO.assign rfl rfl) ?_
 refine Ops_nil ?_
 refine thenA_n ?_
 refine wpA_seq ?_
 refine wpA_region ?_
 refine Ops_quiet _ rfl rfl (QO.move rfl rfl) ?_
 have hq := Option.bind_eq_some_iff.1 hm; clear hm; obtain ⟨r1, hr1, hm⟩ := hq
 refine Ops_call _ _ rfl rfl (EO.fn rfl Try.func25 rfl rfl (Evs.cons rfl Evs.nil)) (CC.mono (c_spec_l01From (l0 := l0) (A0 := A0) (c0 := c0) hr1 (RdS.le hs0 (Le.refl _))) ?_)
 rintro _ _ ⟨b1, hb1, rfl, rfl⟩
 have hq := Option.bind_eq_some_iff.1 hm; clear hm; obtain ⟨r2, hr2, hm⟩ := hq
 have hd1 : Del (upd (h) b1 (.own 65 (srcC A0 l0.length c0 r1) 3)) b1 (.own 65 (srcC A0 l0.length c0 r1) 3) (h) := (Del.here hb1)
 refine Ops_call _ _ rfl rfl (EO.fn rfl Try.func46 rfl rfl (Evs.cons rfl (Evs.cons rfl Evs.nil))) (CC.mono (CC.atLe (c_spec_l01Near (h := h) hr2 (RdS.le hs0 (Le.refl _)) hd1.none) hd1.le) ?_)
 rintro _ _ ⟨rfl, rfl⟩
 refine Ops_quiet _ rfl rfl (QO.assign rfl rfl) ?_
 refine Ops_nil ?_
 refine thenA_n ?_
 refine wpA_ret ?_
 obtain rfl := Option.some.inj hm
 exact retA_r (h2 := h) (Res.one rfl (rfl)) (Le.under (Le.refl _) hb1) ⟨rfl, rfl⟩

/-! loop.example/g01195/impl.ElementarySquare$1 -/
theorem c_impl_ElementarySquare_1 {a0 : Int} {a1 : Int} {h : Hp} {r : Int} (hm : m_impl_ElementarySquare_1 a0 a1 = some r)  :
    QC Try.prog 50 #[.int .u8 a0, .int .u8 a1] h (.int .u8 r) := by
 unfold m_impl_ElementarySquare_1 at hm
 refine CC.enter Try.func50 rfl Try.ntmps50 rfl ?_
 refine wpA_seq ?_
 refine wpA_region ?_
 refine Ops_quiet _ rfl rfl (QO.assign rfl rfl) ?_
 refine Ops_nil ?_
 refine thenA_n ?_
 refine wpA_seq ?_
 refine wpA_region ?_
 refine Ops_quiet _ rfl rfl (QO.move rfl rfl) ?_
 refine Ops_quiet _ rfl rfl (QO.move rfl rfl) ?_
 refine Ops_quiet _ rfl rfl (QO.bin rfl rfl rfl rfl) ?_
 refine Ops_quiet _ rfl rfl (QO.assign rfl rfl) ?_
 refine Ops_nil ?_
 refine thenA_n ?_
 refine wpA_ret ?_
 obtain rfl := Option.some.inj hm
 exact retA_r (h2 := h) (Res.one rfl (rfl)) (Le.refl _) ⟨rfl, rfl⟩

/-! loop.example/g01195/impl.ElementarySquare -/
theorem c_impl_ElementarySquare {a0 : Int} {h : Hp} {r : Sq × Int} (hm : m_impl_ElementarySquare a0 = some r)  :
    QC Try.prog 23 #[.int .i64 a0] h (.tuple #[.agg (sqC r.1).toArray, .int .i64 r.2]) := by
 unfold m_impl_ElementarySquare at hm
 refine CC.enter Try.func23 rfl Try.ntmps23 rfl ?_
 refine wpA_seq ?_
 refine wpA_region ?_
 refine Ops_loud rfl (LO.alloc rfl zr37 rfl (fun b1 hb1 => ?_))
 refine Ops_quiet _ rfl rfl (QO.assign rfl rfl) ?_
 refine Ops_nil ?_
 refine thenA_n ?_
 refine wpA_seq ?_
 refine wpA_seq ?_
 refine wpA_region ?_
 refine Ops_quiet _ rfl rfl (QO.move rfl rfl) ?_
 have hq := Option.bind_eq_some_iff.1 hm; clear hm; obtain ⟨r1, hr1, hm⟩ := hq
 refine Ops_call _ _ rfl rfl (EO.fn rfl Try.func36 rfl rfl (Evs.cons rfl (Evs.cons rfl (Evs.cons rfl Evs.nil)))) (QC.cc (c_impl_within hr1 ) ?_)
 refine Ops_quiet _ rfl rfl (QO.not rfl rfl) ?_
 refine Ops_nil ?_
 refine thenA_n ?_
 refine wpA_cond rfl (fun g1 => ?_) (fun g1 => ?_)
 ·replace hm := cond_t hm g1
  refine wpA_seq ?_
  refine wpA_region ?_
  refine Ops_quiet _ rfl rfl (QO.build0 rfl bd37) ?_
  refine Ops_loud rfl (LO.storeAll (cs := sqC sq0) rfl sz37 rfl rfl (sqC_one _) (sqC_length _) (upd_same _ _ _) (sqC_length _) Chg.here rfl ?_)
  refine Ops_quiet _ rfl rfl (QO.assign rfl rfl) ?_
  refine Ops_nil ?_
  refine thenA_n ?_
  refine wpA_ret ?_
  refine thenA_r ?_
  obtain rfl := Option.some.inj hm
  exact retA_r (h2 := h) (Res.two rfl (res1.row (cs := sqC sq0) (hr := (rdAll (upd_same _ _ _))) sz37 rfl rfl (sqC_length _)) (rfl)) (Le.under (Le.refl _) hb1) ⟨rfl, rfl⟩
 ·replace hm := cond_f hm g1
  refine wpA_skip ?_
  refine thenA_n ?_
  refine wpA_seq ?_
  refine wpA_region ?_
  refine Ops_quiet _ rfl rfl (QO.move rfl rfl) ?_
  have hq := chk hm; clear hm; obtain ⟨ck1, hm⟩ := hq
  refine Ops_quiet _ rfl rfl (QO.shl rfl rfl rfl (by first | assumption | omega)) ?_
  have hq := Option.bind_eq_some_iff.1 hm; clear hm; obtain ⟨r2, hr2, hm⟩ := hq
  refine Ops_call _ _ rfl rfl (EO.fn rfl Try.func49 rfl rfl (Evs.cons rfl (Evs.cons rfl Evs.nil))) (QC.cc (c_impl_made hr2 ⟨_, _, Try.func50, rfl, rfl⟩ (fun _ _ _  hm => c_impl_ElementarySquare_1 hm )) ?_)
  refine Ops_loud rfl (LO.storeAll (cs := sqC r2) rfl sz37 rfl rfl (sqC_one _) (sqC_length _) (upd_same _ _ _) (sqC_length _) Chg.here rfl ?_)
  refine Ops_quiet _ rfl rfl (QO.assign rfl rfl) ?_
  refine Ops_nil ?_
  refine thenA_n ?_
  refine wpA_ret ?_
  obtain rfl := Option.some.inj hm
  exact retA_r (h2 := h) (Res.two rfl (res1.row (cs := sqC r2) (hr := (rdAll (upd_same _ _ _))) sz37 rfl rfl (sqC_length _)) (rfl)) (Le.under (Le.refl _) hb1) ⟨rfl, rfl⟩

/-! loop.example/g01195/spec.ElementarySquare -/
theorem c_spec_ElementarySquare {a0 : Int} {h : Hp} {r : Sq × Int} (hm : m_spec_ElementarySquare a0 = some r)  :
    QC Try.prog 24 #[.int .i64 a0] h (.tuple #[.agg (sqC r.1).toArray, .int .i64 r.2]) := by
 unfold m_spec_ElementarySquare at hm
 refine CC.enter Try.func24 rfl Try.ntmps24 rfl ?_
 refine wpA_seq ?_
 refine wpA_region ?_
 refine Ops_loud rfl (LO.alloc rfl zr37 rfl (fun b1 hb1 => ?_))
 refine Ops_quiet _ rfl rfl (QO.assign rfl rfl) ?_
 refine Ops_nil ?_
 refine thenA_n ?_
 refine wpA_seq ?_
 refine wpA_seq ?_
 refine wpA_region ?_
 refine Ops_quiet _ rfl rfl (QO.move rfl rfl) ?_
 have hq := Option.bind_eq_some_iff.1 hm; clear hm; obtain ⟨r1, hr1, hm⟩ := hq
 refine Ops_call _ _ rfl rfl (EO.fn rfl Try.func48 rfl rfl (Evs.cons rfl (Evs.cons rfl (Evs.cons rfl Evs.nil)))) (QC.cc (c_spec_l01In hr1 ) ?_)
 refine Ops_quiet _ rfl rfl (QO.not rfl rfl) ?_
 refine Ops_nil ?_
 refine thenA_n ?_
 refine wpA_cond rfl (fun g1 => ?_) (fun g1 => ?_)
 ·replace hm := cond_t hm g1
  refine wpA_seq ?_
  refine wpA_region ?_
  refine Ops_quiet _ rfl rfl (QO.build0 rfl bd37) ?_
  refine Ops_loud rfl (LO.storeAll (cs := sqC sq0) rfl sz37 rfl rfl (sqC_one _) (sqC_length _) (upd_same _ _ _) (sqC_length _) Chg.here rfl ?_)
  refine Ops_quiet _ rfl rfl (QO.assign rfl rfl) ?_
  refine Ops_nil ?_
  refine thenA_n ?_
  refine wpA_ret ?_
  refine thenA_r ?_
  obtain rfl := Option.some.inj hm
  exact retA_r (h2 := h) (Res.two rfl (res1.row (cs := sqC sq0) (hr := (rdAll (upd_same _ _ _))) sz37 rfl rfl (sqC_length _)) (rfl)) (Le.under (Le.refl _) hb1) ⟨rfl, rfl⟩
 ·replace hm := cond_f hm g1
  refine wpA_skip ?_
  refine thenA_n ?_
  refine wpA_seq ?_
  refine wpA_region ?_
  refine Ops_quiet _ rfl rfl (QO.move rfl rfl) ?_
  have hq := Option.bind_eq_some_iff.1 hm; clear hm; obtain ⟨r2, hr2, hm⟩ := hq
  refine Ops_call _ _ rfl rfl (EO.fn rfl Try.func51 rfl rfl (Evs.cons rfl Evs.nil)) (QC.cc (c_spec_l01Elementary hr2 ) ?_)
  refine Ops_loud rfl (LO.storeAll (cs := sqC r2) rfl sz37 rfl rfl (sqC_one _) (sqC_length _) (upd_same _ _ _) (sqC_length _) Chg.here rfl ?_)
  refine Ops_quiet _ rfl rfl (QO.assign rfl rfl) ?_
  refine Ops_nil ?_
  refine thenA_n ?_
  refine wpA_ret ?_
  obtain rfl := Option.some.inj hm
  exact retA_r (h2 := h) (Res.two rfl (res1.row (cs := sqC r2) (hr := (rdAll (upd_same _ _ _))) sz37 rfl rfl (sqC_length _)) (rfl)) (Le.under (Le.refl _) hb1) ⟨rfl, rfl⟩
end Go.Lab
