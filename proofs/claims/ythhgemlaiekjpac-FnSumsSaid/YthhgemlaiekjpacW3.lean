/- The walks: each function computes what its model tells. -/
import Derived.Test.YthhgemlaiekjpacW2
set_option linter.unusedVariables false
set_option linter.unusedSimpArgs false
namespace Go.Lab
open Go Go.Abs Go.Proofs
set_option maxRecDepth 20000
set_option linter.unusedVariables false
set_option linter.unusedSimpArgs false
/-! (loop.example/g01195/impl.Square).times -/
theorem c_impl_Square_times {a0 : Sq} {a1 : Int} {l2 : (List Int)} {A2 : Option Addr} {c2 : Nat} {l3 : (List Int)} {A3 : Option Addr} {c3 : Nat} {h : Hp} {r : (List Int)} (hm : m_impl_Square_times a0 a1 l2 l3 = some r) (hs2 : RdS h A2 (ints .i64 l2)) (hs3 : RdS h A3 (ints .i64 l3)) :
    CC Try.prog 20 #[.agg (sqC a0).toArray, .int .i64 a1, .slice A2 l2.length c2, .slice A3 l3.length c3] h (NewSl 2 1 (ints .i64 r) r.length h) := by
 unfold m_impl_Square_times at hm
 refine CC.enter Try.func20 rfl Try.ntmps20 rfl ?_
 refine wpA_seq ?_
 refine wpA_region ?_
 refine Ops_loud rfl (LO.boxAgg rfl rfl rfl (fun b1 hb1 => ?_))
 refine Ops_quiet _ rfl rfl (QO.assign rfl rfl) ?_
 refine Ops_nil ?_
 refine thenA_n ?_
 refine wpA_seq ?_
 refine wpA_region ?_
 refine Ops_quiet _ rfl rfl (QO.fieldAt (fo := 0) rfl sz28 rfl rfl sz2 rfl rfl) ?_
 refine Ops_quiet _ rfl rfl (QO.load rfl sz2 rfl rfl (by (refine (rd_own (upd_same _ _ _) _).trans ?_); exact rfl)) ?_
 have hq := chk hm; clear hm; obtain ⟨ck1, hm⟩ := hq
 refine Ops_loud rfl (LO.mkSl2 (m := (a0.order).toNat) rfl sz29 sz2 zr2 el2 rfl rfl rfl (by omega) (by omega) (by omega) (by decide) (by decide) rfl (rep_ints _ _) (fun b2 hb2 => ?_))
 simp only [upd_noneA] at hb2
 obtain ⟨n_b2_b1, hb2⟩ := hb2
 refine Ops_quiet _ rfl rfl (QO.assign rfl rfl) ?_
 refine Ops_nil ?_
 refine thenA_n ?_
 refine wpA_seq ?_
 refine wpA_seq ?_
 refine wpA_region ?_
 refine Ops_quiet _ rfl rfl (QO.move rfl rfl) ?_
 refine Ops_quiet _ rfl rfl (QO.lenSl rfl sz29 rfl) ?_
 refine Ops_quiet _ rfl rfl (QO.move rfl rfl) ?_
 refine Ops_nil ?_
 refine thenA_n ?_
 refine wpA_block ?_
 obtain ⟨R1, hR, hm⟩ := Option.bind_eq_some_iff.1 hm
 obtain ⟨k1, hk1⟩ := loopV_some hR
 clear hR
 refine wpA_mono (Q := fun e s' h' => match (generalizing := false) R1 with | .stop x id => e = .exit id ∧ ∃ (x1 : Int) (x2 : (List Int)), (x1, x2) = x ∧ x2.length = (a0.order).toNat ∧ Sub s' [(1, .int .i64 a1), (3, .slice A3 l3.length c3), (4, .pointer (some ⟨b1, 0, none⟩)), (9, .slice (some ⟨b2, 0, none⟩) (a0.order).toNat (a0.order).toNat), (18, .slice A2 l2.length c2), (19, .int .i64 ((l2.length : Nat) : Int)), (20, .int .i64 x1)] ∧ Le (upd (upd (h) b1 (.own 28 (sqC a0) 101)) b2 (.own 2 (ints .i64 x2) ((a0.order).toNat * 1))) h' | .ret r => False | .next _ => False) ?_ ?_
 ·refine wpA_loop (fun k s' h' => ∃ (x1 : Int) (x2 : (List Int)), loopW (m_impl_Square_times_l0 a0 a1 l2 l3) k (x1, x2) = some R1 ∧ x2.length = (a0.order).toNat ∧ Sub s' [(1, .int .i64 a1), (3, .slice A3 l3.length c3), (4, .pointer (some ⟨b1, 0, none⟩)), (9, .slice (some ⟨b2, 0, none⟩) (a0.order).toNat (a0.order).toNat), (18, .slice A2 l2.length c2), (19, .int .i64 ((l2.length : Nat) : Int)), (20, .int .i64 x1)] ∧ Le (upd (upd (h) b1 (.own 28 (sqC a0) 101)) b2 (.own 2 (ints .i64 x2) ((a0.order).toNat * 1))) h') (m := k1) ⟨0, (List.replicate (a0.order).toNat 0), hk1, (by first | assumption | (simp only [List.length_set, List.length_replicate, List.length_cons, List.length_nil]; first | assumption | done | omega) | (simp; done)), (Sub.cons rfl (Sub.cons rfl (Sub.cons rfl (Sub.cons rfl (Sub.cons rfl (Sub.cons rfl (Sub.cons rfl Sub.nil))))))), (Le.upd_left (Le.upd_left (Le.under (Le.under (Le.refl _) hb1) hb2) ((upd_ne _ _ n_b2_b1.ne.symm).trans (upd_same _ _ _)) (by first | rfl | (simp; done))) (upd_same _ _ _) (by first | rfl | (simp; done)))⟩ ?_
  rintro k1 s' h' ⟨x1, x2, hk1, hl_x2, hsub, hle⟩
  refine wpA_weaken hsub.ok hle ?_
  clear hsub hle s' h'
  cases k1 with
  | zero => exact absurd hk1 (by simp [loopW])
  | succ k1 =>
   obtain ⟨o1, ho1, hk1⟩ := loopW_succ hk1
   unfold m_impl_Square_times_l0 at ho1
   try dsimp only at ho1
   refine wpA_seq ?_
   refine wpA_region ?_
   refine Ops_quiet _ rfl rfl (QO.bin rfl rfl rfl rfl) ?_
   refine Ops_nil ?_
   refine thenA_n ?_
   refine wpA_seq ?_
   refine wpA_cond rfl (fun g1 => ?_) (fun g1 => ?_)
   ·replace ho1 := cond_t ho1 g1
    refine wpA_skip ?_
    refine thenA_n ?_
    refine wpA_seq ?_
    refine wpA_block ?_
    refine wpA_seq ?_
    refine wpA_region ?_
    refine Ops_quiet _ rfl rfl (QO.move rfl rfl) ?_
    have hq := chk ho1; clear ho1; obtain ⟨ck2, ho1⟩ := hq
    refine Ops_quiet _ rfl rfl (QO.idxRd2 rfl sz29 sz2 rfl rfl (by omega) (by omega) hs2 (by simp [rowsC_length, rowsA_length, mpC_length, sqC_length, tbC_length, tabI_length, tabB_length, ints_length, plsC_length, trC_length, sqsC_length, strsC_length, boolsC_length, tbB_length, List.length_append, List.length_cons, List.length_nil, List.length_set, List.length_replicate, rep_length]) (by decide)) ?_
    refine Ops_quiet _ rfl rfl (QO.load rfl sz2 rfl rfl (by first | exact (RdS.rd (RdS.le hs2 (Le.under (Le.under (Le.refl _) hb1) hb2)) (by first | rfl | exact sqC_get (by omega) (by omega) | exact tbC_get (by omega) (by omega) | exact tbB_get (by omega) (by omega) | exact tabI_get01 (by omega) | exact tabB_get01 (by omega) | exact ints_get01 (by omega) | exact boolsC_get01 (by omega) | exact tabI_get (by omega) | exact tabB_get (by omega) | exact ints_get1 (by omega) | exact strsC_get01 (by omega) | exact strsC_get1 (by omega) | exact plsC_get (by omega) (by omega) | exact trC_a (by omega) | exact trC_b (by omega) | exact trC_c (by omega) | exact sqsC_ord (by omega) | exact sqsC_get (by omega) (by omega) (by omega))) | exact (RdS.rd2 (RdS.le hs2 (Le.under (Le.under (Le.refl _) hb1) hb2)) (by first | rfl | exact sqC_get (by omega) (by omega) | exact tbC_get (by omega) (by omega) | exact tbB_get (by omega) (by omega) | exact tabI_get01 (by omega) | exact tabB_get01 (by omega) | exact ints_get01 (by omega) | exact boolsC_get01 (by omega) | exact tabI_get (by omega) | exact tabB_get (by omega) | exact ints_get1 (by omega) | exact strsC_get01 (by omega) | exact strsC_get1 (by omega) | exact plsC_get (by omega) (by omega) | exact trC_a (by omega) | exact trC_b (by omega) | exact trC_c (by omega) | exact sqsC_ord (by omega) | exact sqsC_get (by omega) (by omega) (by omega))) | exact (RdS.rd3 (RdS.le hs2 (Le.under (Le.under (Le.refl _) hb1) hb2)) (by first | rfl | exact sqC_get (by omega) (by omega) | exact tbC_get (by omega) (by omega) | exact tbB_get (by omega) (by omega) | exact tabI_get01 (by omega) | exact tabB_get01 (by omega) | exact ints_get01 (by omega) | exact boolsC_get01 (by omega) | exact tabI_get (by omega) | exact tabB_get (by omega) | exact ints_get1 (by omega) | exact strsC_get01 (by omega) | exact strsC_get1 (by omega) | exact plsC_get (by omega) (by omega) | exact trC_a (by omega) | exact trC_b (by omega) | exact trC_c (by omega) | exact sqsC_ord (by omega) | exact sqsC_get (by omega) (by omega) (by omega))))) ?_
    refine Ops_quiet _ rfl rfl (QO.assign rfl rfl) ?_
    refine Ops_quiet _ rfl rfl (QO.assign rfl rfl) ?_
    refine Ops_nil ?_
    refine thenA_n ?_
    refine wpA_seq ?_
    refine wpA_seq ?_
    refine wpA_region ?_
    refine Ops_quiet _ rfl rfl (QO.move rfl rfl) ?_
    refine Ops_quiet _ rfl rfl (QO.bin rfl rfl rfl rfl) ?_
    refine Ops_nil ?_
    refine thenA_n ?_
    refine wpA_cond rfl (fun g2 => ?_) (fun g2 => ?_)
    ·replace ho1 := cond_t ho1 g2
     refine wpA_exit ?_
     refine thenA_e ?_
     refine blockA_s ?_
     refine thenA_n ?_
     refine wpA_region ?_
     refine Ops_quiet _ rfl rfl (QO.bin rfl rfl rfl rfl) ?_
     refine Ops_quiet _ rfl rfl (QO.move rfl rfl) ?_
     refine Ops_nil ?_
     obtain rfl := Option.some.inj ho1
     dsimp only at hk1
     exact thenA_n ⟨k1, Nat.lt_succ_self _, _, _, hk1, (by first | assumption | (simp only [List.length_set, List.length_replicate, List.length_cons, List.length_nil]; first | assumption | done | omega) | (simp; done)), (Sub.cons rfl (Sub.cons rfl (Sub.cons rfl (Sub.cons rfl (Sub.cons rfl (Sub.cons rfl (Sub.cons rfl Sub.nil))))))), (Le.upd_left (Le.upd_left (Le.under (Le.under (Le.refl _) hb1) hb2) ((upd_ne _ _ n_b2_b1.ne.symm).trans (upd_same _ _ _)) (by first | rfl | (simp; done))) (upd_same _ _ _) (by first | rfl | (simp; done)))⟩
    ·replace ho1 := cond_f ho1 g2
     refine wpA_skip ?_
     refine thenA_n ?_
     refine wpA_seq ?_
     refine wpA_region ?_
     refine Ops_quiet _ rfl rfl (QO.move rfl rfl) ?_
     refine Ops_quiet _ rfl rfl (QO.lenSl rfl sz29 rfl) ?_
     refine Ops_quiet _ rfl rfl (QO.move rfl rfl) ?_
     refine Ops_nil ?_
     refine thenA_n ?_
     refine wpA_block ?_
     obtain ⟨R2, hR, ho1⟩ := Option.bind_eq_some_iff.1 ho1
     obtain ⟨k2, hk2⟩ := loopV_some hR
     clear hR
     refine wpA_mono (Q := fun e s' h' => match (generalizing := false) R2 with | .stop x id => e = .exit id ∧ ∃ (x3 : Int) (x4 : (List Int)), (x3, x4) = x ∧ x4.length = (a0.order).toNat ∧ Sub s' [(1, .int .i64 a1), (3, .slice A3 l3.length c3), (4, .pointer (some ⟨b1, 0, none⟩)), (9, .slice (some ⟨b2, 0, none⟩) (a0.order).toNat (a0.order).toNat), (10, .int .i64 x1), (11, .int .i64 (l2.getD (x1).toNat 0)), (18, .slice A2 l2.length c2), (19, .int .i64 ((l2.length : Nat) : Int)), (20, .int .i64 x1), (27, .slice A3 l3.length c3), (28, .int .i64 ((l3.length : Nat) : Int)), (29, .int .i64 x3)] ∧ Le (upd (upd (h) b1 (.own 28 (sqC a0) 101)) b2 (.own 2 (ints .i64 x4) ((a0.order).toNat * 1))) h' | .ret r => False | .next _ => False) ?_ ?_
     ·refine wpA_loop (fun k s' h' => ∃ (x3 : Int) (x4 : (List Int)), loopW (m_impl_Square_times_l1 a0 a1 l2 l3 x1) k (x3, x4) = some R2 ∧ x4.length = (a0.order).toNat ∧ Sub s' [(1, .int .i64 a1), (3, .slice A3 l3.length c3), (4, .pointer (some ⟨b1, 0, none⟩)), (9, .slice (some ⟨b2, 0, none⟩) (a0.order).toNat (a0.order).toNat), (10, .int .i64 x1), (11, .int .i64 (l2.getD (x1).toNat 0)), (18, .slice A2 l2.length c2), (19, .int .i64 ((l2.length : Nat) : Int)), (20, .int .i64 x1), (27, .slice A3 l3.length c3), (28, .int .i64 ((l3.length : Nat) : Int)), (29, .int .i64 x3)] ∧ Le (upd (upd (h) b1 (.own 28 (sqC a0) 101)) b2 (.own 2 (ints .i64 x4) ((a0.order).toNat * 1))) h') (m := k2) ⟨0, x2, hk2, (by first | assumption | (simp only [List.length_set, List.length_replicate, List.length_cons, List.length_nil]; first | assumption | done | omega) | (simp; done)), (Sub.cons rfl (Sub.cons rfl (Sub.cons rfl (Sub.cons rfl (Sub.cons rfl (Sub.cons rfl (Sub.cons rfl (Sub.cons rfl (Sub.cons rfl (Sub.cons rfl (Sub.cons rfl (Sub.cons rfl Sub.nil)))))))))))), (Le.upd_left (Le.upd_left (Le.under (Le.under (Le.refl _) hb1) hb2) ((upd_ne _ _ n_b2_b1.ne.symm).trans (upd_same _ _ _)) (by first | rfl | (simp; done))) (upd_same _ _ _) (by first | rfl | (simp; done)))⟩ ?_
      rintro k2 s' h' ⟨x3, x4, hk2, hl_x4, hsub, hle⟩
      refine wpA_weaken hsub.ok hle ?_
      clear hsub hle s' h'
      cases k2 with
      | zero => exact absurd hk2 (by simp [loopW])
      | succ k2 =>
       obtain ⟨o2, ho2, hk2⟩ := loopW_succ hk2
       unfold m_impl_Square_times_l1 at ho2
       try dsimp only at ho2
       refine wpA_seq ?_
       refine wpA_region ?_
       refine Ops_quiet _ rfl rfl (QO.bin rfl rfl rfl rfl) ?_
       refine Ops_nil ?_
       refine thenA_n ?_
       refine wpA_seq ?_
       refine wpA_cond rfl (fun g3 => ?_) (fun g3 => ?_)
       ·replace ho2 := cond_t ho2 g3
        refine wpA_skip ?_
        refine thenA_n ?_
        refine wpA_seq ?_
        refine wpA_block ?_
        refine wpA_seq ?_
        refine wpA_region ?_
        refine Ops_quiet _ rfl rfl (QO.move rfl rfl) ?_
        have hq := chk ho2; clear ho2; obtain ⟨ck3, ho2⟩ := hq
        refine Ops_quiet _ rfl rfl (QO.idxRd2 rfl sz29 sz2 rfl rfl (by omega) (by omega) hs3 (by simp [rowsC_length, rowsA_length, mpC_length, sqC_length, tbC_length, tabI_length, tabB_length, ints_length, plsC_length, trC_length, sqsC_length, strsC_length, boolsC_length, tbB_length, List.length_append, List.length_cons, List.length_nil, List.length_set, List.length_replicate, rep_length]) (by decide)) ?_
        refine Ops_quiet _ rfl rfl (QO.load rfl sz2 rfl rfl (by first | exact (RdS.rd (RdS.le hs3 (Le.under (Le.under (Le.refl _) hb1) hb2)) (by first | rfl | exact sqC_get (by omega) (by omega) | exact tbC_get (by omega) (by omega) | exact tbB_get (by omega) (by omega) | exact tabI_get01 (by omega) | exact tabB_get01 (by omega) | exact ints_get01 (by omega) | exact boolsC_get01 (by omega) | exact tabI_get (by omega) | exact tabB_get (by omega) | exact ints_get1 (by omega) | exact strsC_get01 (by omega) | exact strsC_get1 (by omega) | exact plsC_get (by omega) (by omega) | exact trC_a (by omega) | exact trC_b (by omega) | exact trC_c (by omega) | exact sqsC_ord (by omega) | exact sqsC_get (by omega) (by omega) (by omega))) | exact (RdS.rd2 (RdS.le hs3 (Le.under (Le.under (Le.refl _) hb1) hb2)) (by first | rfl | exact sqC_get (by omega) (by omega) | exact tbC_get (by omega) (by omega) | exact tbB_get (by omega) (by omega) | exact tabI_get01 (by omega) | exact tabB_get01 (by omega) | exact ints_get01 (by omega) | exact boolsC_get01 (by omega) | exact tabI_get (by omega) | exact tabB_get (by omega) | exact ints_get1 (by omega) | exact strsC_get01 (by omega) | exact strsC_get1 (by omega) | exact plsC_get (by omega) (by omega) | exact trC_a (by omega) | exact trC_b (by omega) | exact trC_c (by omega) | exact sqsC_ord (by omega) | exact sqsC_get (by omega) (by omega) (by omega))) | exact (RdS.rd3 (RdS.le hs3 (Le.under (Le.under (Le.refl _) hb1) hb2)) (by first | rfl | exact sqC_get (by omega) (by omega) | exact tbC_get (by omega) (by omega) | exact tbB_get (by omega) (by omega) | exact tabI_get01 (by omega) | exact tabB_get01 (by omega) | exact ints_get01 (by omega) | exact boolsC_get01 (by omega) | exact tabI_get (by omega) | exact tabB_get (by omega) | exact ints_get1 (by omega) | exact strsC_get01 (by omega) | exact strsC_get1 (by omega) | exact plsC_get (by omega) (by omega) | exact trC_a (by omega) | exact trC_b (by omega) | exact trC_c (by omega) | exact sqsC_ord (by omega) | exact sqsC_get (by omega) (by omega) (by omega))))) ?_
        refine Ops_quiet _ rfl rfl (QO.assign rfl rfl) ?_
        refine Ops_quiet _ rfl rfl (QO.assign rfl rfl) ?_
        refine Ops_nil ?_
        refine thenA_n ?_
        refine wpA_seq ?_
        refine wpA_region ?_
        refine Ops_quiet _ rfl rfl (QO.move rfl rfl) ?_
        refine Ops_quiet _ rfl rfl (QO.move rfl rfl) ?_
        refine Ops_quiet _ rfl rfl (QO.fieldAt (fo := 1) rfl sz28 rfl rfl sz26 rfl rfl) ?_
        have hq := chk ho2; clear ho2; obtain ⟨ck4, ho2⟩ := hq
        refine Ops_quiet _ rfl rfl (QO.idxArr rfl sz26 sz24 rfl rfl (by omega) (by omega)) ?_
        have hq := chk ho2; clear ho2; obtain ⟨ck5, ho2⟩ := hq
        refine Ops_quiet _ rfl rfl (QO.idxArr rfl sz24 sz5 rfl rfl (by omega) (by omega)) ?_
        refine Ops_quiet _ rfl rfl (QO.load rfl sz5 rfl rfl (by (refine (rd_own ((upd_ne _ _ n_b2_b1.ne.symm).trans (upd_same _ _ _)) _).trans ?_); exact sqC_get (by omega) (by omega))) ?_
        refine Ops_quiet _ rfl rfl (QO.assign rfl rfl) ?_
        refine Ops_nil ?_
        refine thenA_n ?_
        refine wpA_region ?_
        refine Ops_quiet _ rfl rfl (QO.move rfl rfl) ?_
        refine Ops_quiet _ rfl rfl (QO.move rfl rfl) ?_
        refine Ops_quiet _ rfl rfl (QO.move rfl rfl) ?_
        refine Ops_quiet _ rfl rfl (QO.move rfl rfl) ?_
        have hq := chk ho2; clear ho2; obtain ⟨ck6, ho2⟩ := hq
        refine Ops_quiet _ rfl rfl (QO.idxSl rfl sz29 sz2 rfl rfl (by omega) (by omega)) ?_
        refine Ops_quiet _ rfl rfl (QO.load rfl sz2 rfl rfl (by (refine (rd_own (upd_same _ _ _) _).trans ?_); exact ints_get01 (by first | omega | (simp only [List.length_cons, List.length_nil]; omega)))) ?_
        refine Ops_quiet _ rfl rfl (QO.move rfl rfl) ?_
        refine Ops_quiet _ rfl rfl (QO.move rfl rfl) ?_
        refine Ops_quiet _ rfl rfl (QO.bin rfl rfl rfl rfl) ?_
        refine Ops_quiet _ rfl rfl (QO.bin rfl rfl rfl rfl) ?_
        refine Ops_quiet _ rfl rfl (QO.move rfl rfl) ?_
        have hq := chk ho2; clear ho2; obtain ⟨ck7, ho2⟩ := hq
        refine Ops_quiet _ rfl rfl (QO.rem rfl rfl rfl (by first | assumption | omega)) ?_
        have hq := chk ho2; clear ho2; obtain ⟨ck8, ho2⟩ := hq
        refine Ops_quiet _ rfl rfl (QO.idxSl rfl sz29 sz2 rfl rfl (by omega) (by omega)) ?_
        refine Ops_loud rfl (LO.store' (xs' := ints .i64 (x4.set ((a0.t (x1).toNat (x3).toNat)).toNat ((IntKind.i64.wrap ((x4.getD ((a0.t (x1).toNat (x3).toNat)).toNat 0) + (IntKind.i64.wrap ((l2.getD (x1).toNat 0) * (l3.getD (x3).toNat 0))))).tmod a1))) rfl sz2 rfl rfl rfl (upd_same _ _ _) (by first | ((try simp only [rowsC_length, rowsA_length, mpC_length, sqC_length, tbC_length, tabI_length, tabB_length, ints_length, plsC_length, trC_length, sqsC_length, strsC_length, boolsC_length, tbB_length, List.length_append, List.length_cons, List.length_nil, List.length_set, List.length_replicate, rep_length]); first | omega | decide) | exact Nat.le_of_ble_eq_true rfl) ints_set01 Chg.here rfl ?_)
        refine Ops_nil ?_
        refine blockA_n ?_
        refine thenA_n ?_
        refine wpA_region ?_
        refine Ops_quiet _ rfl rfl (QO.bin rfl rfl rfl rfl) ?_
        refine Ops_quiet _ rfl rfl (QO.move rfl rfl) ?_
        refine Ops_nil ?_
        obtain rfl := Option.some.inj ho2
        dsimp only at hk2
        exact thenA_n ⟨k2, Nat.lt_succ_self _, _, _, hk2, (by first | assumption | (simp only [List.length_set, List.length_replicate, List.length_cons, List.length_nil]; first | assumption | done | omega) | (simp; done)), (Sub.cons rfl (Sub.cons rfl (Sub.cons rfl (Sub.cons rfl (Sub.cons rfl (Sub.cons rfl (Sub.cons rfl (Sub.cons rfl (Sub.cons rfl (Sub.cons rfl (Sub.cons rfl (Sub.cons rfl Sub.nil)))))))))))), (Le.upd_left (Le.upd_left (Le.under (Le.under (Le.refl _) hb1) hb2) ((upd_ne _ _ n_b2_b1.ne.symm).trans (upd_same _ _ _)) (by first | rfl | (simp; done))) (upd_same _ _ _) (by first | rfl | (simp; done)))⟩
       ·replace ho2 := cond_f ho2 g3
        refine wpA_exit ?_
        refine thenA_e ?_
        refine thenA_e ?_
        obtain rfl := Option.some.inj ho2
        obtain rfl := Option.some.inj hk2
        exact ⟨rfl, _, _, rfl, (by first | assumption | (simp only [List.length_set, List.length_replicate, List.length_cons, List.length_nil]; first | assumption | done | omega) | (simp; done)), (Sub.cons rfl (Sub.cons rfl (Sub.cons rfl (Sub.cons rfl (Sub.cons rfl (Sub.cons rfl (Sub.cons rfl (Sub.cons rfl (Sub.cons rfl (Sub.cons rfl (Sub.cons rfl (Sub.cons rfl Sub.nil)))))))))))), (Le.upd_left (Le.upd_left (Le.under (Le.under (Le.refl _) hb1) hb2) ((upd_ne _ _ n_b2_b1.ne.symm).trans (upd_same _ _ _)) (by first | rfl | (simp; done))) (upd_same _ _ _) (by first | rfl | (simp; done)))⟩
     ·intro e s' h' hq
      cases R2 with
      | next x => exact hq.elim
      | ret r => exact hq.elim
      | stop x id =>
       obtain ⟨rfl, x5, x6, rfl, hl_x6, hsub1, hle1⟩ := hq
       try dsimp only at ho1
       by_cases hid1 : id = 2
       ·subst hid1
        rw [if_pos rfl] at ho1
        refine blockA_s ?_
        refine blockA_n ?_
        refine thenA_n ?_
        refine wpA_weaken hsub1.ok hle1 ?_
        refine wpA_region ?_
        refine Ops_quiet _ rfl rfl (QO.bin rfl rfl rfl rfl) ?_
        refine Ops_quiet _ rfl rfl (QO.move rfl rfl) ?_
        refine Ops_nil ?_
        obtain rfl := Option.some.inj ho1
        dsimp only at hk1
        exact thenA_n ⟨k1, Nat.lt_succ_self _, _, _, hk1, (by first | assumption | (simp only [List.length_set, List.length_replicate, List.length_cons, List.length_nil]; first | assumption | done | omega) | (simp; done)), (Sub.cons rfl (Sub.cons rfl (Sub.cons rfl (Sub.cons rfl (Sub.cons rfl (Sub.cons rfl (Sub.cons rfl Sub.nil))))))), (Le.upd_left (Le.upd_left (Le.under (Le.under (Le.refl _) hb1) hb2) ((upd_ne _ _ n_b2_b1.ne.symm).trans (upd_same _ _ _)) (by first | rfl | (simp; done))) (upd_same _ _ _) (by first | rfl | (simp; done)))⟩
       rw [if_neg hid1] at ho1
       exact absurd ho1 (by simp)
   ·replace ho1 := cond_f ho1 g1
    refine wpA_exit ?_
    refine thenA_e ?_
    refine thenA_e ?_
    obtain rfl := Option.some.inj ho1
    obtain rfl := Option.some.inj hk1
    exact ⟨rfl, _, _, rfl, (by first | assumption | (simp only [List.length_set, List.length_replicate, List.length_cons, List.length_nil]; first | assumption | done | omega) | (simp; done)), (Sub.cons rfl (Sub.cons rfl (Sub.cons rfl (Sub.cons rfl (Sub.cons rfl (Sub.cons rfl (Sub.cons rfl Sub.nil))))))), (Le.upd_left (Le.upd_left (Le.under (Le.under (Le.refl _) hb1) hb2) ((upd_ne _ _ n_b2_b1.ne.symm).trans (upd_same _ _ _)) (by first | rfl | (simp; done))) (upd_same _ _ _) (by first | rfl | (simp; done)))⟩
 ·intro e s' h' hq
  cases R1 with
  | next x => exact hq.elim
  | ret r => exact hq.elim
  | stop x id =>
   obtain ⟨rfl, x7, x8, rfl, hl_x8, hsub2, hle2⟩ := hq
   try dsimp only at hm
   by_cases hid2 : id = 0
   ·subst hid2
    rw [if_pos rfl] at hm
    refine blockA_s ?_
    refine thenA_n ?_
    refine wpA_weaken hsub2.ok hle2 ?_
    refine wpA_seq ?_
    refine wpA_region ?_
    refine Ops_quiet _ rfl rfl (QO.move rfl rfl) ?_
    refine Ops_quiet _ rfl rfl (QO.assign rfl rfl) ?_
    refine Ops_nil ?_
    refine thenA_n ?_
    refine wpA_ret ?_
    obtain rfl := Option.some.inj hm
    exact retA_r (h2 := upd h b2 (.own 2 (ints .i64 x8) ((a0.order).toNat * 1))) (Res.one rfl (rfl)) (Le.upd_left (Le.under (Le.under (Le.refl _) hb1) hb2) (upd_same _ _ _) (by first | rfl | (simp; done))) ⟨b2, (a0.order).toNat, (by first | rfl | (simp [*]; done)), (by assumption), (by first | assumption | omega | (simp only [List.length_set, List.length_replicate]; first | done | assumption | omega)), (by first | assumption | (simp only [maxLen]; omega)), rfl⟩
   rw [if_neg hid2] at hm
   exact absurd hm (by simp)

/-! loop.example/g01195/impl.MultiplySums -/
theorem c_impl_MultiplySums {a0 : Sq} {a1 : Int} {l2 : (List Int)} {A2 : Option Addr} {c2 : Nat} {l3 : (List Int)} {A3 : Option Addr} {c3 : Nat} {h : Hp} {r : (List Int) × Int} (hm : m_impl_MultiplySums a0 a1 l2 l3 = some r) (hs2 : RdS h A2 (ints .i64 l2)) (hs3 : RdS h A3 (ints .i64 l3)) :
    CC Try.prog 6 #[.agg (sqC a0).toArray, .int .i64 a1, .slice A2 l2.length c2, .slice A3 l3.length c3] (h) (fun v h' => ∃ (b0 : Option Nat) (cap0 : Nat), FrO (h) b0 ∧ OkO b0 r.1.length cap0 ∧ v = .tuple #[.slice (adO b0) r.1.length cap0, .int .i64 r.2] ∧ h' = updO (h) b0 (.own 2 (ints .i64 r.1) (cap0 * 1))) := by
 unfold m_impl_MultiplySums at hm
 refine CC.enter Try.func6 rfl Try.ntmps6 rfl ?_
 refine wpA_seq ?_
 refine wpA_region ?_
 refine Ops_loud rfl (LO.boxAgg rfl rfl rfl (fun b1 hb1 => ?_))
 refine Ops_quiet _ rfl rfl (QO.assign rfl rfl) ?_
 refine Ops_quiet _ rfl rfl (QO.assign rfl rfl) ?_
 refine Ops_nil ?_
 refine thenA_n ?_
 refine wpA_seq ?_
 refine wpA_seq ?_
 refine wpA_region ?_
 refine Ops_quiet _ rfl rfl (QO.loadRow (cs := sqC a0) (hr := (rdAll (upd_same _ _ _))) rfl sz28 rfl rfl (sqC_length _)) ?_
 refine Ops_quiet _ rfl rfl (QO.move rfl rfl) ?_
 refine Ops_quiet _ rfl rfl (QO.move rfl rfl) ?_
 refine Ops_quiet _ rfl rfl (QO.move rfl rfl) ?_
 refine Ops_loud rfl (LO.slice' [(0, .slice A2 l2.length c2), (1, .slice A3 l3.length c3)] (r := [.slice A2 l2.length c2, .slice A3 l3.length c3]) rfl sz61 sz29 zr29 rfl (by decide) (by decide) (by decide) rfl rfl rfl rfl (fun b2 hb2 => ?_))
 simp only [upd_noneA] at hb2
 obtain ⟨n_b2_b1, hb2⟩ := hb2
 have hq := Option.bind_eq_some_iff.1 hm; clear hm; obtain ⟨r1, hr1, hm⟩ := hq
 refine Ops_call _ _ rfl rfl (EO.fn rfl Try.func19 rfl rfl (Evs.cons rfl (Evs.cons rfl (Evs.cons rfl Evs.nil)))) (QC.cc (c_impl_ringCode (l2 := [l2, l3]) (A2 := some ⟨b2, 0, none⟩) (c2 := 2) (ga2 := [(A2, c2), (A3, c3)]) hr1 (RdSS.two (upd_same _ _ _) (RdS.le hs2 (Le.under (Le.under (Le.refl _) hb1) hb2)) (RdS.le hs3 (Le.under (Le.under (Le.refl _) hb1) hb2)))) ?_)
 refine Ops_quiet _ rfl rfl (QO.assign rfl rfl) ?_
 refine Ops_nil ?_
 refine thenA_n ?_
 refine wpA_seq ?_
 refine wpA_region ?_
 refine Ops_quiet _ rfl rfl (QO.move rfl rfl) ?_
 refine Ops_quiet _ rfl rfl (QO.bin rfl rfl rfl rfl) ?_
 refine Ops_nil ?_
 refine thenA_n ?_
 refine wpA_cond rfl (fun g1 => ?_) (fun g1 => ?_)
 ·replace hm := cond_t hm g1
  refine wpA_seq ?_
  refine wpA_region ?_
  refine Ops_quiet _ rfl rfl (QO.move rfl rfl) ?_
  refine Ops_quiet _ rfl rfl (QO.assign rfl rfl) ?_
  refine Ops_quiet _ rfl rfl (QO.assign rfl rfl) ?_
  refine Ops_nil ?_
  refine thenA_n ?_
  refine wpA_ret ?_
  refine thenA_r ?_
  obtain rfl := Option.some.inj hm
  exact retA_r (h2 := h) (Res.two rfl (rfl) (rfl)) (Le.under (Le.under (Le.refl _) hb1) hb2) ⟨none, 0, frO_none, OkO.none, rfl, rfl⟩
 ·replace hm := cond_f hm g1
  refine wpA_skip ?_
  refine thenA_n ?_
  refine wpA_seq ?_
  refine wpA_region ?_
  refine Ops_quiet _ rfl rfl (QO.loadRow (cs := sqC a0) (hr := (rdAll ((upd_ne _ _ n_b2_b1.ne.symm).trans (upd_same _ _ _)))) rfl sz28 rfl rfl (sqC_length _)) ?_
  refine Ops_quiet _ rfl rfl (QO.move rfl rfl) ?_
  refine Ops_quiet _ rfl rfl (QO.move rfl rfl) ?_
  refine Ops_quiet _ rfl rfl (QO.move rfl rfl) ?_
  have hq := Option.bind_eq_some_iff.1 hm; clear hm; obtain ⟨r2, hr2, hm⟩ := hq
  refine Ops_call _ _ rfl rfl (EO.fn rfl Try.func20 rfl rfl (Evs.cons rfl (Evs.cons rfl (Evs.cons rfl (Evs.cons rfl Evs.nil))))) (CC.mono (c_impl_Square_times (l2 := l2) (A2 := A2) (c2 := c2) (l3 := l3) (A3 := A3) (c3 := c3) hr2 (RdS.le hs2 (Le.under (Le.under (Le.refl _) hb1) hb2)) (RdS.le hs3 (Le.under (Le.under (Le.refl _) hb1) hb2))) ?_)
  rintro _ _ ⟨b3, cap_b3, rfl, hb3, hk_b3, hc_b3, rfl⟩
  simp only [upd_noneA] at hb3
  obtain ⟨n_b3_b2, n_b3_b1, hb3⟩ := hb3
  refine Ops_quiet _ rfl rfl (QO.assign rfl rfl) ?_
  refine Ops_quiet _ rfl rfl (QO.assign rfl rfl) ?_
  refine Ops_nil ?_
  refine thenA_n ?_
  refine wpA_ret ?_
  obtain rfl := Option.some.inj hm
  exact retA_r (h2 := upd (h) b3 (.own 2 (ints .i64 r2) (cap_b3 * 1))) (Res.two rfl (rfl) (rfl)) (Le.upd_left (Le.under (Le.under (Le.under (Le.refl _) hb1) hb2) hb3) (upd_same _ _ _) (by first | rfl | (simp; done))) ⟨(some b3), cap_b3, (frO_some hb3), (OkO.some (by first | assumption | omega | (simp only [List.length_set, List.length_replicate]; first | done | assumption | omega)) (by first | assumption | (simp only [maxLen]; omega))), rfl, rfl⟩

/-! loop.example/g01195/spec.l01Loop -/
theorem c_spec_l01Loop {a0 : Sq} {h : Hp} {r : Bool} (hm : m_spec_l01Loop a0 = some r)  :
    QC Try.prog 38 #[.agg (sqC a0).toArray] h (.bool r) := by
 unfold m_spec_l01Loop at hm
 refine CC.enter Try.func38 rfl Try.ntmps38 rfl ?_
 refine wpA_seq ?_
 refine wpA_region ?_
 refine Ops_loud rfl (LO.boxAgg rfl rfl rfl (fun b1 hb1 => ?_))
 refine Ops_quiet _ rfl rfl (QO.assign rfl rfl) ?_
 refine Ops_nil ?_
 refine thenA_n ?_
 refine wpA_seq ?_
 refine wpA_seq ?_
 refine wpA_region ?_
 refine Ops_quiet _ rfl rfl (QO.loadRow (cs := sqC a0) (hr := (rdAll (upd_same _ _ _))) rfl sz28 rfl rfl (sqC_length _)) ?_
 have hq := Option.bind_eq_some_iff.1 hm; clear hm; obtain ⟨r1, hr1, hm⟩ := hq
 refine Ops_call _ _ rfl rfl (EO.fn rfl Try.func45 rfl rfl (Evs.cons rfl Evs.nil)) (QC.cc (c_spec_l01Is hr1 ) ?_)
 refine Ops_quiet _ rfl rfl (QO.not rfl rfl) ?_
 refine Ops_nil ?_
 refine thenA_n ?_
 refine wpA_cond rfl (fun g1 => ?_) (fun g1 => ?_)
 ·replace hm := cond_t hm g1
  refine wpA_seq ?_
  refine wpA_region ?_
  refine Ops_quiet _ rfl rfl (QO.assign rfl rfl) ?_
  refine Ops_nil ?_
  refine thenA_n ?_
  refine wpA_ret ?_
  refine thenA_r ?_
  obtain rfl := Option.some.inj hm
  exact retA_r (h2 := h) (Res.one rfl (rfl)) (Le.under (Le.refl _) hb1) ⟨rfl, rfl⟩
 ·replace hm := cond_f hm g1
  refine wpA_skip ?_
  refine thenA_n ?_
  refine wpA_seq ?_
  refine wpA_seq ?_
  refine wpA_region ?_
  refine Ops_quiet _ rfl rfl (QO.assign rfl rfl) ?_
  refine Ops_nil ?_
  refine thenA_n ?_
  refine wpA_block ?_
  obtain ⟨R1, hR, hm⟩ := Option.bind_eq_some_iff.1 hm
  obtain ⟨k1, hk1⟩ := loopV_some hR
  clear hR
  refine wpA_mono (Q := fun e s' h' => match (generalizing := false) R1 with | .stop x id => e = .exit id ∧ ∃ (x1 : Int), x1 = x ∧ Sub s' [(1, .pointer (some ⟨b1, 0, none⟩)), (3, .int .i64 x1)] ∧ Le (upd (h) b1 (.own 28 (sqC a0) 101)) h' | .ret r => e = .ret ∧ Sub s' [(2, .bool r)] ∧ Le (h) h' | .next _ => False) ?_ ?_
  ·refine wpA_loop (fun k s' h' => ∃ (x1 : Int), loopW (m_spec_l01Loop_l0 a0) k x1 = some R1 ∧ Sub s' [(1, .pointer (some ⟨b1, 0, none⟩)), (3, .int .i64 x1)] ∧ Le (upd (h) b1 (.own 28 (sqC a0) 101)) h') (m := k1) ⟨0, hk1, (Sub.cons rfl (Sub.cons rfl Sub.nil)), (Le.upd_left (Le.under (Le.refl _) hb1) (upd_same _ _ _) (by first | rfl | (simp; done)))⟩ ?_
   rintro k1 s' h' ⟨x1, hk1, hsub, hle⟩
   refine wpA_weaken hsub.ok hle ?_
   clear hsub hle s' h'
   cases k1 with
   | zero => exact absurd hk1 (by simp [loopW])
   | succ k1 =>
    obtain ⟨o1, ho1, hk1⟩ := loopW_succ hk1
    unfold m_spec_l01Loop_l0 at ho1
    try dsimp only at ho1
    refine wpA_seq ?_
    refine wpA_seq ?_
    refine wpA_region ?_
    refine Ops_quiet _ rfl rfl (QO.move rfl rfl) ?_
    refine Ops_quiet _ rfl rfl (QO.fieldAt (fo := 0) rfl sz28 rfl rfl sz2 rfl rfl) ?_
    refine Ops_quiet _ rfl rfl (QO.load rfl sz2 rfl rfl (by (refine (rd_own (upd_same _ _ _) _).trans ?_); exact rfl)) ?_
    refine Ops_quiet _ rfl rfl (QO.bin rfl rfl rfl rfl) ?_
    refine Ops_nil ?_
    refine thenA_n ?_
    refine wpA_cond rfl (fun g2 => ?_) (fun g2 => ?_)
    ·replace ho1 := cond_t ho1 g2
     refine wpA_skip ?_
     refine thenA_n ?_
     refine wpA_seq ?_
     refine wpA_block ?_
     refine wpA_seq ?_
     refine wpA_region ?_
     refine Ops_quiet _ rfl rfl (QO.move rfl rfl) ?_
     refine Ops_quiet _ rfl rfl (QO.fieldAt (fo := 1) rfl sz28 rfl rfl sz26 rfl rfl) ?_
     refine Ops_quiet _ rfl rfl (QO.idxArr rfl sz26 sz24 rfl rfl (by decide) (by decide)) ?_
     have hq := chk ho1; clear ho1; obtain ⟨ck1, ho1⟩ := hq
     refine Ops_quiet _ rfl rfl (QO.idxArr rfl sz24 sz5 rfl rfl (by omega) (by omega)) ?_
     refine Ops_quiet _ rfl rfl (QO.load rfl sz5 rfl rfl (by (refine (rd_own (upd_same _ _ _) _).trans ?_); exact sqC_get (by omega) (by omega))) ?_
     refine Ops_quiet _ rfl rfl (QO.move rfl rfl) ?_
     refine Ops_quiet _ rfl rfl (QO.conv rfl sz2 sz5 rfl) ?_
     refine Ops_quiet _ rfl rfl (QO.bin rfl rfl rfl rfl) ?_
     refine Ops_quiet _ rfl rfl (QO.move rfl rfl) ?_
     refine Ops_case 21 rfl (fun g3 => ?_) (fun g3 => ?_)
     ·replace ho1 := cond_t ho1 g3
      refine Ops_skip rfl rfl ?_
      refine Ops_skip rfl rfl ?_
      refine Ops_skip rfl rfl ?_
      refine Ops_skip rfl rfl ?_
      refine Ops_skip rfl rfl ?_
      refine Ops_skip rfl rfl ?_
      refine Ops_skip rfl rfl ?_
      refine Ops_skip rfl rfl ?_
      refine Ops_quiet _ rfl rfl (QO.pick_t rfl rfl rfl) ?_
      refine Ops_nil ?_
      refine thenA_n ?_
      refine wpA_cond_t rfl ?_
      refine wpA_seq ?_
      refine wpA_region ?_
      refine Ops_quiet _ rfl rfl (QO.assign rfl rfl) ?_
      refine Ops_nil ?_
      refine thenA_n ?_
      refine wpA_ret ?_
      refine blockA_r ?_
      refine thenA_r ?_
      refine thenA_r ?_
      obtain rfl := Option.some.inj ho1
      obtain rfl := Option.some.inj hk1
      exact ⟨rfl, (Sub.cons rfl Sub.nil), (Le.under (Le.refl _) hb1)⟩
     ·replace ho1 := cond_f ho1 g3
      refine Ops_quiet _ rfl rfl (QO.move rfl rfl) ?_
      refine Ops_quiet _ rfl rfl (QO.fieldAt (fo := 1) rfl sz28 rfl rfl sz26 rfl rfl) ?_
      have hq := chk ho1; clear ho1; obtain ⟨ck2, ho1⟩ := hq
      refine Ops_quiet _ rfl rfl (QO.idxArr rfl sz26 sz24 rfl rfl (by omega) (by omega)) ?_
      refine Ops_quiet _ rfl rfl (QO.idxArr rfl sz24 sz5 rfl rfl (by decide) (by decide)) ?_
      refine Ops_quiet _ rfl rfl (QO.load rfl sz5 rfl rfl (by (refine (rd_own (upd_same _ _ _) _).trans ?_); exact sqC_get (by omega) (by omega))) ?_
      refine Ops_quiet _ rfl rfl (QO.move rfl rfl) ?_
      refine Ops_quiet _ rfl rfl (QO.conv rfl sz2 sz5 rfl) ?_
      refine Ops_quiet _ rfl rfl (QO.bin rfl rfl rfl rfl) ?_
      refine Ops_quiet _ rfl rfl (QO.pick_f rfl rfl rfl) ?_
      refine Ops_nil ?_
      refine thenA_n ?_
      refine wpA_cond rfl (fun g4 => ?_) (fun g4 => ?_)
      ·replace ho1 := cond_t ho1 g4
       refine wpA_seq ?_
       refine wpA_region ?_
       refine Ops_quiet _ rfl rfl (QO.assign rfl rfl) ?_
       refine Ops_nil ?_
       refine thenA_n ?_
       refine wpA_ret ?_
       refine blockA_r ?_
       refine thenA_r ?_
       refine thenA_r ?_
       obtain rfl := Option.some.inj ho1
       obtain rfl := Option.some.inj hk1
       exact ⟨rfl, (Sub.cons rfl Sub.nil), (Le.under (Le.refl _) hb1)⟩
      ·replace ho1 := cond_f ho1 g4
       refine wpA_skip ?_
       refine blockA_n ?_
       refine thenA_n ?_
       refine wpA_region ?_
       refine Ops_quiet _ rfl rfl (QO.move rfl rfl) ?_
       refine Ops_quiet _ rfl rfl (QO.bin rfl rfl rfl rfl) ?_
       refine Ops_quiet _ rfl rfl (QO.assign rfl rfl) ?_
       refine Ops_nil ?_
       obtain rfl := Option.some.inj ho1
       dsimp only at hk1
       exact thenA_n ⟨k1, Nat.lt_succ_self _, _, hk1, (Sub.cons rfl (Sub.cons rfl Sub.nil)), (Le.upd_left (Le.under (Le.refl _) hb1) (upd_same _ _ _) (by first | rfl | (simp; done)))⟩
    ·replace ho1 := cond_f ho1 g2
     refine wpA_exit ?_
     refine thenA_e ?_
     refine thenA_e ?_
     obtain rfl := Option.some.inj ho1
     obtain rfl := Option.some.inj hk1
     exact ⟨rfl, _, rfl, (Sub.cons rfl (Sub.cons rfl Sub.nil)), (Le.upd_left (Le.under (Le.refl _) hb1) (upd_same _ _ _) (by first | rfl | (simp; done)))⟩
  ·intro e s' h' hq
   cases R1 with
   | next x => exact hq.elim
   | ret r =>
    obtain ⟨rfl, hsub1, hle1⟩ := hq
    try dsimp only at hm
    refine blockA_r ?_
    refine thenA_r ?_
    obtain rfl := Option.some.inj hm
    refine retA_sub hsub1.ok hle1 ?_
    exact retA_r (h2 := h) (Res.one rfl (rfl)) (Le.refl _) ⟨rfl, rfl⟩
   | stop x id =>
    obtain ⟨rfl, x2, rfl, hsub2, hle2⟩ := hq
    try dsimp only at hm
    by_cases hid1 : id = 0
    ·subst hid1
     rw [if_pos rfl] at hm
     refine blockA_s ?_
     refine thenA_n ?_
     refine wpA_weaken hsub2.ok hle2 ?_
     refine wpA_seq ?_
     refine wpA_region ?_
     refine Ops_quiet _ rfl rfl (QO.assign rfl rfl) ?_
     refine Ops_nil ?_
     refine thenA_n ?_
     refine wpA_ret ?_
     obtain rfl := Option.some.inj hm
     exact retA_r (h2 := h) (Res.one rfl (rfl)) (Le.under (Le.refl _) hb1) ⟨rfl, rfl⟩
    rw [if_neg hid1] at hm
    exact absurd hm (by simp)

/-! loop.example/g01195/spec.l10Prime -/
theorem c_spec_l10Prime {a0 : Int} {h : Hp} {r : Bool} (hm : m_spec_l10Prime a0 = some r)  :
    QC Try.prog 39 #[.int .i64 a0] h (.bool r) := by
 unfold m_spec_l10Prime at hm
 refine CC.enter Try.func39 rfl Try.ntmps39 rfl ?_
 refine wpA_seq ?_
 refine wpA_region ?_
 refine Ops_quiet _ rfl rfl (QO.assign rfl rfl) ?_
 refine Ops_nil ?_
 refine thenA_n ?_
 refine wpA_seq ?_
 refine wpA_region ?_
 refine Ops_quiet _ rfl rfl (QO.move rfl rfl) ?_
 refine Ops_quiet _ rfl rfl (QO.bin rfl rfl rfl rfl) ?_
 refine Ops_quiet _ rfl rfl (QO.move rfl rfl) ?_
 refine Ops_case 5 rfl (fun g1 => ?_) (fun g1 => ?_)
 ·replace hm := cond_t hm g1
  refine Ops_skip rfl rfl ?_
  refine Ops_skip rfl rfl ?_
  refine Ops_quiet _ rfl rfl (QO.pick_t rfl rfl rfl) ?_
  refine Ops_quiet _ rfl rfl (QO.move rfl rfl) ?_
  refine Ops_skip rfl rfl ?_
  refine Ops_skip rfl rfl ?_
  refine Ops_quiet _ rfl rfl (QO.pick_t rfl rfl rfl) ?_
  refine Ops_quiet _ rfl rfl (QO.move rfl rfl) ?_
  refine Ops_skip rfl rfl ?_
  refine Ops_skip rfl rfl ?_
  refine Ops_quiet _ rfl rfl (QO.pick_t rfl rfl rfl) ?_
  refine Ops_quiet _ rfl rfl (QO.assign rfl rfl) ?_
  refine Ops_nil ?_
  refine thenA_n ?_
  refine wpA_ret ?_
  obtain rfl := Option.some.inj hm
  exact retA_r (h2 := h) (Res.one rfl (rfl)) (Le.refl _) ⟨rfl, rfl⟩
 ·replace hm := cond_f hm g1
  refine Ops_quiet _ rfl rfl (QO.move rfl rfl) ?_
  refine Ops_quiet _ rfl rfl (QO.bin rfl rfl rfl rfl) ?_
  refine Ops_quiet _ rfl rfl (QO.pick_f rfl rfl rfl) ?_
  refine Ops_quiet _ rfl rfl (QO.move rfl rfl) ?_
  refine Ops_case 9 rfl (fun g2 => ?_) (fun g2 => ?_)
  ·replace hm := cond_t hm g2
   refine Ops_skip rfl rfl ?_
   refine Ops_skip rfl rfl ?_
   refine Ops_quiet _ rfl rfl (QO.pick_t rfl rfl rfl) ?_
   refine Ops_quiet _ rfl rfl (QO.move rfl rfl) ?_
   refine Ops_skip rfl rfl ?_
   refine Ops_skip rfl rfl ?_
   refine Ops_quiet _ rfl rfl (QO.pick_t rfl rfl rfl) ?_
   refine Ops_quiet _ rfl rfl (QO.assign rfl rfl) ?_
   refine Ops_nil ?_
   refine thenA_n ?_
   refine wpA_ret ?_
   obtain rfl := Option.some.inj hm
   exact retA_r (h2 := h) (Res.one rfl (rfl)) (Le.refl _) ⟨rfl, rfl⟩
  ·replace hm := cond_f hm g2
   refine Ops_quiet _ rfl rfl (QO.move rfl rfl) ?_
   refine Ops_quiet _ rfl rfl (QO.bin rfl rfl rfl rfl) ?_
   refine Ops_quiet _ rfl rfl (QO.pick_f rfl rfl rfl) ?_
   refine Ops_quiet _ rfl rfl (QO.move rfl rfl) ?_
   refine Ops_case 13 rfl (fun g3 => ?_) (fun g3 => ?_)
   ·replace hm := cond_t hm g3
    refine Ops_skip rfl rfl ?_
    refine Ops_skip rfl rfl ?_
    refine Ops_quiet _ rfl rfl (QO.pick_t rfl rfl rfl) ?_
    refine Ops_quiet _ rfl rfl (QO.assign rfl rfl) ?_
    refine Ops_nil ?_
    refine thenA_n ?_
    refine wpA_ret ?_
    obtain rfl := Option.some.inj hm
    exact retA_r (h2 := h) (Res.one rfl (rfl)) (Le.refl _) ⟨rfl, rfl⟩
   ·replace hm := cond_f hm g3
    refine Ops_quiet _ rfl rfl (QO.move rfl rfl) ?_
    refine Ops_quiet _ rfl rfl (QO.bin rfl rfl rfl rfl) ?_
    refine Ops_quiet _ rfl rfl (QO.pick_f rfl rfl rfl) ?_
    refine Ops_quiet _ rfl rfl (QO.assign rfl rfl) ?_
    refine Ops_nil ?_
    refine thenA_n ?_
    refine wpA_ret ?_
    obtain rfl := Option.some.inj hm
    exact retA_r (h2 := h) (Res.one rfl (rfl)) (Le.refl _) ⟨rfl, rfl⟩

/-! loop.example/g01195/spec.l10Is -/
theorem c_spec_l10Is {a0 : Int} {a1 : Int} {l2 : (List Int)} {A2 : Option Addr} {c2 : Nat} {h : Hp} {r : Bool} (hm : m_spec_l10Is a0 a1 l2 = some r) (hs2 : RdS h A2 (ints .i64 l2)) :
    QC Try.prog 40 #[.int .i64 a0, .int .i64 a1, .slice A2 l2.length c2] h (.bool r) := by
 unfold m_spec_l10Is at hm
 refine CC.enter Try.func40 rfl Try.ntmps40 rfl ?_
 refine wpA_seq ?_
 refine wpA_region ?_
 refine Ops_quiet _ rfl rfl (QO.assign rfl rfl) ?_
 refine Ops_nil ?_
 refine thenA_n ?_
 refine wpA_seq ?_
 refine wpA_seq ?_
 refine wpA_region ?_
 refine Ops_quiet _ rfl rfl (QO.assign rfl rfl) ?_
 refine Ops_nil ?_
 refine thenA_n ?_
 refine wpA_block ?_
 obtain ⟨R1, hR, hm⟩ := Option.bind_eq_some_iff.1 hm
 obtain ⟨k1, hk1⟩ := loopV_some hR
 clear hR
 refine wpA_mono (Q := fun e s' h' => match (generalizing := false) R1 with | .stop x id => e = .exit id ∧ ∃ (x1 : Int), x1 = x ∧ Sub s' [(0, .int .i64 a0), (1, .int .i64 a1), (2, .slice A2 l2.length c2), (7, .int .i64 x1)] ∧ Le (h) h' | .ret r => e = .ret ∧ Sub s' [(6, .bool r)] ∧ Le (h) h' | .next _ => False) ?_ ?_
 ·refine wpA_loop (fun k s' h' => ∃ (x1 : Int), loopW (m_spec_l10Is_l0 a1 l2) k x1 = some R1 ∧ Sub s' [(0, .int .i64 a0), (1, .int .i64 a1), (2, .slice A2 l2.length c2), (7, .int .i64 x1)] ∧ Le (h) h') (m := k1) ⟨0, hk1, (Sub.cons rfl (Sub.cons rfl (Sub.cons rfl (Sub.cons rfl Sub.nil)))), (Le.refl _)⟩ ?_
  rintro k1 s' h' ⟨x1, hk1, hsub, hle⟩
  refine wpA_weaken hsub.ok hle ?_
  clear hsub hle s' h'
  cases k1 with
  | zero => exact absurd hk1 (by simp [loopW])
  | succ k1 =>
   obtain ⟨o1, ho1, hk1⟩ := loopW_succ hk1
   unfold m_spec_l10Is_l0 at ho1
   try dsimp only at ho1
   refine wpA_seq ?_
   refine wpA_seq ?_
   refine wpA_region ?_
   refine Ops_quiet _ rfl rfl (QO.move rfl rfl) ?_
   refine Ops_quiet _ rfl rfl (QO.move rfl rfl) ?_
   refine Ops_quiet _ rfl rfl (QO.lenSl rfl sz29 rfl) ?_
   refine Ops_quiet _ rfl rfl (QO.bin rfl rfl rfl rfl) ?_
   refine Ops_nil ?_
   refine thenA_n ?_
   refine wpA_cond rfl (fun g1 => ?_) (fun g1 => ?_)
   ·replace ho1 := cond_t ho1 g1
    refine wpA_skip ?_
    refine thenA_n ?_
    refine wpA_seq ?_
    refine wpA_block ?_
    refine wpA_seq ?_
    refine wpA_region ?_
    refine Ops_quiet _ rfl rfl (QO.move rfl rfl) ?_
    refine Ops_quiet _ rfl rfl (QO.move rfl rfl) ?_
    have hq := chk ho1; clear ho1; obtain ⟨ck1, ho1⟩ := hq
    refine Ops_quiet _ rfl rfl (QO.idxRd2 rfl sz29 sz2 rfl rfl (by omega) (by omega) hs2 (by simp [rowsC_length, rowsA_length, mpC_length, sqC_length, tbC_length, tabI_length, tabB_length, ints_length, plsC_length, trC_length, sqsC_length, strsC_length, boolsC_length, tbB_length, List.length_append, List.length_cons, List.length_nil, List.length_set, List.length_replicate, rep_length]) (by decide)) ?_
    refine Ops_quiet _ rfl rfl (QO.load rfl sz2 rfl rfl (by first | exact (RdS.rd (RdS.le hs2 (Le.refl _)) (by first | rfl | exact sqC_get (by omega) (by omega) | exact tbC_get (by omega) (by omega) | exact tbB_get (by omega) (by omega) | exact tabI_get01 (by omega) | exact tabB_get01 (by omega) | exact ints_get01 (by omega) | exact boolsC_get01 (by omega) | exact tabI_get (by omega) | exact tabB_get (by omega) | exact ints_get1 (by omega) | exact strsC_get01 (by omega) | exact strsC_get1 (by omega) | exact plsC_get (by omega) (by omega) | exact trC_a (by omega) | exact trC_b (by omega) | exact trC_c (by omega) | exact sqsC_ord (by omega) | exact sqsC_get (by omega) (by omega) (by omega))) | exact (RdS.rd2 (RdS.le hs2 (Le.refl _)) (by first | rfl | exact sqC_get (by omega) (by omega) | exact tbC_get (by omega) (by omega) | exact tbB_get (by omega) (by omega) | exact tabI_get01 (by omega) | exact tabB_get01 (by omega) | exact ints_get01 (by omega) | exact boolsC_get01 (by omega) | exact tabI_get (by omega) | exact tabB_get (by omega) | exact ints_get1 (by omega) | exact strsC_get01 (by omega) | exact strsC_get1 (by omega) | exact plsC_get (by omega) (by omega) | exact trC_a (by omega) | exact trC_b (by omega) | exact trC_c (by omega) | exact sqsC_ord (by omega) | exact sqsC_get (by omega) (by omega) (by omega))) | exact (RdS.rd3 (RdS.le hs2 (Le.refl _)) (by first | rfl | exact sqC_get (by omega) (by omega) | exact tbC_get (by omega) (by omega) | exact tbB_get (by omega) (by omega) | exact tabI_get01 (by omega) | exact tabB_get01 (by omega) | exact ints_get01 (by omega) | exact boolsC_get01 (by omega) | exact tabI_get (by omega) | exact tabB_get (by omega) | exact ints_get1 (by omega) | exact strsC_get01 (by omega) | exact strsC_get1 (by omega) | exact plsC_get (by omega) (by omega) | exact trC_a (by omega) | exact trC_b (by omega) | exact trC_c (by omega) | exact sqsC_ord (by omega) | exact sqsC_get (by omega) (by omega) (by omega))))) ?_
    refine Ops_quiet _ rfl rfl (QO.move rfl rfl) ?_
    refine Ops_quiet _ rfl rfl (QO.bin rfl rfl rfl rfl) ?_
    have hq := Option.bind_eq_some_iff.1 ho1; clear ho1; obtain ⟨r1, hr1, ho1⟩ := hq
    refine Ops_call _ _ rfl rfl (EO.fn rfl Try.func30 rfl rfl (Evs.cons rfl (Evs.cons rfl (Evs.cons rfl Evs.nil)))) (QC.cc (c_spec_l01In hr1 ) ?_)
    refine Ops_quiet _ rfl rfl (QO.not rfl rfl) ?_
    refine Ops_nil ?_
    refine thenA_n ?_
    refine wpA_cond rfl (fun g2 => ?_) (fun g2 => ?_)
    ·replace ho1 := cond_t ho1 g2
     refine wpA_seq ?_
     refine wpA_region ?_
     refine Ops_quiet _ rfl rfl (QO.assign rfl rfl) ?_
     refine Ops_nil ?_
     refine thenA_n ?_
     refine wpA_ret ?_
     refine blockA_r ?_
     refine thenA_r ?_
     refine thenA_r ?_
     obtain rfl := Option.some.inj ho1
     obtain rfl := Option.some.inj hk1
     exact ⟨rfl, (Sub.cons rfl Sub.nil), (Le.refl _)⟩
    ·replace ho1 := cond_f ho1 g2
     refine wpA_skip ?_
     refine blockA_n ?_
     refine thenA_n ?_
     refine wpA_region ?_
     refine Ops_quiet _ rfl rfl (QO.move rfl rfl) ?_
     refine Ops_quiet _ rfl rfl (QO.bin rfl rfl rfl rfl) ?_
     refine Ops_quiet _ rfl rfl (QO.assign rfl rfl) ?_
     refine Ops_nil ?_
     obtain rfl := Option.some.inj ho1
     dsimp only at hk1
     exact thenA_n ⟨k1, Nat.lt_succ_self _, _, hk1, (Sub.cons rfl (Sub.cons rfl (Sub.cons rfl (Sub.cons rfl Sub.nil)))), (Le.refl _)⟩
   ·replace ho1 := cond_f ho1 g1
    refine wpA_exit ?_
    refine thenA_e ?_
    refine thenA_e ?_
    obtain rfl := Option.some.inj ho1
    obtain rfl := Option.some.inj hk1
    exact ⟨rfl, _, rfl, (Sub.cons rfl (Sub.cons rfl (Sub.cons rfl (Sub.cons rfl Sub.nil)))), (Le.refl _)⟩
 ·intro e s' h' hq
  cases R1 with
  | next x => exact hq.elim
  | ret r =>
   obtain ⟨rfl, hsub1, hle1⟩ := hq
   try dsimp only at hm
   refine blockA_r ?_
   refine thenA_r ?_
   obtain rfl := Option.some.inj hm
   refine retA_sub hsub1.ok hle1 ?_
   exact retA_r (h2 := h) (Res.one rfl (rfl)) (Le.refl _) ⟨rfl, rfl⟩
  | stop x id =>
   obtain ⟨rfl, x2, rfl, hsub2, hle2⟩ := hq
   try dsimp only at hm
   by_cases hid1 : id = 0
   ·subst hid1
    rw [if_pos rfl] at hm
    refine blockA_s ?_
    refine thenA_n ?_
    refine wpA_weaken hsub2.ok hle2 ?_
    refine wpA_seq ?_
    refine wpA_region ?_
    refine Ops_quiet _ rfl rfl (QO.move rfl rfl) ?_
    refine Ops_quiet _ rfl rfl (QO.lenSl rfl sz29 rfl) ?_
    refine Ops_quiet _ rfl rfl (QO.move rfl rfl) ?_
    refine Ops_quiet _ rfl rfl (QO.bin rfl rfl rfl rfl) ?_
    refine Ops_quiet _ rfl rfl (QO.assign rfl rfl) ?_
    refine Ops_nil ?_
    refine thenA_n ?_
    refine wpA_ret ?_
    obtain rfl := Option.some.inj hm
    exact retA_r (h2 := h) (Res.one rfl (rfl)) (Le.refl _) ⟨rfl, rfl⟩
   rw [if_neg hid1] at hm
   exact absurd hm (by simp)

/-! loop.example/g01195/spec.l10Code -/
theorem c_spec_l10Code {a0 : Sq} {a1 : Int} {l2 : (List (List Int))} {A2 : Option Addr} {c2 : Nat} {ga2 : List (Option Addr × Nat)} {h : Hp} {r : Int} (hm : m_spec_l10Code a0 a1 l2 = some r) (hs2 : RdSS h A2 (ints .i64) l2 ga2) :
    QC Try.prog 21 #[.agg (sqC a0).toArray, .int .i64 a1, .slice A2 l2.length c2] h (.int .i64 r) := by
 unfold m_spec_l10Code at hm
 refine CC.enter Try.func21 rfl Try.ntmps21 rfl ?_
 refine wpA_seq ?_
 refine wpA_region ?_
 refine Ops_loud rfl (LO.boxAgg rfl rfl rfl (fun b1 hb1 => ?_))
 refine Ops_quiet _ rfl rfl (QO.assign rfl rfl) ?_
 refine Ops_nil ?_
 refine thenA_n ?_
 refine wpA_seq ?_
 refine wpA_block ?_
 refine wpA_seq ?_
 refine wpA_region ?_
 refine Ops_quiet _ rfl rfl (QO.loadRow (cs := sqC a0) (hr := (rdAll (upd_same _ _ _))) rfl sz28 rfl rfl (sqC_length _)) ?_
 have hq := Option.bind_eq_some_iff.1 hm; clear hm; obtain ⟨r1, hr1, hm⟩ := hq
 refine Ops_call _ _ rfl rfl (EO.fn rfl Try.func38 rfl rfl (Evs.cons rfl Evs.nil)) (QC.cc (c_spec_l01Loop hr1 ) ?_)
 refine Ops_quiet _ rfl rfl (QO.not rfl rfl) ?_
 refine Ops_quiet _ rfl rfl (QO.assign rfl rfl) ?_
 refine Ops_nil ?_
 refine thenA_n ?_
 refine wpA_cond rfl (fun g1 => ?_) (fun g1 => ?_)
 ·replace hm := cond_t hm g1
  refine wpA_seq ?_
  refine wpA_region ?_
  refine Ops_quiet _ rfl rfl (QO.assign rfl rfl) ?_
  refine Ops_nil ?_
  refine thenA_n ?_
  refine wpA_ret ?_
  refine blockA_r ?_
  refine thenA_r ?_
  obtain rfl := Option.some.inj hm
  exact retA_r (h2 := h) (Res.one rfl (rfl)) (Le.under (Le.refl _) hb1) ⟨rfl, rfl⟩
 ·replace hm := cond_f hm g1
  refine wpA_seq ?_
  refine wpA_region ?_
  refine Ops_quiet _ rfl rfl (QO.move rfl rfl) ?_
  have hq := Option.bind_eq_some_iff.1 hm; clear hm; obtain ⟨r2, hr2, hm⟩ := hq
  refine Ops_call _ _ rfl rfl (EO.fn rfl Try.func39 rfl rfl (Evs.cons rfl Evs.nil)) (QC.cc (c_spec_l10Prime hr2 ) ?_)
  refine Ops_quiet _ rfl rfl (QO.not rfl rfl) ?_
  refine Ops_quiet _ rfl rfl (QO.assign rfl rfl) ?_
  refine Ops_nil ?_
  refine thenA_n ?_
  refine wpA_cond rfl (fun g2 => ?_) (fun g2 => ?_)
  ·replace hm := cond_t hm g2
   refine wpA_seq ?_
   refine wpA_region ?_
   refine Ops_quiet _ rfl rfl (QO.assign rfl rfl) ?_
   refine Ops_nil ?_
   refine thenA_n ?_
   refine wpA_ret ?_
   refine blockA_r ?_
   refine thenA_r ?_
   obtain rfl := Option.some.inj hm
   exact retA_r (h2 := h) (Res.one rfl (rfl)) (Le.under (Le.refl _) hb1) ⟨rfl, rfl⟩
  ·replace hm := cond_f hm g2
   refine wpA_skip ?_
   refine blockA_n ?_
   refine thenA_n ?_
   refine wpA_seq ?_
   refine wpA_seq ?_
   refine wpA_region ?_
   refine Ops_quiet _ rfl rfl (QO.assign rfl rfl) ?_
   refine Ops_nil ?_
   refine thenA_n ?_
   refine wpA_block ?_
   obtain ⟨R1, hR, hm⟩ := Option.bind_eq_some_iff.1 hm
   obtain ⟨k1, hk1⟩ := loopV_some hR
   clear hR
   refine wpA_mono (Q := fun e s' h' => match (generalizing := false) R1 with | .stop x id => e = .exit id ∧ ∃ (x1 : Int), x1 = x ∧ Sub s' [(1, .int .i64 a1), (2, .slice A2 l2.length c2), (3, .pointer (some ⟨b1, 0, none⟩)), (7, .int .i64 x1)] ∧ Le (upd (h) b1 (.own 28 (sqC a0) 101)) h' | .ret r => e = .ret ∧ Sub s' [(6, .int .i64 r)] ∧ Le (h) h' | .next _ => False) ?_ ?_
   ·refine wpA_loop (fun k s' h' => ∃ (x1 : Int), loopW (m_spec_l10Code_l0 a0 a1 l2) k x1 = some R1 ∧ Sub s' [(1, .int .i64 a1), (2, .slice A2 l2.length c2), (3, .pointer (some ⟨b1, 0, none⟩)), (7, .int .i64 x1)] ∧ Le (upd (h) b1 (.own 28 (sqC a0) 101)) h') (m := k1) ⟨0, hk1, (Sub.cons rfl (Sub.cons rfl (Sub.cons rfl (Sub.cons rfl Sub.nil)))), (Le.upd_left (Le.under (Le.refl _) hb1) (upd_same _ _ _) (by first | rfl | (simp; done)))⟩ ?_
    rintro k1 s' h' ⟨x1, hk1, hsub, hle⟩
    refine wpA_weaken hsub.ok hle ?_
    clear hsub hle s' h'
    cases k1 with
    | zero => exact absurd hk1 (by simp [loopW])
    | succ k1 =>
     obtain ⟨o1, ho1, hk1⟩ := loopW_succ hk1
     unfold m_spec_l10Code_l0 at ho1
     try dsimp only at ho1
     refine wpA_seq ?_
     refine wpA_seq ?_
     refine wpA_region ?_
     refine Ops_quiet _ rfl rfl (QO.move rfl rfl) ?_
     refine Ops_quiet _ rfl rfl (QO.move rfl rfl) ?_
     refine Ops_quiet _ rfl rfl (QO.lenSl rfl sz61 rfl) ?_
     refine Ops_quiet _ rfl rfl (QO.bin rfl rfl rfl rfl) ?_
     refine Ops_nil ?_
     refine thenA_n ?_
     refine wpA_cond rfl (fun g3 => ?_) (fun g3 => ?_)
     ·replace ho1 := cond_t ho1 g3
      refine wpA_skip ?_
      refine thenA_n ?_
      refine wpA_seq ?_
      refine wpA_block ?_
      refine wpA_seq ?_
      refine wpA_drawn (by kernel_rfl) (by kernel_rfl) ?_
      refine QOps.quiet _ rfl rfl (QO.fieldAt (fo := 0) rfl sz28 rfl rfl sz2 rfl rfl) ?_
      refine QOps.quiet _ rfl rfl (QO.load rfl sz2 rfl rfl (by (refine (rd_own (upd_same _ _ _) _).trans ?_); exact rfl)) ?_
      refine QOps.quiet _ rfl rfl (QO.move rfl rfl) ?_
      refine QOps.quiet _ rfl rfl (QO.move rfl rfl) ?_
      refine QOps.quiet _ rfl rfl (QO.move rfl rfl) ?_
      have hq := chk ho1; clear ho1; obtain ⟨ck1, ho1⟩ := hq
      refine QOps.quiet _ rfl rfl (QO.idxRd2 rfl sz61 sz29 rfl rfl (by omega) (by omega) (RdSS.out hs2) (by simp [rowsC_length, rowsA_length, mpC_length, sqC_length, tbC_length, tabI_length, tabB_length, ints_length, plsC_length, trC_length, sqsC_length, strsC_length, boolsC_length, tbB_length, List.length_append, List.length_cons, List.length_nil, List.length_set, List.length_replicate, rep_length]) (by decide)) ?_
      refine QOps.quiet (.slice (ga2.getD (x1).toNat (none, 0)).1 (l2.getD (x1).toNat []).length (ga2.getD (x1).toNat (none, 0)).2) rfl rfl (QO.load rfl sz29 rfl rfl (RdS.rd (RdS.le (RdSS.out hs2) (Le.under (Le.refl _) hb1)) (rowsA_get (by omega)))) ?_
      have hsr1 := hs2.row (x1).toNat (by omega)
      have hq := Option.bind_eq_some_iff.1 ho1; clear ho1; obtain ⟨r3, hr3, ho1⟩ := hq
      refine QOps.call _ _ _ rfl rfl (EO.fn rfl Try.func40 rfl rfl (Evs.cons rfl (Evs.cons rfl (Evs.cons rfl Evs.nil)))) (c_spec_l10Is (l2 := (l2.getD (x1).toNat [])) (A2 := (ga2.getD (x1).toNat (none, 0)).1) (c2 := (ga2.getD (x1).toNat (none, 0)).2) hr3 (RdS.le hsr1 (Le.under (Le.refl _) hb1))) ?_
      refine QOps.quiet _ rfl rfl (QO.not rfl rfl) ?_
      refine QOps.nil ?_
      refine thenA_n ?_
      refine wpA_cond rfl (fun g4 => ?_) (fun g4 => ?_)
      ·replace ho1 := cond_t ho1 g4
       refine wpA_seq ?_
       refine wpA_region ?_
       refine Ops_quiet _ rfl rfl (QO.assign rfl rfl) ?_
       refine Ops_nil ?_
       refine thenA_n ?_
       refine wpA_ret ?_
       refine blockA_r ?_
       refine thenA_r ?_
       refine thenA_r ?_
       obtain rfl := Option.some.inj ho1
       obtain rfl := Option.some.inj hk1
       exact ⟨rfl, (Sub.cons rfl Sub.nil), (Le.under (Le.refl _) hb1)⟩
      ·replace ho1 := cond_f ho1 g4
       refine wpA_skip ?_
       refine blockA_n ?_
       refine thenA_n ?_
       refine wpA_region ?_
       refine Ops_quiet _ rfl rfl (QO.move rfl rfl) ?_
       refine Ops_quiet _ rfl rfl (QO.bin rfl rfl rfl rfl) ?_
       refine Ops_quiet _ rfl rfl (QO.assign rfl rfl) ?_
       refine Ops_nil ?_
       obtain rfl := Option.some.inj ho1
       dsimp only at hk1
       exact thenA_n ⟨k1, Nat.lt_succ_self _, _, hk1, (Sub.cons rfl (Sub.cons rfl (Sub.cons rfl (Sub.cons rfl Sub.nil)))), (Le.upd_left (Le.under (Le.refl _) hb1) (upd_same _ _ _) (by first | rfl | (simp; done)))⟩
     ·replace ho1 := cond_f ho1 g3
      refine wpA_exit ?_
      refine thenA_e ?_
      refine thenA_e ?_
      obtain rfl := Option.some.inj ho1
      obtain rfl := Option.some.inj hk1
      exact ⟨rfl, _, rfl, (Sub.cons rfl (Sub.cons rfl (Sub.cons rfl (Sub.cons rfl Sub.nil)))), (Le.upd_left (Le.under (Le.refl _) hb1) (upd_same _ _ _) (by first | rfl | (simp; done)))⟩
   ·intro e s' h' hq
    cases R1 with
    | next x => exact hq.elim
    | ret r =>
     obtain ⟨rfl, hsub1, hle1⟩ := hq
     try dsimp only at hm
     refine blockA_r ?_
     refine thenA_r ?_
     obtain rfl := Option.some.inj hm
     refine retA_sub hsub1.ok hle1 ?_
     exact retA_r (h2 := h) (Res.one rfl (rfl)) (Le.refl _) ⟨rfl, rfl⟩
    | stop x id =>
     obtain ⟨rfl, x2, rfl, hsub2, hle2⟩ := hq
     try dsimp only at hm
     by_cases hid1 : id = 1
     ·subst hid1
      rw [if_pos rfl] at hm
      refine blockA_s ?_
      refine thenA_n ?_
      refine wpA_weaken hsub2.ok hle2 ?_
      refine wpA_seq ?_
      refine wpA_region ?_
      refine Ops_quiet _ rfl rfl (QO.assign rfl rfl) ?_
      refine Ops_nil ?_
      refine thenA_n ?_
      refine wpA_ret ?_
      obtain rfl := Option.some.inj hm
      exact retA_r (h2 := h) (Res.one rfl (rfl)) (Le.under (Le.refl _) hb1) ⟨rfl, rfl⟩
     rw [if_neg hid1] at hm
     exact absurd hm (by simp)

/-! loop.example/g01195/spec.l10Times -/
theorem c_spec_l10Times {a0 : Sq} {a1 : Int} {l2 : (List Int)} {A2 : Option Addr} {c2 : Nat} {l3 : (List Int)} {A3 : Option Addr} {c3 : Nat} {h : Hp} {r : (List Int)} (hm : m_spec_l10Times a0 a1 l2 l3 = some r) (hs2 : RdS h A2 (ints .i64 l2)) (hs3 : RdS h A3 (ints .i64 l3)) :
    CC Try.prog 22 #[.agg (sqC a0).toArray, .int .i64 a1, .slice A2 l2.length c2, .slice A3 l3.length c3] h (NewSl 2 1 (ints .i64 r) r.length h) := by
 unfold m_spec_l10Times at hm
 refine CC.enter Try.func22 rfl Try.ntmps22 rfl ?_
 refine wpA_seq ?_
 refine wpA_region ?_
 refine Ops_loud rfl (LO.boxAgg rfl rfl rfl (fun b1 hb1 => ?_))
 refine Ops_quiet _ rfl rfl (QO.assign rfl rfl) ?_
 refine Ops_nil ?_
 refine thenA_n ?_
 refine wpA_seq ?_
 refine wpA_region ?_
 refine Ops_quiet _ rfl rfl (QO.fieldAt (fo := 0) rfl sz28 rfl rfl sz2 rfl rfl) ?_
 refine Ops_quiet _ rfl rfl (QO.load rfl sz2 rfl rfl (by (refine (rd_own (upd_same _ _ _) _).trans ?_); exact rfl)) ?_
 have hq := chk hm; clear hm; obtain ⟨ck1, hm⟩ := hq
 refine Ops_loud rfl (LO.mkSl2 (m := (a0.order).toNat) rfl sz29 sz2 zr2 el2 rfl rfl rfl (by omega) (by omega) (by omega) (by decide) (by decide) rfl (rep_ints _ _) (fun b2 hb2 => ?_))
 simp only [upd_noneA] at hb2
 obtain ⟨n_b2_b1, hb2⟩ := hb2
 refine Ops_quiet _ rfl rfl (QO.assign rfl rfl) ?_
 refine Ops_nil ?_
 refine thenA_n ?_
 refine wpA_seq ?_
 refine wpA_seq ?_
 refine wpA_region ?_
 refine Ops_quiet _ rfl rfl (QO.assign rfl rfl) ?_
 refine Ops_nil ?_
 refine thenA_n ?_
 refine wpA_block ?_
 obtain ⟨R1, hR, hm⟩ := Option.bind_eq_some_iff.1 hm
 obtain ⟨k1, hk1⟩ := loopV_some hR
 clear hR
 refine wpA_mono (Q := fun e s' h' => match (generalizing := false) R1 with | .stop x id => e = .exit id ∧ ∃ (x1 : Int) (x2 : (List Int)), (x1, x2) = x ∧ x2.length = (a0.order).toNat ∧ Sub s' [(1, .int .i64 a1), (2, .slice A2 l2.length c2), (3, .slice A3 l3.length c3), (4, .pointer (some ⟨b1, 0, none⟩)), (9, .slice (some ⟨b2, 0, none⟩) (a0.order).toNat (a0.order).toNat), (10, .int .i64 x1)] ∧ Le (upd (upd (h) b1 (.own 28 (sqC a0) 101)) b2 (.own 2 (ints .i64 x2) ((a0.order).toNat * 1))) h' | .ret r => False | .next _ => False) ?_ ?_
 ·refine wpA_loop (fun k s' h' => ∃ (x1 : Int) (x2 : (List Int)), loopW (m_spec_l10Times_l0 a0 a1 l2 l3) k (x1, x2) = some R1 ∧ x2.length = (a0.order).toNat ∧ Sub s' [(1, .int .i64 a1), (2, .slice A2 l2.length c2), (3, .slice A3 l3.length c3), (4, .pointer (some ⟨b1, 0, none⟩)), (9, .slice (some ⟨b2, 0, none⟩) (a0.order).toNat (a0.order).toNat), (10, .int .i64 x1)] ∧ Le (upd (upd (h) b1 (.own 28 (sqC a0) 101)) b2 (.own 2 (ints .i64 x2) ((a0.order).toNat * 1))) h') (m := k1) ⟨0, (List.replicate (a0.order).toNat 0), hk1, (by first | assumption | (simp only [List.length_set, List.length_replicate, List.length_cons, List.length_nil]; first | assumption | done | omega) | (simp; done)), (Sub.cons rfl (Sub.cons rfl (Sub.cons rfl (Sub.cons rfl (Sub.cons rfl (Sub.cons rfl Sub.nil)))))), (Le.upd_left (Le.upd_left (Le.under (Le.under (Le.refl _) hb1) hb2) ((upd_ne _ _ n_b2_b1.ne.symm).trans (upd_same _ _ _)) (by first | rfl | (simp; done))) (upd_same _ _ _) (by first | rfl | (simp; done)))⟩ ?_
  rintro k1 s' h' ⟨x1, x2, hk1, hl_x2, hsub, hle⟩
  refine wpA_weaken hsub.ok hle ?_
  clear hsub hle s' h'
  cases k1 with
  | zero => exact absurd hk1 (by simp [loopW])
  | succ k1 =>
   obtain ⟨o1, ho1, hk1⟩ := loopW_succ hk1
   unfold m_spec_l10Times_l0 at ho1
   try dsimp only at ho1
   refine wpA_seq ?_
   refine wpA_seq ?_
   refine wpA_region ?_
   refine Ops_quiet _ rfl rfl (QO.move rfl rfl) ?_
   refine Ops_quiet _ rfl rfl (QO.fieldAt (fo := 0) rfl sz28 rfl rfl sz2 rfl rfl) ?_
   refine Ops_quiet _ rfl rfl (QO.load rfl sz2 rfl rfl (by (refine (rd_own ((upd_ne _ _ n_b2_b1.ne.symm).trans (upd_same _ _ _)) _).trans ?_); exact rfl)) ?_
   refine Ops_quiet _ rfl rfl (QO.bin rfl rfl rfl rfl) ?_
   refine Ops_nil ?_
   refine thenA_n ?_
   refine wpA_cond rfl (fun g1 => ?_) (fun g1 => ?_)
   ·replace ho1 := cond_t ho1 g1
    refine wpA_skip ?_
    refine thenA_n ?_
    refine wpA_seq ?_
    refine wpA_block ?_
    refine wpA_seq ?_
    refine wpA_region ?_
    refine Ops_quiet _ rfl rfl (QO.assign rfl rfl) ?_
    refine Ops_nil ?_
    refine thenA_n ?_
    refine wpA_block ?_
    obtain ⟨R2, hR, ho1⟩ := Option.bind_eq_some_iff.1 ho1
    obtain ⟨k2, hk2⟩ := loopV_some hR
    clear hR
    refine wpA_mono (Q := fun e s' h' => match (generalizing := false) R2 with | .stop x id => e = .exit id ∧ ∃ (x3 : Int) (x4 : (List Int)), (x3, x4) = x ∧ x4.length = (a0.order).toNat ∧ Sub s' [(1, .int .i64 a1), (2, .slice A2 l2.length c2), (3, .slice A3 l3.length c3), (4, .pointer (some ⟨b1, 0, none⟩)), (9, .slice (some ⟨b2, 0, none⟩) (a0.order).toNat (a0.order).toNat), (10, .int .i64 x1), (11, .int .i64 x3)] ∧ Le (upd (upd (h) b1 (.own 28 (sqC a0) 101)) b2 (.own 2 (ints .i64 x4) ((a0.order).toNat * 1))) h' | .ret r => False | .next _ => False) ?_ ?_
    ·refine wpA_loop (fun k s' h' => ∃ (x3 : Int) (x4 : (List Int)), loopW (m_spec_l10Times_l1 a0 a1 l2 l3 x1) k (x3, x4) = some R2 ∧ x4.length = (a0.order).toNat ∧ Sub s' [(1, .int .i64 a1), (2, .slice A2 l2.length c2), (3, .slice A3 l3.length c3), (4, .pointer (some ⟨b1, 0, none⟩)), (9, .slice (some ⟨b2, 0, none⟩) (a0.order).toNat (a0.order).toNat), (10, .int .i64 x1), (11, .int .i64 x3)] ∧ Le (upd (upd (h) b1 (.own 28 (sqC a0) 101)) b2 (.own 2 (ints .i64 x4) ((a0.order).toNat * 1))) h') (m := k2) ⟨0, x2, hk2, (by first | assumption | (simp only [List.length_set, List.length_replicate, List.length_cons, List.length_nil]; first | assumption | done | omega) | (simp; done)), (Sub.cons rfl (Sub.cons rfl (Sub.cons rfl (Sub.cons rfl (Sub.cons rfl (Sub.cons rfl (Sub.cons rfl Sub.nil))))))), (Le.upd_left (Le.upd_left (Le.under (Le.under (Le.refl _) hb1) hb2) ((upd_ne _ _ n_b2_b1.ne.symm).trans (upd_same _ _ _)) (by first | rfl | (simp; done))) (upd_same _ _ _) (by first | rfl | (simp; done)))⟩ ?_
     rintro k2 s' h' ⟨x3, x4, hk2, hl_x4, hsub, hle⟩
     refine wpA_weaken hsub.ok hle ?_
     clear hsub hle s' h'
     cases k2 with
     | zero => exact absurd hk2 (by simp [loopW])
     | succ k2 =>
      obtain ⟨o2, ho2, hk2⟩ := loopW_succ hk2
      unfold m_spec_l10Times_l1 at ho2
      try dsimp only at ho2
      refine wpA_seq ?_
      refine wpA_seq ?_
      refine wpA_region ?_
      refine Ops_quiet _ rfl rfl (QO.move rfl rfl) ?_
      refine Ops_quiet _ rfl rfl (QO.fieldAt (fo := 0) rfl sz28 rfl rfl sz2 rfl rfl) ?_
      refine Ops_quiet _ rfl rfl (QO.load rfl sz2 rfl rfl (by (refine (rd_own ((upd_ne _ _ n_b2_b1.ne.symm).trans (upd_same _ _ _)) _).trans ?_); exact rfl)) ?_
      refine Ops_quiet _ rfl rfl (QO.bin rfl rfl rfl rfl) ?_
      refine Ops_nil ?_
      refine thenA_n ?_
      refine wpA_cond rfl (fun g2 => ?_) (fun g2 => ?_)
      ·replace ho2 := cond_t ho2 g2
       refine wpA_skip ?_
       refine thenA_n ?_
       refine wpA_seq ?_
       refine wpA_block ?_
       refine wpA_seq ?_
       refine wpA_region ?_
       refine Ops_quiet _ rfl rfl (QO.move rfl rfl) ?_
       refine Ops_quiet _ rfl rfl (QO.move rfl rfl) ?_
       refine Ops_quiet _ rfl rfl (QO.fieldAt (fo := 1) rfl sz28 rfl rfl sz26 rfl rfl) ?_
       have hq := chk ho2; clear ho2; obtain ⟨ck2, ho2⟩ := hq
       refine Ops_quiet _ rfl rfl (QO.idxArr rfl sz26 sz24 rfl rfl (by omega) (by omega)) ?_
       have hq := chk ho2; clear ho2; obtain ⟨ck3, ho2⟩ := hq
       refine Ops_quiet _ rfl rfl (QO.idxArr rfl sz24 sz5 rfl rfl (by omega) (by omega)) ?_
       refine Ops_quiet _ rfl rfl (QO.load rfl sz5 rfl rfl (by (refine (rd_own ((upd_ne _ _ n_b2_b1.ne.symm).trans (upd_same _ _ _)) _).trans ?_); exact sqC_get (by omega) (by omega))) ?_
       refine Ops_quiet _ rfl rfl (QO.assign rfl rfl) ?_
       refine Ops_nil ?_
       refine thenA_n ?_
       refine wpA_any (upd (upd (h) b1 (.own 28 (sqC a0) 101)) b2 (.own 2 (ints .i64 x4) ((a0.order).toNat * 1))) [19] [19] (by kernel_rfl) (by kernel_rfl) (DW.start ?_)
       refine DW.pure' 0 _ rfl (by kernel_rfl) rfl (fun _ => QO.move rfl rfl) ?_
       refine DW.pure' 1 _ rfl (by kernel_rfl) rfl (fun _ => QO.move rfl rfl) ?_
       refine DW.pure' 2 _ rfl (by kernel_rfl) rfl (fun _ => QO.move rfl rfl) ?_
       refine DW.pure' 3 _ rfl (by kernel_rfl) rfl (fun _ => QO.move rfl rfl) ?_
       have hq := chk ho2; clear ho2; obtain ⟨ck4, ho2⟩ := hq
       refine DW.pure' 4 _ rfl (by kernel_rfl) rfl (fun _ => QO.idxSl rfl sz29 sz2 rfl rfl (by omega) (by omega)) ?_
       refine DW.read' 5 _ rfl (by kernel_rfl) rfl (QO.load rfl sz2 rfl rfl (by (refine (rd_own (upd_same _ _ _) _).trans ?_); exact ints_get01 (by first | omega | (simp only [List.length_cons, List.length_nil]; omega)))) ?_
       refine DW.pure' 6 _ rfl (by kernel_rfl) rfl (fun _ => QO.move rfl rfl) ?_
       refine DW.pure' 7 _ rfl (by kernel_rfl) rfl (fun _ => QO.move rfl rfl) ?_
       have hq := chk ho2; clear ho2; obtain ⟨ck5, ho2⟩ := hq
       refine DW.pure' 8 _ rfl (by kernel_rfl) rfl (fun _ => QO.idxRd2 rfl sz29 sz2 rfl rfl (by omega) (by omega) hs2 (by simp [rowsC_length, rowsA_length, mpC_length, sqC_length, tbC_length, tabI_length, tabB_length, ints_length, plsC_length, trC_length, sqsC_length, strsC_length, boolsC_length, tbB_length, List.length_append, List.length_cons, List.length_nil, List.length_set, List.length_replicate, rep_length]) (by decide)) ?_
       refine DW.read' 9 _ rfl (by kernel_rfl) rfl (QO.load rfl sz2 rfl rfl (by first | exact (RdS.rd (RdS.le hs2 (Le.under (Le.under (Le.refl _) hb1) hb2)) (by first | rfl | exact sqC_get (by omega) (by omega) | exact tbC_get (by omega) (by omega) | exact tbB_get (by omega) (by omega) | exact tabI_get01 (by omega) | exact tabB_get01 (by omega) | exact ints_get01 (by omega) | exact boolsC_get01 (by omega) | exact tabI_get (by omega) | exact tabB_get (by omega) | exact ints_get1 (by omega) | exact strsC_get01 (by omega) | exact strsC_get1 (by omega) | exact plsC_get (by omega) (by omega) | exact trC_a (by omega) | exact trC_b (by omega) | exact trC_c (by omega) | exact sqsC_ord (by omega) | exact sqsC_get (by omega) (by omega) (by omega))) | exact (RdS.rd2 (RdS.le hs2 (Le.under (Le.under (Le.refl _) hb1) hb2)) (by first | rfl | exact sqC_get (by omega) (by omega) | exact tbC_get (by omega) (by omega) | exact tbB_get (by omega) (by omega) | exact tabI_get01 (by omega) | exact tabB_get01 (by omega) | exact ints_get01 (by omega) | exact boolsC_get01 (by omega) | exact tabI_get (by omega) | exact tabB_get (by omega) | exact ints_get1 (by omega) | exact strsC_get01 (by omega) | exact strsC_get1 (by omega) | exact plsC_get (by omega) (by omega) | exact trC_a (by omega) | exact trC_b (by omega) | exact trC_c (by omega) | exact sqsC_ord (by omega) | exact sqsC_get (by omega) (by omega) (by omega))) | exact (RdS.rd3 (RdS.le hs2 (Le.under (Le.under (Le.refl _) hb1) hb2)) (by first | rfl | exact sqC_get (by omega) (by omega) | exact tbC_get (by omega) (by omega) | exact tbB_get (by omega) (by omega) | exact tabI_get01 (by omega) | exact tabB_get01 (by omega) | exact ints_get01 (by omega) | exact boolsC_get01 (by omega) | exact tabI_get (by omega) | exact tabB_get (by omega) | exact ints_get1 (by omega) | exact strsC_get01 (by omega) | exact strsC_get1 (by omega) | exact plsC_get (by omega) (by omega) | exact trC_a (by omega) | exact trC_b (by omega) | exact trC_c (by omega) | exact sqsC_ord (by omega) | exact sqsC_get (by omega) (by omega) (by omega))))) ?_
       refine DW.pure' 10 _ rfl (by kernel_rfl) rfl (fun _ => QO.move rfl rfl) ?_
       refine DW.pure' 11 _ rfl (by kernel_rfl) rfl (fun _ => QO.move rfl rfl) ?_
       have hq := chk ho2; clear ho2; obtain ⟨ck6, ho2⟩ := hq
       refine DW.pure' 12 _ rfl (by kernel_rfl) rfl (fun _ => QO.idxRd2 rfl sz29 sz2 rfl rfl (by omega) (by omega) hs3 (by simp [rowsC_length, rowsA_length, mpC_length, sqC_length, tbC_length, tabI_length, tabB_length, ints_length, plsC_length, trC_length, sqsC_length, strsC_length, boolsC_length, tbB_length, List.length_append, List.length_cons, List.length_nil, List.length_set, List.length_replicate, rep_length]) (by decide)) ?_
       refine DW.read' 13 _ rfl (by kernel_rfl) rfl (QO.load rfl sz2 rfl rfl (by first | exact (RdS.rd (RdS.le hs3 (Le.under (Le.under (Le.refl _) hb1) hb2)) (by first | rfl | exact sqC_get (by omega) (by omega) | exact tbC_get (by omega) (by omega) | exact tbB_get (by omega) (by omega) | exact tabI_get01 (by omega) | exact tabB_get01 (by omega) | exact ints_get01 (by omega) | exact boolsC_get01 (by omega) | exact tabI_get (by omega) | exact tabB_get (by omega) | exact ints_get1 (by omega) | exact strsC_get01 (by omega) | exact strsC_get1 (by omega) | exact plsC_get (by omega) (by omega) | exact trC_a (by omega) | exact trC_b (by omega) | exact trC_c (by omega) | exact sqsC_ord (by omega) | exact sqsC_get (by omega) (by omega) (by omega))) | exact (RdS.rd2 (RdS.le hs3 (Le.under (Le.under (Le.refl _) hb1) hb2)) (by first | rfl | exact sqC_get (by omega) (by omega) | exact tbC_get (by omega) (by omega) | exact tbB_get (by omega) (by omega) | exact tabI_get01 (by omega) | exact tabB_get01 (by omega) | exact ints_get01 (by omega) | exact boolsC_get01 (by omega) | exact tabI_get (by omega) | exact tabB_get (by omega) | exact ints_get1 (by omega) | exact strsC_get01 (by omega) | exact strsC_get1 (by omega) | exact plsC_get (by omega) (by omega) | exact trC_a (by omega) | exact trC_b (by omega) | exact trC_c (by omega) | exact sqsC_ord (by omega) | exact sqsC_get (by omega) (by omega) (by omega))) | exact (RdS.rd3 (RdS.le hs3 (Le.under (Le.under (Le.refl _) hb1) hb2)) (by first | rfl | exact sqC_get (by omega) (by omega) | exact tbC_get (by omega) (by omega) | exact tbB_get (by omega) (by omega) | exact tabI_get01 (by omega) | exact tabB_get01 (by omega) | exact ints_get01 (by omega) | exact boolsC_get01 (by omega) | exact tabI_get (by omega) | exact tabB_get (by omega) | exact ints_get1 (by omega) | exact strsC_get01 (by omega) | exact strsC_get1 (by omega) | exact plsC_get (by omega) (by omega) | exact trC_a (by omega) | exact trC_b (by omega) | exact trC_c (by omega) | exact sqsC_ord (by omega) | exact sqsC_get (by omega) (by omega) (by omega))))) ?_
       refine DW.pure' 14 _ rfl (by kernel_rfl) rfl (fun _ => QO.bin rfl rfl rfl rfl) ?_
       refine DW.pure' 15 _ rfl (by kernel_rfl) rfl (fun _ => QO.bin rfl rfl rfl rfl) ?_
       refine DW.pure' 16 _ rfl (by kernel_rfl) rfl (fun _ => QO.move rfl rfl) ?_
       have hq := chk ho2; clear ho2; obtain ⟨ck7, ho2⟩ := hq
       refine DW.pure' 17 _ rfl (by kernel_rfl) rfl (fun _ => QO.rem rfl rfl rfl (by first | assumption | omega)) ?_
       have hq := chk ho2; clear ho2; obtain ⟨ck8, ho2⟩ := hq
       refine DW.pure' 18 _ rfl (by kernel_rfl) rfl (fun _ => QO.idxSl rfl sz29 sz2 rfl rfl (by omega) (by omega)) ?_
       refine DW.loud 19 rfl (by kernel_rfl) rfl rfl (LO.store' (xs' := ints .i64 (x4.set ((a0.t (x1).toNat (x3).toNat)).toNat ((IntKind.i64.wrap ((x4.getD ((a0.t (x1).toNat (x3).toNat)).toNat 0) + (IntKind.i64.wrap ((l2.getD (x1).toNat 0) * (l3.getD (x3).toNat 0))))).tmod a1))) rfl sz2 rfl rfl rfl (upd_same _ _ _) (by first | ((try simp only [rowsC_length, rowsA_length, mpC_length, sqC_length, tbC_length, tabI_length, tabB_length, ints_length, plsC_length, trC_length, sqsC_length, strsC_length, boolsC_length, tbB_length, List.length_append, List.length_cons, List.length_nil, List.length_set, List.length_replicate, rep_length]); first | omega | decide) | exact Nat.le_of_ble_eq_true rfl) ints_set01 Chg.here rfl ?_)
       refine ⟨(fun e => absurd e (by decide)), ?_⟩
       refine DW.done (by kernel_rfl) ?_ _
       refine blockA_n ?_
       refine thenA_n ?_
       refine wpA_region ?_
       refine Ops_quiet _ rfl rfl (QO.move rfl rfl) ?_
       refine Ops_quiet _ rfl rfl (QO.bin rfl rfl rfl rfl) ?_
       refine Ops_quiet _ rfl rfl (QO.assign rfl rfl) ?_
       refine Ops_nil ?_
       obtain rfl := Option.some.inj ho2
       dsimp only at hk2
       exact thenA_n ⟨k2, Nat.lt_succ_self _, _, _, hk2, (by first | assumption | (simp only [List.length_set, List.length_replicate, List.length_cons, List.length_nil]; first | assumption | done | omega) | (simp; done)), (Sub.cons rfl (Sub.cons rfl (Sub.cons rfl (Sub.cons rfl (Sub.cons rfl (Sub.cons rfl (Sub.cons rfl Sub.nil))))))), (Le.upd_left (Le.upd_left (Le.under (Le.under (Le.refl _) hb1) hb2) ((upd_ne _ _ n_b2_b1.ne.symm).trans (upd_same _ _ _)) (by first | rfl | (simp; done))) (upd_same _ _ _) (by first | rfl | (simp; done)))⟩
      ·replace ho2 := cond_f ho2 g2
       refine wpA_exit ?_
       refine thenA_e ?_
       refine thenA_e ?_
       obtain rfl := Option.some.inj ho2
       obtain rfl := Option.some.inj hk2
       exact ⟨rfl, _, _, rfl, (by first | assumption | (simp only [List.length_set, List.length_replicate, List.length_cons, List.length_nil]; first | assumption | done | omega) | (simp; done)), (Sub.cons rfl (Sub.cons rfl (Sub.cons rfl (Sub.cons rfl (Sub.cons rfl (Sub.cons rfl (Sub.cons rfl Sub.nil))))))), (Le.upd_left (Le.upd_left (Le.under (Le.under (Le.refl _) hb1) hb2) ((upd_ne _ _ n_b2_b1.ne.symm).trans (upd_same _ _ _)) (by first | rfl | (simp; done))) (upd_same _ _ _) (by first | rfl | (simp; done)))⟩
    ·intro e s' h' hq
     cases R2 with
     | next x => exact hq.elim
     | ret r => exact hq.elim
     | stop x id =>
      obtain ⟨rfl, x5, x6, rfl, hl_x6, hsub1, hle1⟩ := hq
      try dsimp only at ho1
      by_cases hid1 : id = 2
      ·subst hid1
       rw [if_pos rfl] at ho1
       refine blockA_s ?_
       refine blockA_n ?_
       refine thenA_n ?_
       refine wpA_weaken hsub1.ok hle1 ?_
       refine wpA_region ?_
       refine Ops_quiet _ rfl rfl (QO.move rfl rfl) ?_
       refine Ops_quiet _ rfl rfl (QO.bin rfl rfl rfl rfl) ?_
       refine Ops_quiet _ rfl rfl (QO.assign rfl rfl) ?_
       refine Ops_nil ?_
       obtain rfl := Option.some.inj ho1
       dsimp only at hk1
       exact thenA_n ⟨k1, Nat.lt_succ_self _, _, _, hk1, (by first | assumption | (simp only [List.length_set, List.length_replicate, List.length_cons, List.length_nil]; first | assumption | done | omega) | (simp; done)), (Sub.cons rfl (Sub.cons rfl (Sub.cons rfl (Sub.cons rfl (Sub.cons rfl (Sub.cons rfl Sub.nil)))))), (Le.upd_left (Le.upd_left (Le.under (Le.under (Le.refl _) hb1) hb2) ((upd_ne _ _ n_b2_b1.ne.symm).trans (upd_same _ _ _)) (by first | rfl | (simp; done))) (upd_same _ _ _) (by first | rfl | (simp; done)))⟩
      rw [if_neg hid1] at ho1
      exact absurd ho1 (by simp)
   ·replace ho1 := cond_f ho1 g1
    refine wpA_exit ?_
    refine thenA_e ?_
    refine thenA_e ?_
    obtain rfl := Option.some.inj ho1
    obtain rfl := Option.some.inj hk1
    exact ⟨rfl, _, _, rfl, (by first | assumption | (simp only [List.length_set, List.length_replicate, List.length_cons, List.length_nil]; first | assumption | done | omega) | (simp; done)), (Sub.cons rfl (Sub.cons rfl (Sub.cons rfl (Sub.cons rfl (Sub.cons rfl (Sub.cons rfl Sub.nil)))))), (Le.upd_left (Le.upd_left (Le.under (Le.under (Le.refl _) hb1) hb2) ((upd_ne _ _ n_b2_b1.ne.symm).trans (upd_same _ _ _)) (by first | rfl | (simp; done))) (upd_same _ _ _) (by first | rfl | (simp; done)))⟩
 ·intro e s' h' hq
  cases R1 with
  | next x => exact hq.elim
  | ret r => exact hq.elim
  | stop x id =>
   obtain ⟨rfl, x7, x8, rfl, hl_x8, hsub2, hle2⟩ := hq
   try dsimp only at hm
   by_cases hid2 : id = 0
   ·subst hid2
    rw [if_pos rfl] at hm
    refine blockA_s ?_
    refine thenA_n ?_
    refine wpA_weaken hsub2.ok hle2 ?_
    refine wpA_seq ?_
    refine wpA_region ?_
    refine Ops_quiet _ rfl rfl (QO.move rfl rfl) ?_
    refine Ops_quiet _ rfl rfl (QO.assign rfl rfl) ?_
    refine Ops_nil ?_
    refine thenA_n ?_
    refine wpA_ret ?_
    obtain rfl := Option.some.inj hm
    exact retA_r (h2 := upd h b2 (.own 2 (ints .i64 x8) ((a0.order).toNat * 1))) (Res.one rfl (rfl)) (Le.upd_left (Le.under (Le.under (Le.refl _) hb1) hb2) (upd_same _ _ _) (by first | rfl | (simp; done))) ⟨b2, (a0.order).toNat, (by first | rfl | (simp [*]; done)), (by assumption), (by first | assumption | omega | (simp only [List.length_set, List.length_replicate]; first | done | assumption | omega)), (by first | assumption | (simp only [maxLen]; omega)), rfl⟩
   rw [if_neg hid2] at hm
   exact absurd hm (by simp)

/-! loop.example/g01195/spec.MultiplySums -/
theorem c_spec_MultiplySums {a0 : Sq} {a1 : Int} {l2 : (List Int)} {A2 : Option Addr} {c2 : Nat} {l3 : (List Int)} {A3 : Option Addr} {c3 : Nat} {h : Hp} {r : (List Int) × Int} (hm : m_spec_MultiplySums a0 a1 l2 l3 = some r) (hs2 : RdS h A2 (ints .i64 l2)) (hs3 : RdS h A3 (ints .i64 l3)) :
    CC Try.prog 7 #[.agg (sqC a0).toArray, .int .i64 a1, .slice A2 l2.length c2, .slice A3 l3.length c3] (h) (fun v h' => ∃ (b0 : Option Nat) (cap0 : Nat), FrO (h) b0 ∧ OkO b0 r.1.length cap0 ∧ v = .tuple #[.slice (adO b0) r.1.length cap0, .int .i64 r.2] ∧ h' = updO (h) b0 (.own 2 (ints .i64 r.1) (cap0 * 1))) := by
 unfold m_spec_MultiplySums at hm
 refine CC.enter Try.func7 rfl Try.ntmps7 rfl ?_
 refine wpA_seq ?_
 refine wpA_region ?_
 refine Ops_loud rfl (LO.boxAgg rfl rfl rfl (fun b1 hb1 => ?_))
 refine Ops_quiet _ rfl rfl (QO.assign rfl rfl) ?_
 refine Ops_quiet _ rfl rfl (QO.assign rfl rfl) ?_
 refine Ops_nil ?_
 refine thenA_n ?_
 refine wpA_seq ?_
 refine wpA_seq ?_
 refine wpA_region ?_
 refine Ops_quiet _ rfl rfl (QO.loadRow (cs := sqC a0) (hr := (rdAll (upd_same _ _ _))) rfl sz28 rfl rfl (sqC_length _)) ?_
 refine Ops_quiet _ rfl rfl (QO.move rfl rfl) ?_
 refine Ops_quiet _ rfl rfl (QO.move rfl rfl) ?_
 refine Ops_quiet _ rfl rfl (QO.move rfl rfl) ?_
 refine Ops_loud rfl (LO.slice' [(0, .slice A2 l2.length c2), (1, .slice A3 l3.length c3)] (r := [.slice A2 l2.length c2, .slice A3 l3.length c3]) rfl sz61 sz29 zr29 rfl (by decide) (by decide) (by decide) rfl rfl rfl rfl (fun b2 hb2 => ?_))
 simp only [upd_noneA] at hb2
 obtain ⟨n_b2_b1, hb2⟩ := hb2
 have hq := Option.bind_eq_some_iff.1 hm; clear hm; obtain ⟨r1, hr1, hm⟩ := hq
 refine Ops_call _ _ rfl rfl (EO.fn rfl Try.func21 rfl rfl (Evs.cons rfl (Evs.cons rfl (Evs.cons rfl Evs.nil)))) (QC.cc (c_spec_l10Code (l2 := [l2, l3]) (A2 := some ⟨b2, 0, none⟩) (c2 := 2) (ga2 := [(A2, c2), (A3, c3)]) hr1 (RdSS.two (upd_same _ _ _) (RdS.le hs2 (Le.under (Le.under (Le.refl _) hb1) hb2)) (RdS.le hs3 (Le.under (Le.under (Le.refl _) hb1) hb2)))) ?_)
 refine Ops_quiet _ rfl rfl (QO.assign rfl rfl) ?_
 refine Ops_nil ?_
 refine thenA_n ?_
 refine wpA_seq ?_
 refine wpA_region ?_
 refine Ops_quiet _ rfl rfl (QO.move rfl rfl) ?_
 refine Ops_quiet _ rfl rfl (QO.bin rfl rfl rfl rfl) ?_
 refine Ops_nil ?_
 refine thenA_n ?_
 refine wpA_cond rfl (fun g1 => ?_) (fun g1 => ?_)
 ·replace hm := cond_t hm g1
  refine wpA_seq ?_
  refine wpA_region ?_
  refine Ops_quiet _ rfl rfl (QO.move rfl rfl) ?_
  refine Ops_quiet _ rfl rfl (QO.assign rfl rfl) ?_
  refine Ops_quiet _ rfl rfl (QO.assign rfl rfl) ?_
  refine Ops_nil ?_
  refine thenA_n ?_
  refine wpA_ret ?_
  refine thenA_r ?_
  obtain rfl := Option.some.inj hm
  exact retA_r (h2 := h) (Res.two rfl (rfl) (rfl)) (Le.under (Le.under (Le.refl _) hb1) hb2) ⟨none, 0, frO_none, OkO.none, rfl, rfl⟩
 ·replace hm := cond_f hm g1
  refine wpA_skip ?_
  refine thenA_n ?_
  refine wpA_seq ?_
  refine wpA_region ?_
  refine Ops_quiet _ rfl rfl (QO.loadRow (cs := sqC a0) (hr := (rdAll ((upd_ne _ _ n_b2_b1.ne.symm).trans (upd_same _ _ _)))) rfl sz28 rfl rfl (sqC_length _)) ?_
  refine Ops_quiet _ rfl rfl (QO.move rfl rfl) ?_
  refine Ops_quiet _ rfl rfl (QO.move rfl rfl) ?_
  refine Ops_quiet _ rfl rfl (QO.move rfl rfl) ?_
  have hq := Option.bind_eq_some_iff.1 hm; clear hm; obtain ⟨r2, hr2, hm⟩ := hq
  refine Ops_call _ _ rfl rfl (EO.fn rfl Try.func22 rfl rfl (Evs.cons rfl (Evs.cons rfl (Evs.cons rfl (Evs.cons rfl Evs.nil))))) (CC.mono (c_spec_l10Times (l2 := l2) (A2 := A2) (c2 := c2) (l3 := l3) (A3 := A3) (c3 := c3) hr2 (RdS.le hs2 (Le.under (Le.under (Le.refl _) hb1) hb2)) (RdS.le hs3 (Le.under (Le.under (Le.refl _) hb1) hb2))) ?_)
  rintro _ _ ⟨b3, cap_b3, rfl, hb3, hk_b3, hc_b3, rfl⟩
  simp only [upd_noneA] at hb3
  obtain ⟨n_b3_b2, n_b3_b1, hb3⟩ := hb3
  refine Ops_quiet _ rfl rfl (QO.assign rfl rfl) ?_
  refine Ops_quiet _ rfl rfl (QO.assign rfl rfl) ?_
  refine Ops_nil ?_
  refine thenA_n ?_
  refine wpA_ret ?_
  obtain rfl := Option.some.inj hm
  exact retA_r (h2 := upd (h) b3 (.own 2 (ints .i64 r2) (cap_b3 * 1))) (Res.two rfl (rfl) (rfl)) (Le.upd_left (Le.under (Le.under (Le.under (Le.refl _) hb1) hb2) hb3) (upd_same _ _ _) (by first | rfl | (simp; done))) ⟨(some b3), cap_b3, (frO_some hb3), (OkO.some (by first | assumption | omega | (simp only [List.length_set, List.length_replicate]; first | done | assumption | omega)) (by first | assumption | (simp only [maxLen]; omega))), rfl, rfl⟩

/-! loop.example/g01195/laws.likeInts -/
theorem c_laws_likeInts {l0 : (List Int)} {A0 : Option Addr} {c0 : Nat} {l1 : (List Int)} {A1 : Option Addr} {c1 : Nat} {h : Hp} {r : Bool} (hm : m_laws_likeInts l0 l1 = some r) (hs0 : RdS h A0 (ints .i64 l0)) (hs1 : RdS h A1 (ints .i64 l1)) :
    QC Try.prog 8 #[.slice A0 l0.length c0, .slice A1 l1.length c1] h (.bool r) := by
 unfold m_laws_likeInts at hm
 refine CC.enter Try.func8 rfl Try.ntmps8 rfl ?_
 refine wpA_seq ?_
 refine wpA_region ?_
 refine Ops_quiet _ rfl rfl (QO.assign rfl rfl) ?_
 refine Ops_nil ?_
 refine thenA_n ?_
 refine wpA_seq ?_
 refine wpA_seq ?_
 refine wpA_region ?_
 refine Ops_quiet _ rfl rfl (QO.move rfl rfl) ?_
 refine Ops_quiet _ rfl rfl (QO.lenSl rfl sz29 rfl) ?_
 refine Ops_quiet _ rfl rfl (QO.move rfl rfl) ?_
 refine Ops_quiet _ rfl rfl (QO.lenSl rfl sz29 rfl) ?_
 refine Ops_quiet _ rfl rfl (QO.bin rfl rfl rfl rfl) ?_
 refine Ops_nil ?_
 refine thenA_n ?_
 refine wpA_cond rfl (fun g1 => ?_) (fun g1 => ?_)
 ·replace hm := cond_t hm g1
  refine wpA_seq ?_
  refine wpA_region ?_
  refine Ops_quiet _ rfl rfl (QO.assign rfl rfl) ?_
  refine Ops_nil ?_
  refine thenA_n ?_
  refine wpA_ret ?_
  refine thenA_r ?_
  obtain rfl := Option.some.inj hm
  exact retA_r (h2 := h) (Res.one rfl (rfl)) (Le.refl _) ⟨rfl, rfl⟩
 ·replace hm := cond_f hm g1
  refine wpA_skip ?_
  refine thenA_n ?_
  refine wpA_seq ?_
  refine wpA_seq ?_
  refine wpA_region ?_
  refine Ops_quiet _ rfl rfl (QO.assign rfl rfl) ?_
  refine Ops_nil ?_
  refine thenA_n ?_
  refine wpA_block ?_
  obtain ⟨R1, hR, hm⟩ := Option.bind_eq_some_iff.1 hm
  obtain ⟨k1, hk1⟩ := loopV_some hR
  clear hR
  refine wpA_mono (Q := fun e s' h' => match (generalizing := false) R1 with | .stop x id => e = .exit id ∧ ∃ (x1 : Int), x1 = x ∧ Sub s' [(0, .slice A0 l0.length c0), (1, .slice A1 l1.length c1), (5, .int .i64 x1)] ∧ Le (h) h' | .ret r => e = .ret ∧ Sub s' [(4, .bool r)] ∧ Le (h) h' | .next _ => False) ?_ ?_
  ·refine wpA_loop (fun k s' h' => ∃ (x1 : Int), loopW (m_laws_likeInts_l0 l0 l1) k x1 = some R1 ∧ Sub s' [(0, .slice A0 l0.length c0), (1, .slice A1 l1.length c1), (5, .int .i64 x1)] ∧ Le (h) h') (m := k1) ⟨0, hk1, (Sub.cons rfl (Sub.cons rfl (Sub.cons rfl Sub.nil))), (Le.refl _)⟩ ?_
   rintro k1 s' h' ⟨x1, hk1, hsub, hle⟩
   refine wpA_weaken hsub.ok hle ?_
   clear hsub hle s' h'
   cases k1 with
   | zero => exact absurd hk1 (by simp [loopW])
   | succ k1 =>
    obtain ⟨o1, ho1, hk1⟩ := loopW_succ hk1
    unfold m_laws_likeInts_l0 at ho1
    try dsimp only at ho1
    refine wpA_seq ?_
    refine wpA_seq ?_
    refine wpA_region ?_
    refine Ops_quiet _ rfl rfl (QO.move rfl rfl) ?_
    refine Ops_quiet _ rfl rfl (QO.move rfl rfl) ?_
    refine Ops_quiet _ rfl rfl (QO.lenSl rfl sz29 rfl) ?_
    refine Ops_quiet _ rfl rfl (QO.bin rfl rfl rfl rfl) ?_
    refine Ops_nil ?_
    refine thenA_n ?_
    refine wpA_cond rfl (fun g2 => ?_) (fun g2 => ?_)
    ·replace ho1 := cond_t ho1 g2
     refine wpA_skip ?_
     refine thenA_n ?_
     refine wpA_seq ?_
     refine wpA_block ?_
     refine wpA_seq ?_
     refine wpA_drawn (by kernel_rfl) (by kernel_rfl) ?_
     refine QOps.quiet _ rfl rfl (QO.move rfl rfl) ?_
     refine QOps.quiet _ rfl rfl (QO.move rfl rfl) ?_
     have hq := chk ho1; clear ho1; obtain ⟨ck1, ho1⟩ := hq
     refine QOps.quiet _ rfl rfl (QO.idxRd2 rfl sz29 sz2 rfl rfl (by omega) (by omega) hs0 (by simp [rowsC_length, rowsA_length, mpC_length, sqC_length, tbC_length, tabI_length, tabB_length, ints_length, plsC_length, trC_length, sqsC_length, strsC_length, boolsC_length, tbB_length, List.length_append, List.length_cons, List.length_nil, List.length_set, List.length_replicate, rep_length]) (by decide)) ?_
     refine QOps.quiet _ rfl rfl (QO.load rfl sz2 rfl rfl (by first | exact (RdS.rd (RdS.le hs0 (Le.refl _)) (by first | rfl | exact sqC_get (by omega) (by omega) | exact tbC_get (by omega) (by omega) | exact tbB_get (by omega) (by omega) | exact tabI_get01 (by omega) | exact tabB_get01 (by omega) | exact ints_get01 (by omega) | exact boolsC_get01 (by omega) | exact tabI_get (by omega) | exact tabB_get (by omega) | exact ints_get1 (by omega) | exact strsC_get01 (by omega) | exact strsC_get1 (by omega) | exact plsC_get (by omega) (by omega) | exact trC_a (by omega) | exact trC_b (by omega) | exact trC_c (by omega) | exact sqsC_ord (by omega) | exact sqsC_get (by omega) (by omega) (by omega))) | exact (RdS.rd2 (RdS.le hs0 (Le.refl _)) (by first | rfl | exact sqC_get (by omega) (by omega) | exact tbC_get (by omega) (by omega) | exact tbB_get (by omega) (by omega) | exact tabI_get01 (by omega) | exact tabB_get01 (by omega) | exact ints_get01 (by omega) | exact boolsC_get01 (by omega) | exact tabI_get (by omega) | exact tabB_get (by omega) | exact ints_get1 (by omega) | exact strsC_get01 (by omega) | exact strsC_get1 (by omega) | exact plsC_get (by omega) (by omega) | exact trC_a (by omega) | exact trC_b (by omega) | exact trC_c (by omega) | exact sqsC_ord (by omega) | exact sqsC_get (by omega) (by omega) (by omega))) | exact (RdS.rd3 (RdS.le hs0 (Le.refl _)) (by first | rfl | exact sqC_get (by omega) (by omega) | exact tbC_get (by omega) (by omega) | exact tbB_get (by omega) (by omega) | exact tabI_get01 (by omega) | exact tabB_get01 (by omega) | exact ints_get01 (by omega) | exact boolsC_get01 (by omega) | exact tabI_get (by omega) | exact tabB_get (by omega) | exact ints_get1 (by omega) | exact strsC_get01 (by omega) | exact strsC_get1 (by omega) | exact plsC_get (by omega) (by omega) | exact trC_a (by omega) | exact trC_b (by omega) | exact trC_c (by omega) | exact sqsC_ord (by omega) | exact sqsC_get (by omega) (by omega) (by omega))))) ?_
     refine QOps.quiet _ rfl rfl (QO.move rfl rfl) ?_
     refine QOps.quiet _ rfl rfl (QO.move rfl rfl) ?_
     have hq := chk ho1; clear ho1; obtain ⟨ck2, ho1⟩ := hq
     refine QOps.quiet _ rfl rfl (QO.idxRd2 rfl sz29 sz2 rfl rfl (by omega) (by omega) hs1 (by simp [rowsC_length, rowsA_length, mpC_length, sqC_length, tbC_length, tabI_length, tabB_length, ints_length, plsC_length, trC_length, sqsC_length, strsC_length, boolsC_length, tbB_length, List.length_append, List.length_cons, List.length_nil, List.length_set, List.length_replicate, rep_length]) (by decide)) ?_
     refine QOps.quiet _ rfl rfl (QO.load rfl sz2 rfl rfl (by first | exact (RdS.rd (RdS.le hs1 (Le.refl _)) (by first | rfl | exact sqC_get (by omega) (by omega) | exact tbC_get (by omega) (by omega) | exact tbB_get (by omega) (by omega) | exact tabI_get01 (by omega) | exact tabB_get01 (by omega) | exact ints_get01 (by omega) | exact boolsC_get01 (by omega) | exact tabI_get (by omega) | exact tabB_get (by omega) | exact ints_get1 (by omega) | exact strsC_get01 (by omega) | exact strsC_get1 (by omega) | exact plsC_get (by omega) (by omega) | exact trC_a (by omega) | exact trC_b (by omega) | exact trC_c (by omega) | exact sqsC_ord (by omega) | exact sqsC_get (by omega) (by omega) (by omega))) | exact (RdS.rd2 (RdS.le hs1 (Le.refl _)) (by first | rfl | exact sqC_get (by omega) (by omega) | exact tbC_get (by omega) (by omega) | exact tbB_get (by omega) (by omega) | exact tabI_get01 (by omega) | exact tabB_get01 (by omega) | exact ints_get01 (by omega) | exact boolsC_get01 (by omega) | exact tabI_get (by omega) | exact tabB_get (by omega) | exact ints_get1 (by omega) | exact strsC_get01 (by omega) | exact strsC_get1 (by omega) | exact plsC_get (by omega) (by omega) | exact trC_a (by omega) | exact trC_b (by omega) | exact trC_c (by omega) | exact sqsC_ord (by omega) | exact sqsC_get (by omega) (by omega) (by omega))) | exact (RdS.rd3 (RdS.le hs1 (Le.refl _)) (by first | rfl | exact sqC_get (by omega) (by omega) | exact tbC_get (by omega) (by omega) | exact tbB_get (by omega) (by omega) | exact tabI_get01 (by omega) | exact tabB_get01 (by omega) | exact ints_get01 (by omega) | exact boolsC_get01 (by omega) | exact tabI_get (by omega) | exact tabB_get (by omega) | exact ints_get1 (by omega) | exact strsC_get01 (by omega) | exact strsC_get1 (by omega) | exact plsC_get (by omega) (by omega) | exact trC_a (by omega) | exact trC_b (by omega) | exact trC_c (by omega) | exact sqsC_ord (by omega) | exact sqsC_get (by omega) (by omega) (by omega))))) ?_
     refine QOps.quiet _ rfl rfl (QO.bin rfl rfl rfl rfl) ?_
     refine QOps.nil ?_
     refine thenA_n ?_
     refine wpA_cond rfl (fun g3 => ?_) (fun g3 => ?_)
     ·replace ho1 := cond_t ho1 g3
      refine wpA_seq ?_
      refine wpA_region ?_
      refine Ops_quiet _ rfl rfl (QO.assign rfl rfl) ?_
      refine Ops_nil ?_
      refine thenA_n ?_
      refine wpA_ret ?_
      refine blockA_r ?_
      refine thenA_r ?_
      refine thenA_r ?_
      obtain rfl := Option.some.inj ho1
      obtain rfl := Option.some.inj hk1
      exact ⟨rfl, (Sub.cons rfl Sub.nil), (Le.refl _)⟩
     ·replace ho1 := cond_f ho1 g3
      refine wpA_skip ?_
      refine blockA_n ?_
      refine thenA_n ?_
      refine wpA_region ?_
      refine Ops_quiet _ rfl rfl (QO.move rfl rfl) ?_
      refine Ops_quiet _ rfl rfl (QO.bin rfl rfl rfl rfl) ?_
      refine Ops_quiet _ rfl rfl (QO.assign rfl rfl) ?_
      refine Ops_nil ?_
      obtain rfl := Option.some.inj ho1
      dsimp only at hk1
      exact thenA_n ⟨k1, Nat.lt_succ_self _, _, hk1, (Sub.cons rfl (Sub.cons rfl (Sub.cons rfl Sub.nil))), (Le.refl _)⟩
    ·replace ho1 := cond_f ho1 g2
     refine wpA_exit ?_
     refine thenA_e ?_
     refine thenA_e ?_
     obtain rfl := Option.some.inj ho1
     obtain rfl := Option.some.inj hk1
     exact ⟨rfl, _, rfl, (Sub.cons rfl (Sub.cons rfl (Sub.cons rfl Sub.nil))), (Le.refl _)⟩
  ·intro e s' h' hq
   cases R1 with
   | next x => exact hq.elim
   | ret r =>
    obtain ⟨rfl, hsub1, hle1⟩ := hq
    try dsimp only at hm
    refine blockA_r ?_
    refine thenA_r ?_
    obtain rfl := Option.some.inj hm
    refine retA_sub hsub1.ok hle1 ?_
    exact retA_r (h2 := h) (Res.one rfl (rfl)) (Le.refl _) ⟨rfl, rfl⟩
   | stop x id =>
    obtain ⟨rfl, x2, rfl, hsub2, hle2⟩ := hq
    try dsimp only at hm
    by_cases hid1 : id = 0
    ·subst hid1
     rw [if_pos rfl] at hm
     refine blockA_s ?_
     refine thenA_n ?_
     refine wpA_weaken hsub2.ok hle2 ?_
     refine wpA_seq ?_
     refine wpA_region ?_
     refine Ops_quiet _ rfl rfl (QO.assign rfl rfl) ?_
     refine Ops_nil ?_
     refine thenA_n ?_
     refine wpA_ret ?_
     obtain rfl := Option.some.inj hm
     exact retA_r (h2 := h) (Res.one rfl (rfl)) (Le.refl _) ⟨rfl, rfl⟩
    rw [if_neg hid1] at hm
    exact absurd hm (by simp)

/-! loop.example/g01195/impl.AddSums -/
theorem c_impl_AddSums {a0 : Sq} {a1 : Int} {l2 : (List Int)} {A2 : Option Addr} {c2 : Nat} {l3 : (List Int)} {A3 : Option Addr} {c3 : Nat} {h : Hp} {r : (List Int) × Int} (hm : m_impl_AddSums a0 a1 l2 l3 = some r) (hs2 : RdS h A2 (ints .i64 l2)) (hs3 : RdS h A3 (ints .i64 l3)) :
    CC Try.prog 9 #[.agg (sqC a0).toArray, .int .i64 a1, .slice A2 l2.length c2, .slice A3 l3.length c3] (h) (fun v h' => ∃ (b0 : Option Nat) (cap0 : Nat), FrO (h) b0 ∧ OkO b0 r.1.length cap0 ∧ v = .tuple #[.slice (adO b0) r.1.length cap0, .int .i64 r.2] ∧ h' = updO (h) b0 (.own 2 (ints .i64 r.1) (cap0 * 1))) := by
 unfold m_impl_AddSums at hm
 refine CC.enter Try.func9 rfl Try.ntmps9 rfl ?_
 refine wpA_seq ?_
 refine wpA_region ?_
 refine Ops_loud rfl (LO.boxAgg rfl rfl rfl (fun b1 hb1 => ?_))
 refine Ops_quiet _ rfl rfl (QO.assign rfl rfl) ?_
 refine Ops_quiet _ rfl rfl (QO.assign rfl rfl) ?_
 refine Ops_nil ?_
 refine thenA_n ?_
 refine wpA_seq ?_
 refine wpA_seq ?_
 refine wpA_region ?_
 refine Ops_quiet _ rfl rfl (QO.loadRow (cs := sqC a0) (hr := (rdAll (upd_same _ _ _))) rfl sz28 rfl rfl (sqC_length _)) ?_
 refine Ops_quiet _ rfl rfl (QO.move rfl rfl) ?_
 refine Ops_quiet _ rfl rfl (QO.move rfl rfl) ?_
 refine Ops_quiet _ rfl rfl (QO.move rfl rfl) ?_
 refine Ops_loud rfl (LO.slice' [(0, .slice A2 l2.length c2), (1, .slice A3 l3.length c3)] (r := [.slice A2 l2.length c2, .slice A3 l3.length c3]) rfl sz61 sz29 zr29 rfl (by decide) (by decide) (by decide) rfl rfl rfl rfl (fun b2 hb2 => ?_))
 simp only [upd_noneA] at hb2
 obtain ⟨n_b2_b1, hb2⟩ := hb2
 have hq := Option.bind_eq_some_iff.1 hm; clear hm; obtain ⟨r1, hr1, hm⟩ := hq
 refine Ops_call _ _ rfl rfl (EO.fn rfl Try.func19 rfl rfl (Evs.cons rfl (Evs.cons rfl (Evs.cons rfl Evs.nil)))) (QC.cc (c_impl_ringCode (l2 := [l2, l3]) (A2 := some ⟨b2, 0, none⟩) (c2 := 2) (ga2 := [(A2, c2), (A3, c3)]) hr1 (RdSS.two (upd_same _ _ _) (RdS.le hs2 (Le.under (Le.under (Le.refl _) hb1) hb2)) (RdS.le hs3 (Le.under (Le.under (Le.refl _) hb1) hb2)))) ?_)
 refine Ops_quiet _ rfl rfl (QO.assign rfl rfl) ?_
 refine Ops_nil ?_
 refine thenA_n ?_
 refine wpA_seq ?_
 refine wpA_region ?_
 refine Ops_quiet _ rfl rfl (QO.move rfl rfl) ?_
 refine Ops_quiet _ rfl rfl (QO.bin rfl rfl rfl rfl) ?_
 refine Ops_nil ?_
 refine thenA_n ?_
 refine wpA_cond rfl (fun g1 => ?_) (fun g1 => ?_)
 ·replace hm := cond_t hm g1
  refine wpA_seq ?_
  refine wpA_region ?_
  refine Ops_quiet _ rfl rfl (QO.move rfl rfl) ?_
  refine Ops_quiet _ rfl rfl (QO.assign rfl rfl) ?_
  refine Ops_quiet _ rfl rfl (QO.assign rfl rfl) ?_
  refine Ops_nil ?_
  refine thenA_n ?_
  refine wpA_ret ?_
  refine thenA_r ?_
  obtain rfl := Option.some.inj hm
  exact retA_r (h2 := h) (Res.two rfl (rfl) (rfl)) (Le.under (Le.under (Le.refl _) hb1) hb2) ⟨none, 0, frO_none, OkO.none, rfl, rfl⟩
 ·replace hm := cond_f hm g1
  refine wpA_skip ?_
  refine thenA_n ?_
  refine wpA_seq ?_
  refine wpA_region ?_
  refine Ops_loud rfl (LO.sliceNil rfl sz29 sz2 rfl (fun b3 hb3 => ?_))
  simp only [upd_noneA] at hb3
  obtain ⟨n_b3_b2, n_b3_b1, hb3⟩ := hb3
  refine Ops_quiet _ rfl rfl (QO.assign rfl rfl) ?_
  refine Ops_nil ?_
  refine thenA_n ?_
  refine wpA_seq ?_
  refine wpA_seq ?_
  refine wpA_region ?_
  refine Ops_quiet _ rfl rfl (QO.move rfl rfl) ?_
  refine Ops_quiet _ rfl rfl (QO.lenSl rfl sz29 rfl) ?_
  refine Ops_quiet _ rfl rfl (QO.move rfl rfl) ?_
  refine Ops_nil ?_
  refine thenA_n ?_
  refine wpA_block ?_
  obtain ⟨R1, hR, hm⟩ := Option.bind_eq_some_iff.1 hm
  obtain ⟨k1, hk1⟩ := loopV_some hR
  clear hR
  refine wpA_mono (Q := fun e s' h' => match (generalizing := false) R1 with | .stop x id => e = .exit id ∧ ∃ (x1 : (List Int)) (x2 : Int) (b4 cap_b4 : Nat), (x1, x2) = x ∧ (h) b4 = none ∧ x1.length ≤ cap_b4 ∧ cap_b4 ≤ maxLen ∧ Sub s' [(1, .int .i64 a1), (3, .slice A3 l3.length c3), (11, .slice (some ⟨b4, 0, none⟩) x1.length cap_b4), (24, .slice A2 l2.length c2), (25, .int .i64 ((l2.length : Nat) : Int)), (26, .int .i64 x2)] ∧ Le (upd (h) b4 (.own 2 (ints .i64 x1) (cap_b4 * 1))) h' | .ret r => False | .next _ => False) ?_ ?_
  ·refine wpA_loop (fun k s' h' => ∃ (x1 : (List Int)) (x2 : Int) (b4 cap_b4 : Nat), loopW (m_impl_AddSums_l0 a1 l2 l3) k (x1, x2) = some R1 ∧ (h) b4 = none ∧ x1.length ≤ cap_b4 ∧ cap_b4 ≤ maxLen ∧ Sub s' [(1, .int .i64 a1), (3, .slice A3 l3.length c3), (11, .slice (some ⟨b4, 0, none⟩) x1.length cap_b4), (24, .slice A2 l2.length c2), (25, .int .i64 ((l2.length : Nat) : Int)), (26, .int .i64 x2)] ∧ Le (upd (h) b4 (.own 2 (ints .i64 x1) (cap_b4 * 1))) h') (m := k1) ⟨[], 0, b3, 0, hk1, hb3, (by first | assumption | (simp; done) | omega), (by first | assumption | (simp only [maxLen]; omega)), (Sub.cons rfl (Sub.cons rfl (Sub.cons rfl (Sub.cons rfl (Sub.cons rfl (Sub.cons rfl Sub.nil)))))), (Le.upd_left (Le.under (Le.under (Le.under (Le.refl _) hb1) hb2) hb3) (upd_same _ _ _) (by first | rfl | (simp; done)))⟩ ?_
   rintro k1 s' h' ⟨x1, x2, b4, cap_b4, hk1, hb4, hk_b4, hc_b4, hsub, hle⟩
   refine wpA_weaken hsub.ok hle ?_
   clear hsub hle s' h'
   cases k1 with
   | zero => exact absurd hk1 (by simp [loopW])
   | succ k1 =>
    obtain ⟨o1, ho1, hk1⟩ := loopW_succ hk1
    unfold m_impl_AddSums_l0 at ho1
    try dsimp only at ho1
    refine wpA_seq ?_
    refine wpA_region ?_
    refine Ops_quiet _ rfl rfl (QO.bin rfl rfl rfl rfl) ?_
    refine Ops_nil ?_
    refine thenA_n ?_
    refine wpA_seq ?_
    refine wpA_cond rfl (fun g2 => ?_) (fun g2 => ?_)
    ·replace ho1 := cond_t ho1 g2
     refine wpA_skip ?_
     refine thenA_n ?_
     refine wpA_seq ?_
     refine wpA_block ?_
     refine wpA_seq ?_
     refine wpA_region ?_
     refine Ops_quiet _ rfl rfl (QO.move rfl rfl) ?_
     have hq := chk ho1; clear ho1; obtain ⟨ck1, ho1⟩ := hq
     refine Ops_quiet _ rfl rfl (QO.idxRd2 rfl sz29 sz2 rfl rfl (by omega) (by omega) hs2 (by simp [rowsC_length, rowsA_length, mpC_length, sqC_length, tbC_length, tabI_length, tabB_length, ints_length, plsC_length, trC_length, sqsC_length, strsC_length, boolsC_length, tbB_length, List.length_append, List.length_cons, List.length_nil, List.length_set, List.length_replicate, rep_length]) (by decide)) ?_
     refine Ops_quiet _ rfl rfl (QO.load rfl sz2 rfl rfl (by first | exact (RdS.rd (RdS.le hs2 (Le.under (Le.refl _) hb4)) (by first | rfl | exact sqC_get (by omega) (by omega) | exact tbC_get (by omega) (by omega) | exact tbB_get (by omega) (by omega) | exact tabI_get01 (by omega) | exact tabB_get01 (by omega) | exact ints_get01 (by omega) | exact boolsC_get01 (by omega) | exact tabI_get (by omega) | exact tabB_get (by omega) | exact ints_get1 (by omega) | exact strsC_get01 (by omega) | exact strsC_get1 (by omega) | exact plsC_get (by omega) (by omega) | exact trC_a (by omega) | exact trC_b (by omega) | exact trC_c (by omega) | exact sqsC_ord (by omega) | exact sqsC_get (by omega) (by omega) (by omega))) | exact (RdS.rd2 (RdS.le hs2 (Le.under (Le.refl _) hb4)) (by first | rfl | exact sqC_get (by omega) (by omega) | exact tbC_get (by omega) (by omega) | exact tbB_get (by omega) (by omega) | exact tabI_get01 (by omega) | exact tabB_get01 (by omega) | exact ints_get01 (by omega) | exact boolsC_get01 (by omega) | exact tabI_get (by omega) | exact tabB_get (by omega) | exact ints_get1 (by omega) | exact strsC_get01 (by omega) | exact strsC_get1 (by omega) | exact plsC_get (by omega) (by omega) | exact trC_a (by omega) | exact trC_b (by omega) | exact trC_c (by omega) | exact sqsC_ord (by omega) | exact sqsC_get (by omega) (by omega) (by omega))) | exact (RdS.rd3 (RdS.le hs2 (Le.under (Le.refl _) hb4)) (by first | rfl | exact sqC_get (by omega) (by omega) | exact tbC_get (by omega) (by omega) | exact tbB_get (by omega) (by omega) | exact tabI_get01 (by omega) | exact tabB_get01 (by omega) | exact ints_get01 (by omega) | exact boolsC_get01 (by omega) | exact tabI_get (by omega) | exact tabB_get (by omega) | exact ints_get1 (by omega) | exact strsC_get01 (by omega) | exact strsC_get1 (by omega) | exact plsC_get (by omega) (by omega) | exact trC_a (by omega) | exact trC_b (by omega) | exact trC_c (by omega) | exact sqsC_ord (by omega) | exact sqsC_get (by omega) (by omega) (by omega))))) ?_
     refine Ops_quiet _ rfl rfl (QO.assign rfl rfl) ?_
     refine Ops_quiet _ rfl rfl (QO.assign rfl rfl) ?_
     refine Ops_nil ?_
     refine thenA_n ?_
     refine wpA_region ?_
     refine Ops_quiet _ rfl rfl (QO.move rfl rfl) ?_
     refine Ops_quiet _ rfl rfl (QO.move rfl rfl) ?_
     refine Ops_quiet _ rfl rfl (QO.move rfl rfl) ?_
     refine Ops_quiet _ rfl rfl (QO.move rfl rfl) ?_
     have hq := chk ho1; clear ho1; obtain ⟨ck2, ho1⟩ := hq
     refine Ops_quiet _ rfl rfl (QO.idxRd2 rfl sz29 sz2 rfl rfl (by omega) (by omega) hs3 (by simp [rowsC_length, rowsA_length, mpC_length, sqC_length, tbC_length, tabI_length, tabB_length, ints_length, plsC_length, trC_length, sqsC_length, strsC_length, boolsC_length, tbB_length, List.length_append, List.length_cons, List.length_nil, List.length_set, List.length_replicate, rep_length]) (by decide)) ?_
     refine Ops_quiet _ rfl rfl (QO.load rfl sz2 rfl rfl (by first | exact (RdS.rd (RdS.le hs3 (Le.under (Le.refl _) hb4)) (by first | rfl | exact sqC_get (by omega) (by omega) | exact tbC_get (by omega) (by omega) | exact tbB_get (by omega) (by omega) | exact tabI_get01 (by omega) | exact tabB_get01 (by omega) | exact ints_get01 (by omega) | exact boolsC_get01 (by omega) | exact tabI_get (by omega) | exact tabB_get (by omega) | exact ints_get1 (by omega) | exact strsC_get01 (by omega) | exact strsC_get1 (by omega) | exact plsC_get (by omega) (by omega) | exact trC_a (by omega) | exact trC_b (by omega) | exact trC_c (by omega) | exact sqsC_ord (by omega) | exact sqsC_get (by omega) (by omega) (by omega))) | exact (RdS.rd2 (RdS.le hs3 (Le.under (Le.refl _) hb4)) (by first | rfl | exact sqC_get (by omega) (by omega) | exact tbC_get (by omega) (by omega) | exact tbB_get (by omega) (by omega) | exact tabI_get01 (by omega) | exact tabB_get01 (by omega) | exact ints_get01 (by omega) | exact boolsC_get01 (by omega) | exact tabI_get (by omega) | exact tabB_get (by omega) | exact ints_get1 (by omega) | exact strsC_get01 (by omega) | exact strsC_get1 (by omega) | exact plsC_get (by omega) (by omega) | exact trC_a (by omega) | exact trC_b (by omega) | exact trC_c (by omega) | exact sqsC_ord (by omega) | exact sqsC_get (by omega) (by omega) (by omega))) | exact (RdS.rd3 (RdS.le hs3 (Le.under (Le.refl _) hb4)) (by first | rfl | exact sqC_get (by omega) (by omega) | exact tbC_get (by omega) (by omega) | exact tbB_get (by omega) (by omega) | exact tabI_get01 (by omega) | exact tabB_get01 (by omega) | exact ints_get01 (by omega) | exact boolsC_get01 (by omega) | exact tabI_get (by omega) | exact tabB_get (by omega) | exact ints_get1 (by omega) | exact strsC_get01 (by omega) | exact strsC_get1 (by omega) | exact plsC_get (by omega) (by omega) | exact trC_a (by omega) | exact trC_b (by omega) | exact trC_c (by omega) | exact sqsC_ord (by omega) | exact sqsC_get (by omega) (by omega) (by omega))))) ?_
     refine Ops_quiet _ rfl rfl (QO.bin rfl rfl rfl rfl) ?_
     refine Ops_quiet _ rfl rfl (QO.move rfl rfl) ?_
     have hq := chk ho1; clear ho1; obtain ⟨ck3, ho1⟩ := hq
     refine Ops_quiet _ rfl rfl (QO.rem rfl rfl rfl (by first | assumption | omega)) ?_
     refine Ops_loud rfl (LO.slice1 (r := ints .i64 [((IntKind.i64.wrap ((l2.getD (x2).toNat 0) + (l3.getD (x2).toNat 0))).tmod a1)]) rfl sz29 sz2 zr2 (by first | rfl | (simp [rowsC_length, rowsA_length, mpC_length, sqC_length, tbC_length, tabI_length, tabB_length, ints_length, plsC_length, trC_length, sqsC_length, strsC_length, boolsC_length, tbB_length, List.length_append, List.length_cons, List.length_nil, List.length_set, List.length_replicate, rep_length]; done)) (by decide) (by decide) rfl rfl (by first | rfl | (simp [rowsC_length, rowsA_length, mpC_length, sqC_length, tbC_length, tabI_length, tabB_length, ints_length, plsC_length, trC_length, sqsC_length, strsC_length, boolsC_length, tbB_length, List.length_append, List.length_cons, List.length_nil, List.length_set, List.length_replicate, rep_length]; done)) rfl (fun b5 hb5 => ?_))
     simp only [upd_noneA] at hb5
     obtain ⟨n_b5_b4, hb5⟩ := hb5
     have hq := chk ho1; clear ho1; obtain ⟨ck4, ho1⟩ := hq
     refine Ops_loud rfl (LO.append2 (ys := ints .i64 [((IntKind.i64.wrap ((l2.getD (x2).toNat 0) + (l3.getD (x2).toNat 0))).tmod a1)]) (k' := (x1 ++ [((IntKind.i64.wrap ((l2.getD (x2).toNat 0) + (l3.getD (x2).toNat 0))).tmod a1)]).length) (xs' := ints .i64 (x1 ++ [((IntKind.i64.wrap ((l2.getD (x2).toNat 0) + (l3.getD (x2).toNat 0))).tmod a1)])) rfl sz29 el2 rfl rfl (Del.drop n_b5_b4.ne hb5 (Del.here hb4)) (by first | assumption | omega) (by first | assumption | (simp only [maxLen]; omega)) (by first | rfl | (simp [rowsC_length, rowsA_length, mpC_length, sqC_length, tbC_length, tabI_length, tabB_length, ints_length, plsC_length, trC_length, sqsC_length, strsC_length, boolsC_length, tbB_length, List.length_append, List.length_cons, List.length_nil, List.length_set, List.length_replicate, rep_length]; done) | (simp [rowsC_length, rowsA_length, mpC_length, sqC_length, tbC_length, tabI_length, tabB_length, ints_length, plsC_length, trC_length, sqsC_length, strsC_length, boolsC_length, tbB_length, List.length_append, List.length_cons, List.length_nil, List.length_set, List.length_replicate, rep_length]; omega)) (by first | rfl | (simp [rowsC_length, rowsA_length, mpC_length, sqC_length, tbC_length, tabI_length, tabB_length, ints_length, plsC_length, trC_length, sqsC_length, strsC_length, boolsC_length, tbB_length, List.length_append, List.length_cons, List.length_nil, List.length_set, List.length_replicate, rep_length]; done) | (simp [rowsC_length, rowsA_length, mpC_length, sqC_length, tbC_length, tabI_length, tabB_length, ints_length, plsC_length, trC_length, sqsC_length, strsC_length, boolsC_length, tbB_length, List.length_append, List.length_cons, List.length_nil, List.length_set, List.length_replicate, rep_length]; omega)) (RdS.own (upd_same _ _ _)) (by first | assumption | exact tabI_one _ _ _ | exact tbC_one _ | exact sqC_one _ | exact tabB_one _ _ | exact ints_one _ _ | exact plsC_one _ | exact strsC_one _ | exact srcC_one _ _ _ _ | (intro v hv; simp at hv; subst hv; rfl)) (by decide) (by omega) (by decide) (by decide) rfl (by first | rfl | (simp [rowsC_length, rowsA_length, mpC_length, sqC_length, tbC_length, tabI_length, tabB_length, ints_length, plsC_length, trC_length, sqsC_length, strsC_length, boolsC_length, tbB_length, List.length_append, List.length_cons, List.length_nil, List.length_set, List.length_replicate, rep_length]; done) | (simp [rowsC_length, rowsA_length, mpC_length, sqC_length, tbC_length, tabI_length, tabB_length, ints_length, plsC_length, trC_length, sqsC_length, strsC_length, boolsC_length, tbB_length, List.length_append, List.length_cons, List.length_nil, List.length_set, List.length_replicate, rep_length]; omega)) (by first | rfl | (simp [ints, plsC, sqsC, boolsC, strsC]; done)) (fun b6 cap_b6 hb6 hk_b6 hc_b6 => ?_))
     refine Ops_quiet _ rfl rfl (QO.assign rfl rfl) ?_
     refine Ops_nil ?_
     refine blockA_n ?_
     refine thenA_n ?_
     refine wpA_region ?_
     refine Ops_quiet _ rfl rfl (QO.bin rfl rfl rfl rfl) ?_
     refine Ops_quiet _ rfl rfl (QO.move rfl rfl) ?_
     refine Ops_nil ?_
     obtain rfl := Option.some.inj ho1
     dsimp only at hk1
     exact thenA_n ⟨k1, Nat.lt_succ_self _, _, _, b6, cap_b6, hk1, hb6, (by first | assumption | (simp; done) | omega), (by first | assumption | (simp only [maxLen]; omega)), (Sub.cons rfl (Sub.cons rfl (Sub.cons rfl (Sub.cons rfl (Sub.cons rfl (Sub.cons rfl Sub.nil)))))), (Le.upd_left (Le.under (Le.refl _) hb6) (upd_same _ _ _) (by first | rfl | (simp; done)))⟩
    ·replace ho1 := cond_f ho1 g2
     refine wpA_exit ?_
     refine thenA_e ?_
     refine thenA_e ?_
     obtain rfl := Option.some.inj ho1
     obtain rfl := Option.some.inj hk1
     exact ⟨rfl, _, _, b4, cap_b4, rfl, hb4, (by first | assumption | (simp; done) | omega), (by first | assumption | (simp only [maxLen]; omega)), (Sub.cons rfl (Sub.cons rfl (Sub.cons rfl (Sub.cons rfl (Sub.cons rfl (Sub.cons rfl Sub.nil)))))), (Le.upd_left (Le.under (Le.refl _) hb4) (upd_same _ _ _) (by first | rfl | (simp; done)))⟩
  ·intro e s' h' hq
   cases R1 with
   | next x => exact hq.elim
   | ret r => exact hq.elim
   | stop x id =>
    obtain ⟨rfl, x3, x4, b7, cap_b7, rfl, hb7, hk_b7, hc_b7, hsub1, hle1⟩ := hq
    try dsimp only at hm
    by_cases hid1 : id = 0
    ·subst hid1
     rw [if_pos rfl] at hm
     refine blockA_s ?_
     refine thenA_n ?_
     refine wpA_weaken hsub1.ok hle1 ?_
     refine wpA_seq ?_
     refine wpA_region ?_
     refine Ops_quiet _ rfl rfl (QO.move rfl rfl) ?_
     refine Ops_quiet _ rfl rfl (QO.assign rfl rfl) ?_
     refine Ops_quiet _ rfl rfl (QO.assign rfl rfl) ?_
     refine Ops_nil ?_
     refine thenA_n ?_
     refine wpA_ret ?_
     obtain rfl := Option.some.inj hm
     exact retA_r (h2 := upd (h) b7 (.own 2 (ints .i64 x3) (cap_b7 * 1))) (Res.two rfl (rfl) (rfl)) (Le.upd_left (Le.under (Le.refl _) hb7) (upd_same _ _ _) (by first | rfl | (simp; done))) ⟨(some b7), cap_b7, (frO_some hb7), (OkO.some (by first | assumption | omega | (simp only [List.length_set, List.length_replicate]; first | done | assumption | omega)) (by first | assumption | (simp only [maxLen]; omega))), rfl, rfl⟩
    rw [if_neg hid1] at hm
    exact absurd hm (by simp)

/-! loop.example/g01195/spec.l10Add -/
theorem c_spec_l10Add {a0 : Int} {l1 : (List Int)} {A1 : Option Addr} {c1 : Nat} {l2 : (List Int)} {A2 : Option Addr} {c2 : Nat} {a3 : Int} {h : Hp} {r : (List Int)} (hm : m_spec_l10Add a0 l1 l2 a3 = some r) (hs1 : RdS h A1 (ints .i64 l1)) (hs2 : RdS h A2 (ints .i64 l2)) :
    CC Try.prog 23 #[.int .i64 a0, .slice A1 l1.length c1, .slice A2 l2.length c2, .int .i64 a3] h (NewSl 2 1 (ints .i64 r) r.length h) := by
 unfold m_spec_l10Add at hm
 refine CC.enter Try.func23 rfl Try.ntmps23 rfl ?_
 refine wpA_seq ?_
 refine wpA_region ?_
 refine Ops_quiet _ rfl rfl (QO.assign rfl rfl) ?_
 refine Ops_nil ?_
 refine thenA_n ?_
 refine wpA_seq ?_
 refine wpA_region ?_
 refine Ops_loud rfl (LO.sliceNil rfl sz29 sz2 rfl (fun b1 hb1 => ?_))
 refine Ops_quiet _ rfl rfl (QO.assign rfl rfl) ?_
 refine Ops_nil ?_
 refine thenA_n ?_
 refine wpA_seq ?_
 refine wpA_seq ?_
 refine wpA_region ?_
 refine Ops_quiet _ rfl rfl (QO.assign rfl rfl) ?_
 refine Ops_nil ?_
 refine thenA_n ?_
 refine wpA_block ?_
 obtain ⟨R1, hR, hm⟩ := Option.bind_eq_some_iff.1 hm
 obtain ⟨k1, hk1⟩ := loopV_some hR
 clear hR
 refine wpA_mono (Q := fun e s' h' => match (generalizing := false) R1 with | .stop x id => e = .exit id ∧ ∃ (x1 : (List Int)) (x2 : Int) (b2 cap_b2 : Nat), (x1, x2) = x ∧ (h) b2 = none ∧ x1.length ≤ cap_b2 ∧ cap_b2 ≤ maxLen ∧ Sub s' [(0, .int .i64 a0), (1, .slice A1 l1.length c1), (2, .slice A2 l2.length c2), (3, .int .i64 a3), (9, .slice (some ⟨b2, 0, none⟩) x1.length cap_b2), (10, .int .i64 x2)] ∧ Le (upd (h) b2 (.own 2 (ints .i64 x1) (cap_b2 * 1))) h' | .ret r => False | .next _ => False) ?_ ?_
 ·refine wpA_loop (fun k s' h' => ∃ (x1 : (List Int)) (x2 : Int) (b2 cap_b2 : Nat), loopW (m_spec_l10Add_l0 a0 l1 l2 a3) k (x1, x2) = some R1 ∧ (h) b2 = none ∧ x1.length ≤ cap_b2 ∧ cap_b2 ≤ maxLen ∧ Sub s' [(0, .int .i64 a0), (1, .slice A1 l1.length c1), (2, .slice A2 l2.length c2), (3, .int .i64 a3), (9, .slice (some ⟨b2, 0, none⟩) x1.length cap_b2), (10, .int .i64 x2)] ∧ Le (upd (h) b2 (.own 2 (ints .i64 x1) (cap_b2 * 1))) h') (m := k1) ⟨[], 0, b1, 0, hk1, hb1, (by first | assumption | (simp; done) | omega), (by first | assumption | (simp only [maxLen]; omega)), (Sub.cons rfl (Sub.cons rfl (Sub.cons rfl (Sub.cons rfl (Sub.cons rfl (Sub.cons rfl Sub.nil)))))), (Le.upd_left (Le.under (Le.refl _) hb1) (upd_same _ _ _) (by first | rfl | (simp; done)))⟩ ?_
  rintro k1 s' h' ⟨x1, x2, b2, cap_b2, hk1, hb2, hk_b2, hc_b2, hsub, hle⟩
  refine wpA_weaken hsub.ok hle ?_
  clear hsub hle s' h'
  cases k1 with
  | zero => exact absurd hk1 (by simp [loopW])
  | succ k1 =>
   obtain ⟨o1, ho1, hk1⟩ := loopW_succ hk1
   unfold m_spec_l10Add_l0 at ho1
   try dsimp only at ho1
   refine wpA_seq ?_
   refine wpA_seq ?_
   refine wpA_region ?_
   refine Ops_quiet _ rfl rfl (QO.move rfl rfl) ?_
   refine Ops_quiet _ rfl rfl (QO.move rfl rfl) ?_
   refine Ops_quiet _ rfl rfl (QO.lenSl rfl sz29 rfl) ?_
   refine Ops_quiet _ rfl rfl (QO.bin rfl rfl rfl rfl) ?_
   refine Ops_nil ?_
   refine thenA_n ?_
   refine wpA_cond rfl (fun g1 => ?_) (fun g1 => ?_)
   ·replace ho1 := cond_t ho1 g1
    refine wpA_skip ?_
    refine thenA_n ?_
    refine wpA_seq ?_
    refine wpA_block ?_
    refine wpA_any (h) [18, 19] [] (by kernel_rfl) (by kernel_rfl) (DW.start ?_)
    refine DW.pure' 0 _ rfl (by kernel_rfl) rfl (fun _ => QO.move rfl rfl) ?_
    refine DW.pure' 1 _ rfl (by kernel_rfl) rfl (fun _ => QO.move rfl rfl) ?_
    refine DW.pure' 2 _ rfl (by kernel_rfl) rfl (fun _ => QO.move rfl rfl) ?_
    have hq := chk ho1; clear ho1; obtain ⟨ck1, ho1⟩ := hq
    refine DW.pure' 3 _ rfl (by kernel_rfl) rfl (fun _ => QO.idxRd2 rfl sz29 sz2 rfl rfl (by omega) (by omega) hs1 (by simp [rowsC_length, rowsA_length, mpC_length, sqC_length, tbC_length, tabI_length, tabB_length, ints_length, plsC_length, trC_length, sqsC_length, strsC_length, boolsC_length, tbB_length, List.length_append, List.length_cons, List.length_nil, List.length_set, List.length_replicate, rep_length]) (by decide)) ?_
    refine DW.read' 4 _ rfl (by kernel_rfl) rfl (QO.load rfl sz2 rfl rfl (by first | exact (RdS.rd (RdS.le hs1 (Le.under (Le.refl _) hb2)) (by first | rfl | exact sqC_get (by omega) (by omega) | exact tbC_get (by omega) (by omega) | exact tbB_get (by omega) (by omega) | exact tabI_get01 (by omega) | exact tabB_get01 (by omega) | exact ints_get01 (by omega) | exact boolsC_get01 (by omega) | exact tabI_get (by omega) | exact tabB_get (by omega) | exact ints_get1 (by omega) | exact strsC_get01 (by omega) | exact strsC_get1 (by omega) | exact plsC_get (by omega) (by omega) | exact trC_a (by omega) | exact trC_b (by omega) | exact trC_c (by omega) | exact sqsC_ord (by omega) | exact sqsC_get (by omega) (by omega) (by omega))) | exact (RdS.rd2 (RdS.le hs1 (Le.under (Le.refl _) hb2)) (by first | rfl | exact sqC_get (by omega) (by omega) | exact tbC_get (by omega) (by omega) | exact tbB_get (by omega) (by omega) | exact tabI_get01 (by omega) | exact tabB_get01 (by omega) | exact ints_get01 (by omega) | exact boolsC_get01 (by omega) | exact tabI_get (by omega) | exact tabB_get (by omega) | exact ints_get1 (by omega) | exact strsC_get01 (by omega) | exact strsC_get1 (by omega) | exact plsC_get (by omega) (by omega) | exact trC_a (by omega) | exact trC_b (by omega) | exact trC_c (by omega) | exact sqsC_ord (by omega) | exact sqsC_get (by omega) (by omega) (by omega))) | exact (RdS.rd3 (RdS.le hs1 (Le.under (Le.refl _) hb2)) (by first | rfl | exact sqC_get (by omega) (by omega) | exact tbC_get (by omega) (by omega) | exact tbB_get (by omega) (by omega) | exact tabI_get01 (by omega) | exact tabB_get01 (by omega) | exact ints_get01 (by omega) | exact boolsC_get01 (by omega) | exact tabI_get (by omega) | exact tabB_get (by omega) | exact ints_get1 (by omega) | exact strsC_get01 (by omega) | exact strsC_get1 (by omega) | exact plsC_get (by omega) (by omega) | exact trC_a (by omega) | exact trC_b (by omega) | exact trC_c (by omega) | exact sqsC_ord (by omega) | exact sqsC_get (by omega) (by omega) (by omega))))) ?_
    refine DW.pure' 5 _ rfl (by kernel_rfl) rfl (fun _ => QO.move rfl rfl) ?_
    refine DW.pure' 6 _ rfl (by kernel_rfl) rfl (fun _ => QO.move rfl rfl) ?_
    refine DW.pure' 7 _ rfl (by kernel_rfl) rfl (fun _ => QO.move rfl rfl) ?_
    have hq := chk ho1; clear ho1; obtain ⟨ck2, ho1⟩ := hq
    refine DW.pure' 8 _ rfl (by kernel_rfl) rfl (fun _ => QO.idxRd2 rfl sz29 sz2 rfl rfl (by omega) (by omega) hs2 (by simp [rowsC_length, rowsA_length, mpC_length, sqC_length, tbC_length, tabI_length, tabB_length, ints_length, plsC_length, trC_length, sqsC_length, strsC_length, boolsC_length, tbB_length, List.length_append, List.length_cons, List.length_nil, List.length_set, List.length_replicate, rep_length]) (by decide)) ?_
    refine DW.read' 9 _ rfl (by kernel_rfl) rfl (QO.load rfl sz2 rfl rfl (by first | exact (RdS.rd (RdS.le hs2 (Le.under (Le.refl _) hb2)) (by first | rfl | exact sqC_get (by omega) (by omega) | exact tbC_get (by omega) (by omega) | exact tbB_get (by omega) (by omega) | exact tabI_get01 (by omega) | exact tabB_get01 (by omega) | exact ints_get01 (by omega) | exact boolsC_get01 (by omega) | exact tabI_get (by omega) | exact tabB_get (by omega) | exact ints_get1 (by omega) | exact strsC_get01 (by omega) | exact strsC_get1 (by omega) | exact plsC_get (by omega) (by omega) | exact trC_a (by omega) | exact trC_b (by omega) | exact trC_c (by omega) | exact sqsC_ord (by omega) | exact sqsC_get (by omega) (by omega) (by omega))) | exact (RdS.rd2 (RdS.le hs2 (Le.under (Le.refl _) hb2)) (by first | rfl | exact sqC_get (by omega) (by omega) | exact tbC_get (by omega) (by omega) | exact tbB_get (by omega) (by omega) | exact tabI_get01 (by omega) | exact tabB_get01 (by omega) | exact ints_get01 (by omega) | exact boolsC_get01 (by omega) | exact tabI_get (by omega) | exact tabB_get (by omega) | exact ints_get1 (by omega) | exact strsC_get01 (by omega) | exact strsC_get1 (by omega) | exact plsC_get (by omega) (by omega) | exact trC_a (by omega) | exact trC_b (by omega) | exact trC_c (by omega) | exact sqsC_ord (by omega) | exact sqsC_get (by omega) (by omega) (by omega))) | exact (RdS.rd3 (RdS.le hs2 (Le.under (Le.refl _) hb2)) (by first | rfl | exact sqC_get (by omega) (by omega) | exact tbC_get (by omega) (by omega) | exact tbB_get (by omega) (by omega) | exact tabI_get01 (by omega) | exact tabB_get01 (by omega) | exact ints_get01 (by omega) | exact boolsC_get01 (by omega) | exact tabI_get (by omega) | exact tabB_get (by omega) | exact ints_get1 (by omega) | exact strsC_get01 (by omega) | exact strsC_get1 (by omega) | exact plsC_get (by omega) (by omega) | exact trC_a (by omega) | exact trC_b (by omega) | exact trC_c (by omega) | exact sqsC_ord (by omega) | exact sqsC_get (by omega) (by omega) (by omega))))) ?_
    refine DW.pure' 10 _ rfl (by kernel_rfl) rfl (fun _ => QO.bin rfl rfl rfl rfl) ?_
    refine DW.pure' 11 _ rfl (by kernel_rfl) rfl (fun _ => QO.bin rfl rfl rfl rfl) ?_
    refine DW.pure' 12 _ rfl (by kernel_rfl) rfl (fun _ => QO.move rfl rfl) ?_
    have hq := chk ho1; clear ho1; obtain ⟨ck3, ho1⟩ := hq
    refine DW.pure' 13 _ rfl (by kernel_rfl) rfl (fun _ => QO.rem rfl rfl rfl (by first | assumption | omega)) ?_
    refine DW.pure' 14 _ rfl (by kernel_rfl) rfl (fun _ => QO.move rfl rfl) ?_
    refine DW.pure' 15 _ rfl (by kernel_rfl) rfl (fun _ => QO.bin rfl rfl rfl rfl) ?_
    refine DW.pure' 16 _ rfl (by kernel_rfl) rfl (fun _ => QO.move rfl rfl) ?_
    have hq := chk ho1; clear ho1; obtain ⟨ck4, ho1⟩ := hq
    refine DW.pure' 17 _ rfl (by kernel_rfl) rfl (fun _ => QO.rem rfl rfl rfl (by first | assumption | omega)) ?_
    refine DW.loud 18 rfl (by kernel_rfl) rfl rfl (LO.slice1 (r := ints .i64 [((IntKind.i64.wrap (((IntKind.i64.wrap ((l1.getD (x2).toNat 0) + (IntKind.i64.wrap (a3 * (l2.getD (x2).toNat 0))))).tmod a0) + a0)).tmod a0)]) rfl sz29 sz2 zr2 (by first | rfl | (simp [rowsC_length, rowsA_length, mpC_length, sqC_length, tbC_length, tabI_length, tabB_length, ints_length, plsC_length, trC_length, sqsC_length, strsC_length, boolsC_length, tbB_length, List.length_append, List.length_cons, List.length_nil, List.length_set, List.length_replicate, rep_length]; done)) (by decide) (by decide) rfl rfl (by first | rfl | (simp [rowsC_length, rowsA_length, mpC_length, sqC_length, tbC_length, tabI_length, tabB_length, ints_length, plsC_length, trC_length, sqsC_length, strsC_length, boolsC_length, tbB_length, List.length_append, List.length_cons, List.length_nil, List.length_set, List.length_replicate, rep_length]; done)) rfl (fun b3 hb3 => ?_))
    simp only [upd_noneA] at hb3
    obtain ⟨n_b3_b2, hb3⟩ := hb3
    refine ⟨(fun _ => (Le.under (Le.under (Le.refl _) hb2) hb3)), ?_⟩
    have hq := chk ho1; clear ho1; obtain ⟨ck5, ho1⟩ := hq
    refine DW.loud 19 rfl (by kernel_rfl) rfl rfl (LO.append2 (ys := ints .i64 [((IntKind.i64.wrap (((IntKind.i64.wrap ((l1.getD (x2).toNat 0) + (IntKind.i64.wrap (a3 * (l2.getD (x2).toNat 0))))).tmod a0) + a0)).tmod a0)]) (k' := (x1 ++ [((IntKind.i64.wrap (((IntKind.i64.wrap ((l1.getD (x2).toNat 0) + (IntKind.i64.wrap (a3 * (l2.getD (x2).toNat 0))))).tmod a0) + a0)).tmod a0)]).length) (xs' := ints .i64 (x1 ++ [((IntKind.i64.wrap (((IntKind.i64.wrap ((l1.getD (x2).toNat 0) + (IntKind.i64.wrap (a3 * (l2.getD (x2).toNat 0))))).tmod a0) + a0)).tmod a0)])) rfl sz29 el2 rfl rfl (Del.drop n_b3_b2.ne hb3 (Del.here hb2)) (by first | assumption | omega) (by first | assumption | (simp only [maxLen]; omega)) (by first | rfl | (simp [rowsC_length, rowsA_length, mpC_length, sqC_length, tbC_length, tabI_length, tabB_length, ints_length, plsC_length, trC_length, sqsC_length, strsC_length, boolsC_length, tbB_length, List.length_append, List.length_cons, List.length_nil, List.length_set, List.length_replicate, rep_length]; done) | (simp [rowsC_length, rowsA_length, mpC_length, sqC_length, tbC_length, tabI_length, tabB_length, ints_length, plsC_length, trC_length, sqsC_length, strsC_length, boolsC_length, tbB_length, List.length_append, List.length_cons, List.length_nil, List.length_set, List.length_replicate, rep_length]; omega)) (by first | rfl | (simp [rowsC_length, rowsA_length, mpC_length, sqC_length, tbC_length, tabI_length, tabB_length, ints_length, plsC_length, trC_length, sqsC_length, strsC_length, boolsC_length, tbB_length, List.length_append, List.length_cons, List.length_nil, List.length_set, List.length_replicate, rep_length]; done) | (simp [rowsC_length, rowsA_length, mpC_length, sqC_length, tbC_length, tabI_length, tabB_length, ints_length, plsC_length, trC_length, sqsC_length, strsC_length, boolsC_length, tbB_length, List.length_append, List.length_cons, List.length_nil, List.length_set, List.length_replicate, rep_length]; omega)) (RdS.own (upd_same _ _ _)) (by first | assumption | exact tabI_one _ _ _ | exact tbC_one _ | exact sqC_one _ | exact tabB_one _ _ | exact ints_one _ _ | exact plsC_one _ | exact strsC_one _ | exact srcC_one _ _ _ _ | (intro v hv; simp at hv; subst hv; rfl)) (by decide) (by omega) (by decide) (by decide) rfl (by first | rfl | (simp [rowsC_length, rowsA_length, mpC_length, sqC_length, tbC_length, tabI_length, tabB_length, ints_length, plsC_length, trC_length, sqsC_length, strsC_length, boolsC_length, tbB_length, List.length_append, List.length_cons, List.length_nil, List.length_set, List.length_replicate, rep_length]; done) | (simp [rowsC_length, rowsA_length, mpC_length, sqC_length, tbC_length, tabI_length, tabB_length, ints_length, plsC_length, trC_length, sqsC_length, strsC_length, boolsC_length, tbB_length, List.length_append, List.length_cons, List.length_nil, List.length_set, List.length_replicate, rep_length]; omega)) (by first | rfl | (simp [ints, plsC, sqsC, boolsC, strsC]; done)) (fun b4 cap_b4 hb4 hk_b4 hc_b4 => ?_))
    refine ⟨(fun _ => (Le.under (Le.refl _) hb4)), ?_⟩
    refine DW.pure' 20 _ rfl (by kernel_rfl) rfl (fun _ => QO.assign rfl rfl) ?_
    refine DW.done (by kernel_rfl) ?_ _
    refine blockA_n ?_
    refine thenA_n ?_
    refine wpA_region ?_
    refine Ops_quiet _ rfl rfl (QO.move rfl rfl) ?_
    refine Ops_quiet _ rfl rfl (QO.bin rfl rfl rfl rfl) ?_
    refine Ops_quiet _ rfl rfl (QO.assign rfl rfl) ?_
    refine Ops_nil ?_
    obtain rfl := Option.some.inj ho1
    dsimp only at hk1
    exact thenA_n ⟨k1, Nat.lt_succ_self _, _, _, b4, cap_b4, hk1, hb4, (by first | assumption | (simp; done) | omega), (by first | assumption | (simp only [maxLen]; omega)), (Sub.cons rfl (Sub.cons rfl (Sub.cons rfl (Sub.cons rfl (Sub.cons rfl (Sub.cons rfl Sub.nil)))))), (Le.upd_left (Le.under (Le.refl _) hb4) (upd_same _ _ _) (by first | rfl | (simp; done)))⟩
   ·replace ho1 := cond_f ho1 g1
    refine wpA_exit ?_
    refine thenA_e ?_
    refine thenA_e ?_
    obtain rfl := Option.some.inj ho1
    obtain rfl := Option.some.inj hk1
    exact ⟨rfl, _, _, b2, cap_b2, rfl, hb2, (by first | assumption | (simp; done) | omega), (by first | assumption | (simp only [maxLen]; omega)), (Sub.cons rfl (Sub.cons rfl (Sub.cons rfl (Sub.cons rfl (Sub.cons rfl (Sub.cons rfl Sub.nil)))))), (Le.upd_left (Le.under (Le.refl _) hb2) (upd_same _ _ _) (by first | rfl | (simp; done)))⟩
 ·intro e s' h' hq
  cases R1 with
  | next x => exact hq.elim
  | ret r => exact hq.elim
  | stop x id =>
   obtain ⟨rfl, x3, x4, b5, cap_b5, rfl, hb5, hk_b5, hc_b5, hsub1, hle1⟩ := hq
   try dsimp only at hm
   by_cases hid1 : id = 0
   ·subst hid1
    rw [if_pos rfl] at hm
    refine blockA_s ?_
    refine thenA_n ?_
    refine wpA_weaken hsub1.ok hle1 ?_
    refine wpA_seq ?_
    refine wpA_region ?_
    refine Ops_quiet _ rfl rfl (QO.move rfl rfl) ?_
    refine Ops_quiet _ rfl rfl (QO.assign rfl rfl) ?_
    refine Ops_nil ?_
    refine thenA_n ?_
    refine wpA_ret ?_
    obtain rfl := Option.some.inj hm
    exact retA_r (h2 := upd h b5 (.own 2 (ints .i64 x3) (cap_b5 * 1))) (Res.one rfl (rfl)) (Le.upd_left (Le.under (Le.refl _) hb5) (upd_same _ _ _) (by first | rfl | (simp; done))) ⟨b5, cap_b5, (by first | rfl | (simp [*]; done)), (by assumption), (by first | assumption | omega | (simp only [List.length_set, List.length_replicate]; first | done | assumption | omega)), (by first | assumption | (simp only [maxLen]; omega)), rfl⟩
   rw [if_neg hid1] at hm
   exact absurd hm (by simp)

/-! loop.example/g01195/spec.AddSums -/
theorem c_spec_AddSums {a0 : Sq} {a1 : Int} {l2 : (List Int)} {A2 : Option Addr} {c2 : Nat} {l3 : (List Int)} {A3 : Option Addr} {c3 : Nat} {h : Hp} {r : (List Int) × Int} (hm : m_spec_AddSums a0 a1 l2 l3 = some r) (hs2 : RdS h A2 (ints .i64 l2)) (hs3 : RdS h A3 (ints .i64 l3)) :
    CC Try.prog 10 #[.agg (sqC a0).toArray, .int .i64 a1, .slice A2 l2.length c2, .slice A3 l3.length c3] (h) (fun v h' => ∃ (b0 : Option Nat) (cap0 : Nat), FrO (h) b0 ∧ OkO b0 r.1.length cap0 ∧ v = .tuple #[.slice (adO b0) r.1.length cap0, .int .i64 r.2] ∧ h' = updO (h) b0 (.own 2 (ints .i64 r.1) (cap0 * 1))) := by
 unfold m_spec_AddSums at hm
 refine CC.enter Try.func10 rfl Try.ntmps10 rfl ?_
 refine wpA_seq ?_
 refine wpA_region ?_
 refine Ops_loud rfl (LO.boxAgg rfl rfl rfl (fun b1 hb1 => ?_))
 refine Ops_quiet _ rfl rfl (QO.assign rfl rfl) ?_
 refine Ops_quiet _ rfl rfl (QO.assign rfl rfl) ?_
 refine Ops_nil ?_
 refine thenA_n ?_
 refine wpA_seq ?_
 refine wpA_seq ?_
 refine wpA_region ?_
 refine Ops_quiet _ rfl rfl (QO.loadRow (cs := sqC a0) (hr := (rdAll (upd_same _ _ _))) rfl sz28 rfl rfl (sqC_length _)) ?_
 refine Ops_quiet _ rfl rfl (QO.move rfl rfl) ?_
 refine Ops_quiet _ rfl rfl (QO.move rfl rfl) ?_
 refine Ops_quiet _ rfl rfl (QO.move rfl rfl) ?_
 refine Ops_loud rfl (LO.slice' [(0, .slice A2 l2.length c2), (1, .slice A3 l3.length c3)] (r := [.slice A2 l2.length c2, .slice A3 l3.length c3]) rfl sz61 sz29 zr29 rfl (by decide) (by decide) (by decide) rfl rfl rfl rfl (fun b2 hb2 => ?_))
 simp only [upd_noneA] at hb2
 obtain ⟨n_b2_b1, hb2⟩ := hb2
 have hq := Option.bind_eq_some_iff.1 hm; clear hm; obtain ⟨r1, hr1, hm⟩ := hq
 refine Ops_call _ _ rfl rfl (EO.fn rfl Try.func21 rfl rfl (Evs.cons rfl (Evs.cons rfl (Evs.cons rfl Evs.nil)))) (QC.cc (c_spec_l10Code (l2 := [l2, l3]) (A2 := some ⟨b2, 0, none⟩) (c2 := 2) (ga2 := [(A2, c2), (A3, c3)]) hr1 (RdSS.two (upd_same _ _ _) (RdS.le hs2 (Le.under (Le.under (Le.refl _) hb1) hb2)) (RdS.le hs3 (Le.under (Le.under (Le.refl _) hb1) hb2)))) ?_)
 refine Ops_quiet _ rfl rfl (QO.assign rfl rfl) ?_
 refine Ops_nil ?_
 refine thenA_n ?_
 refine wpA_seq ?_
 refine wpA_region ?_
 refine Ops_quiet _ rfl rfl (QO.move rfl rfl) ?_
 refine Ops_quiet _ rfl rfl (QO.bin rfl rfl rfl rfl) ?_
 refine Ops_nil ?_
 refine thenA_n ?_
 refine wpA_cond rfl (fun g1 => ?_) (fun g1 => ?_)
 ·replace hm := cond_t hm g1
  refine wpA_seq ?_
  refine wpA_region ?_
  refine Ops_quiet _ rfl rfl (QO.move rfl rfl) ?_
  refine Ops_quiet _ rfl rfl (QO.assign rfl rfl) ?_
  refine Ops_quiet _ rfl rfl (QO.assign rfl rfl) ?_
  refine Ops_nil ?_
  refine thenA_n ?_
  refine wpA_ret ?_
  refine thenA_r ?_
  obtain rfl := Option.some.inj hm
  exact retA_r (h2 := h) (Res.two rfl (rfl) (rfl)) (Le.under (Le.under (Le.refl _) hb1) hb2) ⟨none, 0, frO_none, OkO.none, rfl, rfl⟩
 ·replace hm := cond_f hm g1
  refine wpA_skip ?_
  refine thenA_n ?_
  refine wpA_seq ?_
  refine wpA_region ?_
  refine Ops_quiet _ rfl rfl (QO.move rfl rfl) ?_
  refine Ops_quiet _ rfl rfl (QO.move rfl rfl) ?_
  refine Ops_quiet _ rfl rfl (QO.move rfl rfl) ?_
  have hq := Option.bind_eq_some_iff.1 hm; clear hm; obtain ⟨r2, hr2, hm⟩ := hq
  refine Ops_call _ _ rfl rfl (EO.fn rfl Try.func23 rfl rfl (Evs.cons rfl (Evs.cons rfl (Evs.cons rfl (Evs.cons rfl Evs.nil))))) (CC.mono (c_spec_l10Add (l1 := l2) (A1 := A2) (c1 := c2) (l2 := l3) (A2 := A3) (c2 := c3) hr2 (RdS.le hs2 (Le.under (Le.under (Le.refl _) hb1) hb2)) (RdS.le hs3 (Le.under (Le.under (Le.refl _) hb1) hb2))) ?_)
  rintro _ _ ⟨b3, cap_b3, rfl, hb3, hk_b3, hc_b3, rfl⟩
  simp only [upd_noneA] at hb3
  obtain ⟨n_b3_b2, n_b3_b1, hb3⟩ := hb3
  refine Ops_quiet _ rfl rfl (QO.assign rfl rfl) ?_
  refine Ops_quiet _ rfl rfl (QO.assign rfl rfl) ?_
  refine Ops_nil ?_
  refine thenA_n ?_
  refine wpA_ret ?_
  obtain rfl := Option.some.inj hm
  exact retA_r (h2 := upd (h) b3 (.own 2 (ints .i64 r2) (cap_b3 * 1))) (Res.two rfl (rfl) (rfl)) (Le.upd_left (Le.under (Le.under (Le.under (Le.refl _) hb1) hb2) hb3) (upd_same _ _ _) (by first | rfl | (simp; done))) ⟨(some b3), cap_b3, (frO_some hb3), (OkO.some (by first | assumption | omega | (simp only [List.length_set, List.length_replicate]; first | done | assumption | omega)) (by first | assumption | (simp only [maxLen]; omega))), rfl, rfl⟩

/-! loop.example/g01195/spec.l10One -/
theorem c_spec_l10One {l0 : (List Int)} {A0 : Option Addr} {c0 : Nat} {h : Hp} {r : Sq × Int × (List Int)} (hm : m_spec_l10One l0 = some r) (hs0 : RdS h A0 (ints .u8 l0)) :
    CC Try.prog 25 #[.slice A0 l0.length c0] (h) (fun v h' => ∃ (b2 : Option Nat) (cap2 : Nat), FrO (h) b2 ∧ OkO b2 r.2.2.length cap2 ∧ v = .tuple #[.agg (sqC r.1).toArray, .int .i64 r.2.1, .slice (adO b2) r.2.2.length cap2] ∧ h' = updO (h) b2 (.own 2 (ints .i64 r.2.2) (cap2 * 1))) := by
 unfold m_spec_l10One at hm
 refine CC.enter Try.func25 rfl Try.ntmps25 rfl ?_
 refine wpA_seq ?_
 refine wpA_region ?_
 refine Ops_loud rfl (LO.alloc rfl zr28 rfl (fun b1 hb1 => ?_))
 refine Ops_quiet _ rfl rfl (QO.assign rfl rfl) ?_
 refine Ops_quiet _ rfl rfl (QO.assign rfl rfl) ?_
 refine Ops_nil ?_
 refine thenA_n ?_
 refine wpA_seq ?_
 refine wpA_region ?_
 refine Ops_quiet _ rfl rfl (QO.move rfl rfl) ?_
 have hq := Option.bind_eq_some_iff.1 hm; clear hm; obtain ⟨r1, hr1, hm⟩ := hq
 refine Ops_call _ _ rfl rfl (EO.fn rfl Try.func24 rfl rfl (Evs.cons rfl Evs.nil)) (CC.mono (c_spec_l01From (l0 := l0) (A0 := A0) (c0 := c0) hr1 (RdS.le hs0 (Le.under (Le.refl _) hb1))) ?_)
 rintro _ _ ⟨b2, hb2, rfl, rfl⟩
 simp only [upd_noneA] at hb2
 obtain ⟨n_b2_b1, hb2⟩ := hb2
 have hq := Option.bind_eq_some_iff.1 hm; clear hm; obtain ⟨r2, hr2, hm⟩ := hq
 have hd1 : Del (upd (upd (h) b1 (.own 28 (sqC sq0) 101)) b2 (.own 69 (srcC A0 l0.length c0 r1) 3)) b2 (.own 69 (srcC A0 l0.length c0 r1) 3) (upd (h) b1 (.own 28 (sqC sq0) 101)) := (Del.here (none_upd n_b2_b1.ne hb2))
 refine Ops_call _ _ rfl rfl (EO.fn rfl Try.func34 rfl rfl (Evs.cons rfl (Evs.cons rfl Evs.nil))) (CC.mono (CC.atLe (c_spec_l10Draw (h := upd (h) b1 (.own 28 (sqC sq0) 101)) hr2 (RdS.le hs0 (Le.under (Le.refl _) hb1)) hd1.none) hd1.le) ?_)
 rintro _ _ ⟨g_f1, b3, cap_b3, hf1, okf_f1, hb3, hk_b3, hc_b3, rfl, rfl⟩
 simp only [frF_updA, frF_updOA] at hf1
 obtain ⟨n_f1_b2, n_f1_b1, hf1⟩ := hf1
 simp only [upd_noneA, updO_noneA, famH_noneA] at hb3
 obtain ⟨n_b3_f1, n_b3_b2, n_b3_b1, hb3⟩ := hb3
 refine Ops_quiet _ rfl rfl (QO.move rfl rfl) ?_
 refine Ops_quiet _ rfl rfl (QO.extract rfl rfl rfl) ?_
 refine Ops_quiet _ rfl rfl (QO.extract rfl rfl rfl) ?_
 refine Ops_quiet _ rfl rfl (QO.extract rfl rfl rfl) ?_
 refine Ops_loud rfl (LO.alloc rfl zr28 rfl (fun b4 hb4 => ?_))
 simp only [upd_noneA, updO_noneA, famH_noneA] at hb4
 obtain ⟨n_b4_b3, n_b4_f1, n_b4_b2, n_b4_b1, hb4⟩ := hb4
 refine Ops_loud rfl (LO.storeAll (cs := sqC r2.1) rfl sz28 rfl rfl (sqC_one _) (sqC_length _) (upd_same _ _ _) (sqC_length _) Chg.here rfl ?_)
 refine Ops_quiet _ rfl rfl (QO.assign rfl rfl) ?_
 refine Ops_quiet _ rfl rfl (QO.assign rfl rfl) ?_
 refine Ops_nil ?_
 refine thenA_n ?_
 refine wpA_seq ?_
 refine wpA_any (upd (upd (famH (upd (h) b2 (.own 69 (srcC A0 l0.length c0 r2.2.2.2) 3)) 2 1 (ints .i64) g_f1 r2.2.2.1) b3 (.own 29 (rowsC g_f1 r2.2.2.1) (cap_b3 * 1))) b4 (.own 28 (sqC r2.1) 101)) [5] [] (by kernel_rfl) (by kernel_rfl) (DW.start ?_)
 refine DW.read' 0 _ rfl (by kernel_rfl) rfl (QO.loadRow (cs := sqC r2.1) (hr := (rdAll (upd_same _ _ _))) rfl sz28 rfl rfl (sqC_length _)) ?_
 refine DW.pure' 1 _ rfl (by kernel_rfl) rfl (fun _ => QO.move rfl rfl) ?_
 refine DW.pure' 2 _ rfl (by kernel_rfl) rfl (fun _ => QO.move rfl rfl) ?_
 have hq := chk hm; clear hm; obtain ⟨ck1, hm⟩ := hq
 refine DW.pure' 3 _ rfl (by kernel_rfl) rfl (fun _ => QO.idxSl rfl sz61 sz29 rfl rfl (by omega) (by omega)) ?_
 refine DW.readK' 4 _ rfl (by kernel_rfl) rfl (Le.upd_left (Le.upd_left (Le.famH_left (Le.upd_left (Le.under (Le.under (Le.underF (Le.under (Le.under (Le.refl _) hb1) hb2) hf1) hb3) hb4) ((upd_ne _ _ n_b4_b2.ne.symm).trans ((upd_ne _ _ n_b3_b2.ne.symm).trans ((famH_ne n_f1_b2).trans (upd_same _ _ _)))) (by first | rfl | (simp; done))) okf_f1 (fun i hi => (LkO.there (NeF.neO n_b4_f1 i) (LkO.there (NeF.neO n_b3_f1 i) (famH_row okf_f1 hi))))) ((upd_ne _ _ n_b4_b3.ne.symm).trans (upd_same _ _ _)) (by first | rfl | (simp; done))) (upd_same _ _ _) (by first | rfl | (simp; done))) (QO.load rfl sz29 rfl rfl (by (refine (rd_own ((upd_ne _ _ n_b4_b3.ne.symm).trans (upd_same _ _ _)) _).trans ?_); exact rowsC_get (by omega))) ?_
 refine DW.loud 5 rfl (by kernel_rfl) rfl rfl (LO.storeAll (cs := sqC r2.1) rfl sz28 rfl rfl (sqC_one _) (sqC_length _) ((upd_ne _ _ n_b4_b1.ne.symm).trans ((upd_ne _ _ n_b3_b1.ne.symm).trans ((famH_ne n_f1_b1).trans ((upd_ne _ _ n_b2_b1.ne.symm).trans (upd_same _ _ _))))) (sqC_length _) (Chg.there n_b4_b1.ne (Chg.there n_b3_b1.ne (Chg.thereF n_f1_b1 (Chg.there n_b2_b1.ne Chg.here)))) rfl ?_)
 refine ⟨(fun _ => (Le.upd_left (Le.upd_left (Le.famH_left (Le.upd_left (Le.under (Le.under (Le.underF (Le.under (Le.under (Le.refl _) hb1) hb2) hf1) hb3) hb4) ((upd_ne _ _ n_b4_b2.ne.symm).trans ((upd_ne _ _ n_b3_b2.ne.symm).trans ((famH_ne n_f1_b2).trans (upd_same _ _ _)))) (by first | rfl | (simp; done))) okf_f1 (fun i hi => (LkO.there (NeF.neO n_b4_f1 i) (LkO.there (NeF.neO n_b3_f1 i) (famH_row okf_f1 hi))))) ((upd_ne _ _ n_b4_b3.ne.symm).trans (upd_same _ _ _)) (by first | rfl | (simp; done))) (upd_same _ _ _) (by first | rfl | (simp; done)))), ?_⟩
 refine DW.pure' 6 _ rfl (by kernel_rfl) rfl (fun _ => QO.assign rfl rfl) ?_
 refine DW.pure' 7 _ rfl (by kernel_rfl) rfl (fun _ => QO.assign rfl rfl) ?_
 refine DW.done (by kernel_rfl) ?_ _
 refine thenA_n ?_
 refine wpA_ret ?_
 obtain rfl := Option.some.inj hm
 exact retA_r (h2 := updO (h) (g_f1.getD 0 (none, 0)).1 (.own 2 (ints .i64 (r2.2.2.1.getD 0 [])) ((g_f1.getD 0 (none, 0)).2 * 1))) (Res.three rfl (res1.row (cs := sqC r2.1) (hr := (rdAll ((upd_ne _ _ n_b4_b1.ne.symm).trans ((upd_ne _ _ n_b3_b1.ne.symm).trans ((famH_ne n_f1_b1).trans ((upd_ne _ _ n_b2_b1.ne.symm).trans (upd_same _ _ _))))))) sz28 rfl rfl (sqC_length _)) (rfl) (rfl)) (Le.upd_leftO (Le.under (Le.under (Le.underF (Le.under (Le.under (Le.refl _) hb1) hb2) hf1) hb3) hb4) (LkO.there (NeF.neO n_b4_f1 0) (LkO.there (NeF.neO n_b3_f1 0) (famH_row okf_f1 (by omega)))) rfl) ⟨(g_f1.getD 0 (none, 0)).1, (g_f1.getD 0 (none, 0)).2, (FrF.frO hf1 0), (okf_f1.ok 0 (by omega)), rfl, rfl⟩

/-! loop.example/g01195/spec.DrawPowerOfSum -/
theorem c_spec_DrawPowerOfSum {l0 : (List Int)} {A0 : Option Addr} {c0 : Nat} {h : Hp} {r : Sq × Int × (List Int) × Int} (hm : m_spec_DrawPowerOfSum l0 = some r) (hs0 : RdS h A0 (ints .u8 l0)) :
    CC Try.prog 11 #[.slice A0 l0.length c0] (h) (fun v h' => ∃ (b2 : Option Nat) (cap2 : Nat), FrO (h) b2 ∧ OkO b2 r.2.2.1.length cap2 ∧ v = .tuple #[.agg (sqC r.1).toArray, .int .i64 r.2.1, .slice (adO b2) r.2.2.1.length cap2, .int .i64 r.2.2.2] ∧ h' = updO (h) b2 (.own 2 (ints .i64 r.2.2.1) (cap2 * 1))) := by
 unfold m_spec_DrawPowerOfSum at hm
 refine CC.enter Try.func11 rfl Try.ntmps11 rfl ?_
 refine wpA_seq ?_
 refine wpA_region ?_
 refine Ops_loud rfl (LO.alloc rfl zr28 rfl (fun b1 hb1 => ?_))
 refine Ops_quiet _ rfl rfl (QO.assign rfl rfl) ?_
 refine Ops_quiet _ rfl rfl (QO.assign rfl rfl) ?_
 refine Ops_quiet _ rfl rfl (QO.assign rfl rfl) ?_
 refine Ops_nil ?_
 refine thenA_n ?_
 refine wpA_seq ?_
 refine wpA_region ?_
 refine Ops_quiet _ rfl rfl (QO.move rfl rfl) ?_
 have hq := Option.bind_eq_some_iff.1 hm; clear hm; obtain ⟨r1, hr1, hm⟩ := hq
 refine Ops_call _ _ rfl rfl (EO.fn rfl Try.func24 rfl rfl (Evs.cons rfl Evs.nil)) (CC.mono (c_spec_l01From (l0 := l0) (A0 := A0) (c0 := c0) hr1 (RdS.le hs0 (Le.under (Le.refl _) hb1))) ?_)
 rintro _ _ ⟨b2, hb2, rfl, rfl⟩
 simp only [upd_noneA] at hb2
 obtain ⟨n_b2_b1, hb2⟩ := hb2
 refine Ops_quiet _ rfl rfl (QO.assign rfl rfl) ?_
 refine Ops_nil ?_
 refine thenA_n ?_
 refine wpA_seq ?_
 refine wpA_region ?_
 refine Ops_quiet _ rfl rfl (QO.move rfl rfl) ?_
 have hq := Option.bind_eq_some_iff.1 hm; clear hm; obtain ⟨r2, hr2, hm⟩ := hq
 refine Ops_call _ _ rfl rfl (EO.fn rfl Try.func25 rfl rfl (Evs.cons rfl Evs.nil)) (CC.mono (c_spec_l10One (l0 := l0) (A0 := A0) (c0 := c0) hr2 (RdS.le hs0 (Le.under (Le.under (Le.refl _) hb1) hb2))) ?_)
 rintro _ _ ⟨b3, cap_b3, hb3, ho_b3, rfl, rfl⟩
 simp only [frO_updA, frO_updOA, frO_famHA] at hb3
 obtain ⟨n_b3_b2, n_b3_b1, hb3⟩ := hb3
 refine Ops_quiet _ rfl rfl (QO.move rfl rfl) ?_
 refine Ops_quiet _ rfl rfl (QO.extract rfl rfl rfl) ?_
 refine Ops_quiet _ rfl rfl (QO.extract rfl rfl rfl) ?_
 refine Ops_quiet _ rfl rfl (QO.extract rfl rfl rfl) ?_
 refine Ops_loud rfl (LO.alloc rfl zr28 rfl (fun b4 hb4 => ?_))
 simp only [upd_noneA, updO_noneA, famH_noneA] at hb4
 obtain ⟨n_b4_b3, n_b4_b2, n_b4_b1, hb4⟩ := hb4
 refine Ops_loud rfl (LO.storeAll (cs := sqC r2.1) rfl sz28 rfl rfl (sqC_one _) (sqC_length _) (upd_same _ _ _) (sqC_length _) Chg.here rfl ?_)
 refine Ops_quiet _ rfl rfl (QO.assign rfl rfl) ?_
 refine Ops_quiet _ rfl rfl (QO.assign rfl rfl) ?_
 refine Ops_nil ?_
 refine thenA_n ?_
 refine wpA_seq ?_
 refine wpA_any (upd (updO (h) b3 (.own 2 (ints .i64 r2.2.2) (cap_b3 * 1))) b4 (.own 28 (sqC r2.1) 101)) [5, 7, 9, 10, 11, 12] [] (by kernel_rfl) (by kernel_rfl) (DW.start ?_)
 refine DW.readK' 0 _ rfl (by kernel_rfl) rfl (Le.upd_left (Le.upd_leftO (Le.under (Le.underO (Le.under (Le.under (Le.refl _) hb1) hb2) hb3) hb4) (LkO.there n_b4_b3 LkO.here) (by first | rfl | (simp; done))) (upd_same _ _ _) (by first | rfl | (simp; done))) (QO.loadRow (cs := sqC r2.1) (hr := (rdAll (upd_same _ _ _))) rfl sz28 rfl rfl (sqC_length _)) ?_
 refine DW.pure' 1 _ rfl (by kernel_rfl) rfl (fun _ => QO.move rfl rfl) ?_
 refine DW.pure' 2 _ rfl (by kernel_rfl) rfl (fun _ => QO.move rfl rfl) ?_
 refine DW.pure' 3 _ rfl (by kernel_rfl) rfl (fun _ => QO.move rfl rfl) ?_
 refine DW.pure' 4 _ rfl (by kernel_rfl) rfl (fun _ => QO.move rfl rfl) ?_
 refine DW.pure' 6 _ rfl (by kernel_rfl) rfl (fun _ => QO.move rfl rfl) ?_
 refine DW.pure' 8 _ rfl (by kernel_rfl) rfl (fun _ => QO.move rfl rfl) ?_
 have hq := Option.bind_eq_some_iff.1 hm; clear hm; obtain ⟨r3, hr3, hm⟩ := hq
 have hd1 : Del (upd (updO (upd (upd (h) b1 (.own 28 (sqC sq0) 101)) b2 (.own 69 (srcC A0 l0.length c0 r1) 3)) b3 (.own 2 (ints .i64 r2.2.2) (cap_b3 * 1))) b4 (.own 28 (sqC r2.1) 101)) b2 (.own 69 (srcC A0 l0.length c0 r1) 3) (upd (updO (upd (h) b1 (.own 28 (sqC sq0) 101)) b3 (.own 2 (ints .i64 r2.2.2) (cap_b3 * 1))) b4 (.own 28 (sqC r2.1) 101)) := (Del.there n_b4_b2.ne.symm (Del.thereO n_b3_b2 (Del.here (none_upd n_b2_b1.ne hb2))))
 refine DW.call 5 _ _ rfl (by kernel_rfl) rfl rfl (EO.fn rfl Try.func27 rfl rfl (Evs.cons rfl (Evs.cons rfl Evs.nil))) (CC.mono (CC.atLe (c_spec_l01Next (h := upd (updO (upd (h) b1 (.own 28 (sqC sq0) 101)) b3 (.own 2 (ints .i64 r2.2.2) (cap_b3 * 1))) b4 (.own 28 (sqC r2.1) 101)) hr3 (RdS.le hs0 (Le.under (Le.underO (Le.under (Le.refl _) hb1) hb3) hb4)) hd1.none) hd1.le) ?_)
 rintro _ _ ⟨rfl, rfl⟩
 refine ⟨(fun _ => (Le.upd_left (Le.upd_leftO (Le.under (Le.under (Le.underO (Le.under (Le.refl _) hb1) hb3) hb4) hb2) (LkO.there n_b3_b2 (LkO.there n_b4_b3 LkO.here)) (by first | rfl | (simp; done))) ((upd_ne _ _ n_b4_b2.ne).trans (upd_same _ _ _)) (by first | rfl | (simp; done)))), ?_⟩
 have hq := Option.bind_eq_some_iff.1 hm; clear hm; obtain ⟨r4, hr4, hm⟩ := hq
 have hd2 : Del (upd (upd (updO (upd (h) b1 (.own 28 (sqC sq0) 101)) b3 (.own 2 (ints .i64 r2.2.2) (cap_b3 * 1))) b4 (.own 28 (sqC r2.1) 101)) b2 (.own 69 (srcC A0 l0.length c0 r3.2) 3)) b2 (.own 69 (srcC A0 l0.length c0 r3.2) 3) (upd (updO (upd (h) b1 (.own 28 (sqC sq0) 101)) b3 (.own 2 (ints .i64 r2.2.2) (cap_b3 * 1))) b4 (.own 28 (sqC r2.1) 101)) := (Del.here (none_upd n_b4_b2.ne.symm (none_updO n_b3_b2 (none_upd n_b2_b1.ne hb2))))
 refine DW.call 7 _ _ rfl (by kernel_rfl) rfl rfl (EO.fn rfl Try.func27 rfl rfl (Evs.cons rfl (Evs.cons rfl Evs.nil))) (CC.mono (CC.atLe (c_spec_l01Next (h := upd (updO (upd (h) b1 (.own 28 (sqC sq0) 101)) b3 (.own 2 (ints .i64 r2.2.2) (cap_b3 * 1))) b4 (.own 28 (sqC r2.1) 101)) hr4 (RdS.le hs0 (Le.under (Le.underO (Le.under (Le.refl _) hb1) hb3) hb4)) hd2.none) hd2.le) ?_)
 rintro _ _ ⟨rfl, rfl⟩
 refine ⟨(fun _ => (Le.upd_left (Le.upd_leftO (Le.under (Le.under (Le.underO (Le.under (Le.refl _) hb1) hb3) hb4) hb2) (LkO.there n_b3_b2 (LkO.there n_b4_b3 LkO.here)) (by first | rfl | (simp; done))) ((upd_ne _ _ n_b4_b2.ne).trans (upd_same _ _ _)) (by first | rfl | (simp; done)))), ?_⟩
 have hq := Option.bind_eq_some_iff.1 hm; clear hm; obtain ⟨r5, hr5, hm⟩ := hq
 have hd3 : Del (upd (upd (updO (upd (h) b1 (.own 28 (sqC sq0) 101)) b3 (.own 2 (ints .i64 r2.2.2) (cap_b3 * 1))) b4 (.own 28 (sqC r2.1) 101)) b2 (.own 69 (srcC A0 l0.length c0 r4.2) 3)) b2 (.own 69 (srcC A0 l0.length c0 r4.2) 3) (upd (updO (upd (h) b1 (.own 28 (sqC sq0) 101)) b3 (.own 2 (ints .i64 r2.2.2) (cap_b3 * 1))) b4 (.own 28 (sqC r2.1) 101)) := (Del.here (none_upd n_b4_b2.ne.symm (none_updO n_b3_b2 (none_upd n_b2_b1.ne hb2))))
 refine DW.call 9 _ _ rfl (by kernel_rfl) rfl rfl (EO.fn rfl Try.func27 rfl rfl (Evs.cons rfl (Evs.cons rfl Evs.nil))) (CC.mono (CC.atLe (c_spec_l01Next (h := upd (updO (upd (h) b1 (.own 28 (sqC sq0) 101)) b3 (.own 2 (ints .i64 r2.2.2) (cap_b3 * 1))) b4 (.own 28 (sqC r2.1) 101)) hr5 (RdS.le hs0 (Le.under (Le.underO (Le.under (Le.refl _) hb1) hb3) hb4)) hd3.none) hd3.le) ?_)
 rintro _ _ ⟨rfl, rfl⟩
 refine ⟨(fun _ => (Le.upd_left (Le.upd_leftO (Le.under (Le.under (Le.underO (Le.under (Le.refl _) hb1) hb3) hb4) hb2) (LkO.there n_b3_b2 (LkO.there n_b4_b3 LkO.here)) (by first | rfl | (simp; done))) ((upd_ne _ _ n_b4_b2.ne).trans (upd_same _ _ _)) (by first | rfl | (simp; done)))), ?_⟩
 refine DW.loud 10 rfl (by kernel_rfl) rfl rfl (LO.slice' [(0, .int .i64 r3.1), (1, .int .i64 r4.1), (2, .int .i64 r5.1), (3, .int .i64 1001), (4, .int .i64 (-1))] (r := ints .i64 [r3.1, r4.1, r5.1, 1001, (-1)]) rfl sz29 sz2 zr2 (by first | rfl | (simp [rowsC_length, rowsA_length, mpC_length, sqC_length, tbC_length, tabI_length, tabB_length, ints_length, plsC_length, trC_length, sqsC_length, strsC_length, boolsC_length, tbB_length, List.length_append, List.length_cons, List.length_nil, List.length_set, List.length_replicate, rep_length]; done)) (by decide) (by decide) (by decide) rfl rfl (by first | rfl | (simp [rowsC_length, rowsA_length, mpC_length, sqC_length, tbC_length, tabI_length, tabB_length, ints_length, plsC_length, trC_length, sqsC_length, strsC_length, boolsC_length, tbB_length, List.length_append, List.length_cons, List.length_nil, List.length_set, List.length_replicate, rep_length]; done)) rfl (fun b5 hb5 => ?_))
 simp only [upd_noneA, updO_noneA, famH_noneA] at hb5
 obtain ⟨n_b5_b2, n_b5_b4, n_b5_b3, n_b5_b1, hb5⟩ := hb5
 refine ⟨(fun _ => (Le.upd_left (Le.upd_leftO (Le.under (Le.under (Le.under (Le.underO (Le.under (Le.refl _) hb1) hb3) hb4) hb2) hb5) (LkO.there n_b5_b3 (LkO.there n_b3_b2 (LkO.there n_b4_b3 LkO.here))) (by first | rfl | (simp; done))) ((upd_ne _ _ n_b5_b4.ne.symm).trans ((upd_ne _ _ n_b4_b2.ne).trans (upd_same _ _ _))) (by first | rfl | (simp; done)))), ?_⟩
 have hq := Option.bind_eq_some_iff.1 hm; clear hm; obtain ⟨r6, hr6, hm⟩ := hq
 have hd4 : Del (upd (upd (upd (updO (upd (h) b1 (.own 28 (sqC sq0) 101)) b3 (.own 2 (ints .i64 r2.2.2) (cap_b3 * 1))) b4 (.own 28 (sqC r2.1) 101)) b2 (.own 69 (srcC A0 l0.length c0 r5.2) 3)) b5 (.own 2 (ints .i64 [r3.1, r4.1, r5.1, 1001, (-1)]) (5 * 1))) b2 (.own 69 (srcC A0 l0.length c0 r5.2) 3) (upd (upd (updO (upd (h) b1 (.own 28 (sqC sq0) 101)) b3 (.own 2 (ints .i64 r2.2.2) (cap_b3 * 1))) b4 (.own 28 (sqC r2.1) 101)) b5 (.own 2 (ints .i64 [r3.1, r4.1, r5.1, 1001, (-1)]) (5 * 1))) := (Del.there n_b5_b2.ne.symm (Del.here (none_upd n_b4_b2.ne.symm (none_updO n_b3_b2 (none_upd n_b2_b1.ne hb2)))))
 refine DW.call 11 _ _ rfl (by kernel_rfl) rfl rfl (EO.fn rfl Try.func26 rfl rfl (Evs.cons rfl (Evs.cons rfl Evs.nil))) (CC.mono (CC.atLe (c_spec_l01Pick (l1 := [r3.1, r4.1, r5.1, 1001, (-1)]) (A1 := some ⟨b5, 0, none⟩) (c1 := 5) (h := upd (upd (updO (upd (h) b1 (.own 28 (sqC sq0) 101)) b3 (.own 2 (ints .i64 r2.2.2) (cap_b3 * 1))) b4 (.own 28 (sqC r2.1) 101)) b5 (.own 2 (ints .i64 [r3.1, r4.1, r5.1, 1001, (-1)]) (5 * 1))) hr6 (RdS.le hs0 (Le.under (Le.under (Le.underO (Le.under (Le.refl _) hb1) hb3) hb4) hb5)) (RdS.own (upd_same _ _ _)) hd4.none) hd4.le) ?_)
 rintro _ _ ⟨rfl, rfl⟩
 refine ⟨(fun _ => (Le.upd_left (Le.upd_leftO (Le.under (Le.under (Le.under (Le.underO (Le.under (Le.refl _) hb1) hb3) hb4) hb5) hb2) (LkO.there n_b3_b2 (LkO.there n_b5_b3 (LkO.there n_b4_b3 LkO.here))) (by first | rfl | (simp; done))) ((upd_ne _ _ n_b4_b2.ne).trans ((upd_ne _ _ n_b5_b4.ne.symm).trans (upd_same _ _ _))) (by first | rfl | (simp; done)))), ?_⟩
 refine DW.loud 12 rfl (by kernel_rfl) rfl rfl (LO.storeAll (cs := sqC r2.1) rfl sz28 rfl rfl (sqC_one _) (sqC_length _) ((upd_ne _ _ n_b2_b1.ne.symm).trans ((upd_ne _ _ n_b5_b1.ne.symm).trans ((upd_ne _ _ n_b4_b1.ne.symm).trans ((updO_ne n_b3_b1).trans (upd_same _ _ _))))) (sqC_length _) (Chg.there n_b2_b1.ne (Chg.there n_b5_b1.ne (Chg.there n_b4_b1.ne (Chg.thereO n_b3_b1 Chg.here)))) rfl ?_)
 refine ⟨(fun _ => (Le.upd_left (Le.upd_leftO (Le.under (Le.under (Le.under (Le.underO (Le.under (Le.refl _) hb1) hb3) hb4) hb5) hb2) (LkO.there n_b3_b2 (LkO.there n_b5_b3 (LkO.there n_b4_b3 LkO.here))) (by first | rfl | (simp; done))) ((upd_ne _ _ n_b4_b2.ne).trans ((upd_ne _ _ n_b5_b4.ne.symm).trans (upd_same _ _ _))) (by first | rfl | (simp; done)))), ?_⟩
 refine DW.pure' 13 _ rfl (by kernel_rfl) rfl (fun _ => QO.assign rfl rfl) ?_
 refine DW.pure' 14 _ rfl (by kernel_rfl) rfl (fun _ => QO.assign rfl rfl) ?_
 refine DW.pure' 15 _ rfl (by kernel_rfl) rfl (fun _ => QO.assign rfl rfl) ?_
 refine DW.done (by kernel_rfl) ?_ _
 refine thenA_n ?_
 refine wpA_ret ?_
 obtain rfl := Option.some.inj hm
 exact retA_r (h2 := updO (h) b3 (.own 2 (ints .i64 r2.2.2) (cap_b3 * 1))) (Res.four rfl (res1.row (cs := sqC r2.1) (hr := (rdAll ((upd_ne _ _ n_b2_b1.ne.symm).trans ((upd_ne _ _ n_b5_b1.ne.symm).trans ((upd_ne _ _ n_b4_b1.ne.symm).trans ((updO_ne n_b3_b1).trans (upd_same _ _ _))))))) sz28 rfl rfl (sqC_length _)) (rfl) (rfl) (rfl)) (Le.upd_leftO (Le.under (Le.under (Le.under (Le.underO (Le.under (Le.refl _) hb1) hb3) hb4) hb5) hb2) (LkO.there n_b3_b2 (LkO.there n_b5_b3 (LkO.there n_b4_b3 LkO.here))) (by first | rfl | (simp; done))) ⟨b3, cap_b3, hb3, ho_b3, rfl, rfl⟩

/-! (loop.example/g01195/impl.Square).unit -/
theorem c_impl_Square_unit {a0 : Sq} {a1 : Int} {h : Hp} {r : (List Int)} (hm : m_impl_Square_unit a0 a1 = some r)  :
    CC Try.prog 29 #[.agg (sqC a0).toArray, .int .u8 a1] h (NewSl 2 1 (ints .i64 r) r.length h) := by
 unfold m_impl_Square_unit at hm
 refine CC.enter Try.func29 rfl Try.ntmps29 rfl ?_
 refine wpA_seq ?_
 refine wpA_region ?_
 refine Ops_loud rfl (LO.boxAgg rfl rfl rfl (fun b1 hb1 => ?_))
 refine Ops_quiet _ rfl rfl (QO.assign rfl rfl) ?_
 refine Ops_nil ?_
 refine thenA_n ?_
 refine wpA_seq ?_
 refine wpA_region ?_
 refine Ops_quiet _ rfl rfl (QO.fieldAt (fo := 0) rfl sz28 rfl rfl sz2 rfl rfl) ?_
 refine Ops_quiet _ rfl rfl (QO.load rfl sz2 rfl rfl (by (refine (rd_own (upd_same _ _ _) _).trans ?_); exact rfl)) ?_
 have hq := chk hm; clear hm; obtain ⟨ck1, hm⟩ := hq
 refine Ops_loud rfl (LO.mkSl2 (m := (a0.order).toNat) rfl sz29 sz2 zr2 el2 rfl rfl rfl (by omega) (by omega) (by omega) (by decide) (by decide) rfl (rep_ints _ _) (fun b2 hb2 => ?_))
 simp only [upd_noneA] at hb2
 obtain ⟨n_b2_b1, hb2⟩ := hb2
 refine Ops_quiet _ rfl rfl (QO.assign rfl rfl) ?_
 refine Ops_nil ?_
 refine thenA_n ?_
 refine wpA_seq ?_
 refine wpA_region ?_
 refine Ops_quiet _ rfl rfl (QO.move rfl rfl) ?_
 refine Ops_quiet _ rfl rfl (QO.move rfl rfl) ?_
 have hq := chk hm; clear hm; obtain ⟨ck2, hm⟩ := hq
 refine Ops_quiet _ rfl rfl (QO.idxSl rfl sz29 sz2 rfl rfl (by omega) (by omega)) ?_
 refine Ops_loud rfl (LO.store' (xs' := ints .i64 ((List.replicate (a0.order).toNat 0).set (a1).toNat 1)) rfl sz2 rfl rfl rfl (upd_same _ _ _) (by first | ((try simp only [rowsC_length, rowsA_length, mpC_length, sqC_length, tbC_length, tabI_length, tabB_length, ints_length, plsC_length, trC_length, sqsC_length, strsC_length, boolsC_length, tbB_length, List.length_append, List.length_cons, List.length_nil, List.length_set, List.length_replicate, rep_length]); first | omega | decide) | exact Nat.le_of_ble_eq_true rfl) ints_set01 Chg.here rfl ?_)
 refine Ops_nil ?_
 refine thenA_n ?_
 refine wpA_seq ?_
 refine wpA_region ?_
 refine Ops_quiet _ rfl rfl (QO.move rfl rfl) ?_
 refine Ops_quiet _ rfl rfl (QO.assign rfl rfl) ?_
 refine Ops_nil ?_
 refine thenA_n ?_
 refine wpA_ret ?_
 obtain rfl := Option.some.inj hm
 exact retA_r (h2 := upd h b2 (.own 2 (ints .i64 ((List.replicate (a0.order).toNat 0).set (a1).toNat 1)) ((a0.order).toNat * 1))) (Res.one rfl (rfl)) (Le.upd_left (Le.under (Le.under (Le.refl _) hb1) hb2) (upd_same _ _ _) (by first | rfl | (simp; done))) ⟨b2, (a0.order).toNat, (by first | rfl | (simp [*]; done)), (by assumption), (by first | assumption | omega | (simp only [List.length_set, List.length_replicate]; first | done | assumption | omega)), (by first | assumption | (simp only [maxLen]; omega)), rfl⟩

/-! loop.example/g01195/impl.PowerOfSum -/
theorem c_impl_PowerOfSum {a0 : Sq} {a1 : Int} {l2 : (List Int)} {A2 : Option Addr} {c2 : Nat} {a3 : Int} {h : Hp} {r : (List Int) × Int} (hm : m_impl_PowerOfSum a0 a1 l2 a3 = some r) (hs2 : RdS h A2 (ints .i64 l2)) :
    CC Try.prog 12 #[.agg (sqC a0).toArray, .int .i64 a1, .slice A2 l2.length c2, .int .i64 a3] (h) (fun v h' => ∃ (b0 : Option Nat) (cap0 : Nat), FrO (h) b0 ∧ OkO b0 r.1.length cap0 ∧ v = .tuple #[.slice (adO b0) r.1.length cap0, .int .i64 r.2] ∧ h' = updO (h) b0 (.own 2 (ints .i64 r.1) (cap0 * 1))) := by
 unfold m_impl_PowerOfSum at hm
 refine CC.enter Try.func12 rfl Try.ntmps12 rfl ?_
 refine wpA_seq ?_
 refine wpA_region ?_
 refine Ops_loud rfl (LO.boxAgg rfl rfl rfl (fun b1 hb1 => ?_))
 refine Ops_quiet _ rfl rfl (QO.assign rfl rfl) ?_
 refine Ops_quiet _ rfl rfl (QO.assign rfl rfl) ?_
 refine Ops_nil ?_
 refine thenA_n ?_
 refine wpA_seq ?_
 refine wpA_seq ?_
 refine wpA_region ?_
 refine Ops_quiet _ rfl rfl (QO.loadRow (cs := sqC a0) (hr := (rdAll (upd_same _ _ _))) rfl sz28 rfl rfl (sqC_length _)) ?_
 refine Ops_quiet _ rfl rfl (QO.move rfl rfl) ?_
 refine Ops_quiet _ rfl rfl (QO.move rfl rfl) ?_
 refine Ops_loud rfl (LO.slice1 (r := [.slice A2 l2.length c2]) rfl sz61 sz29 zr29 rfl (by decide) (by decide) rfl rfl rfl rfl (fun b2 hb2 => ?_))
 simp only [upd_noneA] at hb2
 obtain ⟨n_b2_b1, hb2⟩ := hb2
 have hq := Option.bind_eq_some_iff.1 hm; clear hm; obtain ⟨r1, hr1, hm⟩ := hq
 refine Ops_call _ _ rfl rfl (EO.fn rfl Try.func19 rfl rfl (Evs.cons rfl (Evs.cons rfl (Evs.cons rfl Evs.nil)))) (QC.cc (c_impl_ringCode (l2 := [l2]) (A2 := some ⟨b2, 0, none⟩) (c2 := 1) (ga2 := [(A2, c2)]) hr1 (RdSS.one (upd_same _ _ _) (RdS.le hs2 (Le.under (Le.under (Le.refl _) hb1) hb2)))) ?_)
 refine Ops_quiet _ rfl rfl (QO.assign rfl rfl) ?_
 refine Ops_nil ?_
 refine thenA_n ?_
 refine wpA_seq ?_
 refine wpA_region ?_
 refine Ops_quiet _ rfl rfl (QO.move rfl rfl) ?_
 refine Ops_quiet _ rfl rfl (QO.bin rfl rfl rfl rfl) ?_
 refine Ops_nil ?_
 refine thenA_n ?_
 refine wpA_cond rfl (fun g1 => ?_) (fun g1 => ?_)
 ·replace hm := cond_t hm g1
  refine wpA_seq ?_
  refine wpA_region ?_
  refine Ops_quiet _ rfl rfl (QO.move rfl rfl) ?_
  refine Ops_quiet _ rfl rfl (QO.assign rfl rfl) ?_
  refine Ops_quiet _ rfl rfl (QO.assign rfl rfl) ?_
  refine Ops_nil ?_
  refine thenA_n ?_
  refine wpA_ret ?_
  refine thenA_r ?_
  obtain rfl := Option.some.inj hm
  exact retA_r (h2 := h) (Res.two rfl (rfl) (rfl)) (Le.under (Le.under (Le.refl _) hb1) hb2) ⟨none, 0, frO_none, OkO.none, rfl, rfl⟩
 ·replace hm := cond_f hm g1
  refine wpA_skip ?_
  refine thenA_n ?_
  refine wpA_seq ?_
  refine wpA_seq ?_
  refine wpA_region ?_
  refine Ops_quiet _ rfl rfl (QO.move rfl rfl) ?_
  have hq := Option.bind_eq_some_iff.1 hm; clear hm; obtain ⟨r2, hr2, hm⟩ := hq
  refine Ops_call _ _ rfl rfl (EO.fn rfl Try.func28 rfl rfl (Evs.cons rfl (Evs.cons rfl (Evs.cons rfl Evs.nil)))) (QC.cc (c_impl_within hr2 ) ?_)
  refine Ops_quiet _ rfl rfl (QO.not rfl rfl) ?_
  refine Ops_nil ?_
  refine thenA_n ?_
  refine wpA_cond rfl (fun g2 => ?_) (fun g2 => ?_)
  ·replace hm := cond_t hm g2
   refine wpA_seq ?_
   refine wpA_region ?_
   refine Ops_quiet _ rfl rfl (QO.assign rfl rfl) ?_
   refine Ops_quiet _ rfl rfl (QO.assign rfl rfl) ?_
   refine Ops_nil ?_
   refine thenA_n ?_
   refine wpA_ret ?_
   refine thenA_r ?_
   obtain rfl := Option.some.inj hm
   exact retA_r (h2 := h) (Res.two rfl (rfl) (rfl)) (Le.under (Le.under (Le.refl _) hb1) hb2) ⟨none, 0, frO_none, OkO.none, rfl, rfl⟩
  ·replace hm := cond_f hm g2
   refine wpA_skip ?_
   refine thenA_n ?_
   refine wpA_seq ?_
   refine wpA_region ?_
   refine Ops_quiet _ rfl rfl (QO.loadRow (cs := sqC a0) (hr := (rdAll ((upd_ne _ _ n_b2_b1.ne.symm).trans (upd_same _ _ _)))) rfl sz28 rfl rfl (sqC_length _)) ?_
   have hq := Option.bind_eq_some_iff.1 hm; clear hm; obtain ⟨r3, hr3, hm⟩ := hq
   refine Ops_call _ _ rfl rfl (EO.fn rfl Try.func29 rfl rfl (Evs.cons rfl (Evs.cons rfl Evs.nil))) (CC.mono (c_impl_Square_unit hr3 ) ?_)
   rintro _ _ ⟨b3, cap_b3, rfl, hb3, hk_b3, hc_b3, rfl⟩
   simp only [upd_noneA] at hb3
   obtain ⟨n_b3_b2, n_b3_b1, hb3⟩ := hb3
   refine Ops_quiet _ rfl rfl (QO.assign rfl rfl) ?_
   refine Ops_nil ?_
   refine thenA_n ?_
   refine wpA_seq ?_
   refine wpA_seq ?_
   refine wpA_region ?_
   refine Ops_quiet _ rfl rfl (QO.move rfl rfl) ?_
   refine Ops_quiet _ rfl rfl (QO.move rfl rfl) ?_
   refine Ops_nil ?_
   refine thenA_n ?_
   refine wpA_block ?_
   obtain ⟨R1, hR, hm⟩ := Option.bind_eq_some_iff.1 hm
   obtain ⟨k1, hk1⟩ := loopV_some hR
   clear hR
   refine wpA_mono (Q := fun e s' h' => match (generalizing := false) R1 with | .stop x id => e = .exit id ∧ ∃ (x1 : (List Int)) (x2 : Int) (b4 cap_b4 : Nat), (x1, x2) = x ∧ (upd (h) b1 (.own 28 (sqC a0) 101)) b4 = none ∧ x1.length ≤ cap_b4 ∧ cap_b4 ≤ maxLen ∧ Sub s' [(1, .int .i64 a1), (2, .slice A2 l2.length c2), (4, .pointer (some ⟨b1, 0, none⟩)), (11, .slice (some ⟨b4, 0, none⟩) x1.length cap_b4), (25, .int .i64 a3), (26, .int .i64 x2)] ∧ Le (upd (upd (h) b1 (.own 28 (sqC a0) 101)) b4 (.own 2 (ints .i64 x1) (cap_b4 * 1))) h' | .ret r => False | .next _ => False) ?_ ?_
   ·refine wpA_loop (fun k s' h' => ∃ (x1 : (List Int)) (x2 : Int) (b4 cap_b4 : Nat), loopW (m_impl_PowerOfSum_l0 a0 a1 l2 a3) k (x1, x2) = some R1 ∧ (upd (h) b1 (.own 28 (sqC a0) 101)) b4 = none ∧ x1.length ≤ cap_b4 ∧ cap_b4 ≤ maxLen ∧ Sub s' [(1, .int .i64 a1), (2, .slice A2 l2.length c2), (4, .pointer (some ⟨b1, 0, none⟩)), (11, .slice (some ⟨b4, 0, none⟩) x1.length cap_b4), (25, .int .i64 a3), (26, .int .i64 x2)] ∧ Le (upd (upd (h) b1 (.own 28 (sqC a0) 101)) b4 (.own 2 (ints .i64 x1) (cap_b4 * 1))) h') (m := k1) ⟨r3, 0, b3, cap_b3, hk1, (none_upd n_b3_b1.ne hb3), (by first | assumption | (simp; done) | omega), (by first | assumption | (simp only [maxLen]; omega)), (Sub.cons rfl (Sub.cons rfl (Sub.cons rfl (Sub.cons rfl (Sub.cons rfl (Sub.cons rfl Sub.nil)))))), (Le.upd_left (Le.upd_left (Le.under (Le.under (Le.under (Le.refl _) hb1) hb2) hb3) ((upd_ne _ _ n_b3_b1.ne.symm).trans ((upd_ne _ _ n_b2_b1.ne.symm).trans (upd_same _ _ _))) (by first | rfl | (simp; done))) (upd_same _ _ _) (by first | rfl | (simp; done)))⟩ ?_
    rintro k1 s' h' ⟨x1, x2, b4, cap_b4, hk1, hb4, hk_b4, hc_b4, hsub, hle⟩
    refine wpA_weaken hsub.ok hle ?_
    clear hsub hle s' h'
    simp only [upd_noneA] at hb4
    obtain ⟨n_b4_b1, hb4⟩ := hb4
    cases k1 with
    | zero => exact absurd hk1 (by simp [loopW])
    | succ k1 =>
     obtain ⟨o1, ho1, hk1⟩ := loopW_succ hk1
     unfold m_impl_PowerOfSum_l0 at ho1
     try dsimp only at ho1
     refine wpA_seq ?_
     refine wpA_region ?_
     refine Ops_quiet _ rfl rfl (QO.bin rfl rfl rfl rfl) ?_
     refine Ops_nil ?_
     refine thenA_n ?_
     refine wpA_seq ?_
     refine wpA_cond rfl (fun g3 => ?_) (fun g3 => ?_)
     ·replace ho1 := cond_t ho1 g3
      refine wpA_skip ?_
      refine thenA_n ?_
      refine wpA_seq ?_
      refine wpA_block ?_
      refine wpA_region ?_
      refine Ops_quiet _ rfl rfl (QO.loadRow (cs := sqC a0) (hr := (rdAll ((upd_ne _ _ n_b4_b1.ne.symm).trans (upd_same _ _ _)))) rfl sz28 rfl rfl (sqC_length _)) ?_
      refine Ops_quiet _ rfl rfl (QO.move rfl rfl) ?_
      refine Ops_quiet _ rfl rfl (QO.move rfl rfl) ?_
      refine Ops_quiet _ rfl rfl (QO.move rfl rfl) ?_
      have hq := Option.bind_eq_some_iff.1 ho1; clear ho1; obtain ⟨r4, hr4, ho1⟩ := hq
      refine Ops_call _ _ rfl rfl (EO.fn rfl Try.func20 rfl rfl (Evs.cons rfl (Evs.cons rfl (Evs.cons rfl (Evs.cons rfl Evs.nil))))) (CC.mono (c_impl_Square_times (l2 := x1) (A2 := some ⟨b4, 0, none⟩) (c2 := cap_b4) (l3 := l2) (A3 := A2) (c3 := c2) hr4 (RdS.own (upd_same _ _ _)) (RdS.le hs2 (Le.under (Le.under (Le.refl _) hb1) hb4))) ?_)
      rintro _ _ ⟨b5, cap_b5, rfl, hb5, hk_b5, hc_b5, rfl⟩
      simp only [upd_noneA] at hb5
      obtain ⟨n_b5_b4, n_b5_b1, hb5⟩ := hb5
      refine Ops_quiet _ rfl rfl (QO.assign rfl rfl) ?_
      refine Ops_nil ?_
      refine blockA_n ?_
      refine thenA_n ?_
      refine wpA_region ?_
      refine Ops_quiet _ rfl rfl (QO.bin rfl rfl rfl rfl) ?_
      refine Ops_quiet _ rfl rfl (QO.move rfl rfl) ?_
      refine Ops_nil ?_
      obtain rfl := Option.some.inj ho1
      dsimp only at hk1
      exact thenA_n ⟨k1, Nat.lt_succ_self _, _, _, b5, cap_b5, hk1, (none_upd n_b5_b1.ne hb5), (by first | assumption | (simp; done) | omega), (by first | assumption | (simp only [maxLen]; omega)), (Sub.cons rfl (Sub.cons rfl (Sub.cons rfl (Sub.cons rfl (Sub.cons rfl (Sub.cons rfl Sub.nil)))))), (Le.upd_left (Le.upd_left (Le.under (Le.under (Le.under (Le.refl _) hb1) hb4) hb5) ((upd_ne _ _ n_b5_b1.ne.symm).trans ((upd_ne _ _ n_b4_b1.ne.symm).trans (upd_same _ _ _))) (by first | rfl | (simp; done))) (upd_same _ _ _) (by first | rfl | (simp; done)))⟩
     ·replace ho1 := cond_f ho1 g3
      refine wpA_exit ?_
      refine thenA_e ?_
      refine thenA_e ?_
      obtain rfl := Option.some.inj ho1
      obtain rfl := Option.some.inj hk1
      exact ⟨rfl, _, _, b4, cap_b4, rfl, (none_upd n_b4_b1.ne hb4), (by first | assumption | (simp; done) | omega), (by first | assumption | (simp only [maxLen]; omega)), (Sub.cons rfl (Sub.cons rfl (Sub.cons rfl (Sub.cons rfl (Sub.cons rfl (Sub.cons rfl Sub.nil)))))), (Le.upd_left (Le.upd_left (Le.under (Le.under (Le.refl _) hb1) hb4) ((upd_ne _ _ n_b4_b1.ne.symm).trans (upd_same _ _ _)) (by first | rfl | (simp; done))) (upd_same _ _ _) (by first | rfl | (simp; done)))⟩
   ·intro e s' h' hq
    cases R1 with
    | next x => exact hq.elim
    | ret r => exact hq.elim
    | stop x id =>
     obtain ⟨rfl, x3, x4, b6, cap_b6, rfl, hb6, hk_b6, hc_b6, hsub1, hle1⟩ := hq
     try dsimp only at hm
     simp only [upd_noneA] at hb6
     obtain ⟨n_b6_b1, hb6⟩ := hb6
     by_cases hid1 : id = 0
     ·subst hid1
      rw [if_pos rfl] at hm
      refine blockA_s ?_
      refine thenA_n ?_
      refine wpA_weaken hsub1.ok hle1 ?_
      refine wpA_seq ?_
      refine wpA_region ?_
      refine Ops_quiet _ rfl rfl (QO.move rfl rfl) ?_
      refine Ops_quiet _ rfl rfl (QO.assign rfl rfl) ?_
      refine Ops_quiet _ rfl rfl (QO.assign rfl rfl) ?_
      refine Ops_nil ?_
      refine thenA_n ?_
      refine wpA_ret ?_
      obtain rfl := Option.some.inj hm
      exact retA_r (h2 := upd (h) b6 (.own 2 (ints .i64 x3) (cap_b6 * 1))) (Res.two rfl (rfl) (rfl)) (Le.upd_left (Le.under (Le.under (Le.refl _) hb1) hb6) (upd_same _ _ _) (by first | rfl | (simp; done))) ⟨(some b6), cap_b6, (frO_some hb6), (OkO.some (by first | assumption | omega | (simp only [List.length_set, List.length_replicate]; first | done | assumption | omega)) (by first | assumption | (simp only [maxLen]; omega))), rfl, rfl⟩
     rw [if_neg hid1] at hm
     exact absurd hm (by simp)

/-! loop.example/g01195/spec.l10Unit -/
theorem c_spec_l10Unit {a0 : Int} {a1 : Int} {h : Hp} {r : (List Int)} (hm : m_spec_l10Unit a0 a1 = some r)  :
    CC Try.prog 31 #[.int .i64 a0, .int .i64 a1] h (NewSl 2 1 (ints .i64 r) r.length h) := by
 unfold m_spec_l10Unit at hm
 refine CC.enter Try.func31 rfl Try.ntmps31 rfl ?_
 refine wpA_seq ?_
 refine wpA_region ?_
 refine Ops_quiet _ rfl rfl (QO.assign rfl rfl) ?_
 refine Ops_nil ?_
 refine thenA_n ?_
 refine wpA_seq ?_
 refine wpA_region ?_
 refine Ops_quiet _ rfl rfl (QO.move rfl rfl) ?_
 have hq := chk hm; clear hm; obtain ⟨ck1, hm⟩ := hq
 refine Ops_loud rfl (LO.mkSl2 (m := (a0).toNat) rfl sz29 sz2 zr2 el2 rfl rfl rfl (by omega) (by omega) (by omega) (by decide) (by decide) rfl (rep_ints _ _) (fun b1 hb1 => ?_))
 refine Ops_quiet _ rfl rfl (QO.assign rfl rfl) ?_
 refine Ops_nil ?_
 refine thenA_n ?_
 refine wpA_seq ?_
 refine wpA_region ?_
 refine Ops_quiet _ rfl rfl (QO.move rfl rfl) ?_
 refine Ops_quiet _ rfl rfl (QO.move rfl rfl) ?_
 have hq := chk hm; clear hm; obtain ⟨ck2, hm⟩ := hq
 refine Ops_quiet _ rfl rfl (QO.idxSl rfl sz29 sz2 rfl rfl (by omega) (by omega)) ?_
 refine Ops_loud rfl (LO.store' (xs' := ints .i64 ((List.replicate (a0).toNat 0).set (a1).toNat 1)) rfl sz2 rfl rfl rfl (upd_same _ _ _) (by first | ((try simp only [rowsC_length, rowsA_length, mpC_length, sqC_length, tbC_length, tabI_length, tabB_length, ints_length, plsC_length, trC_length, sqsC_length, strsC_length, boolsC_length, tbB_length, List.length_append, List.length_cons, List.length_nil, List.length_set, List.length_replicate, rep_length]); first | omega | decide) | exact Nat.le_of_ble_eq_true rfl) ints_set01 Chg.here rfl ?_)
 refine Ops_nil ?_
 refine thenA_n ?_
 refine wpA_seq ?_
 refine wpA_region ?_
 refine Ops_quiet _ rfl rfl (QO.move rfl rfl) ?_
 refine Ops_quiet _ rfl rfl (QO.assign rfl rfl) ?_
 refine Ops_nil ?_
 refine thenA_n ?_
 refine wpA_ret ?_
 obtain rfl := Option.some.inj hm
 exact retA_r (h2 := upd h b1 (.own 2 (ints .i64 ((List.replicate (a0).toNat 0).set (a1).toNat 1)) ((a0).toNat * 1))) (Res.one rfl (rfl)) (Le.upd_left (Le.under (Le.refl _) hb1) (upd_same _ _ _) (by first | rfl | (simp; done))) ⟨b1, (a0).toNat, (by first | rfl | (simp [*]; done)), (by assumption), (by first | assumption | omega | (simp only [List.length_set, List.length_replicate]; first | done | assumption | omega)), (by first | assumption | (simp only [maxLen]; omega)), rfl⟩

/-! loop.example/g01195/spec.PowerOfSum -/
theorem c_spec_PowerOfSum {a0 : Sq} {a1 : Int} {l2 : (List Int)} {A2 : Option Addr} {c2 : Nat} {a3 : Int} {h : Hp} {r : (List Int) × Int} (hm : m_spec_PowerOfSum a0 a1 l2 a3 = some r) (hs2 : RdS h A2 (ints .i64 l2)) :
    CC Try.prog 13 #[.agg (sqC a0).toArray, .int .i64 a1, .slice A2 l2.length c2, .int .i64 a3] (h) (fun v h' => ∃ (b0 : Option Nat) (cap0 : Nat), FrO (h) b0 ∧ OkO b0 r.1.length cap0 ∧ v = .tuple #[.slice (adO b0) r.1.length cap0, .int .i64 r.2] ∧ h' = updO (h) b0 (.own 2 (ints .i64 r.1) (cap0 * 1))) := by
 unfold m_spec_PowerOfSum at hm
 refine CC.enter Try.func13 rfl Try.ntmps13 rfl ?_
 refine wpA_seq ?_
 refine wpA_region ?_
 refine Ops_loud rfl (LO.boxAgg rfl rfl rfl (fun b1 hb1 => ?_))
 refine Ops_quiet _ rfl rfl (QO.assign rfl rfl) ?_
 refine Ops_quiet _ rfl rfl (QO.assign rfl rfl) ?_
 refine Ops_nil ?_
 refine thenA_n ?_
 refine wpA_seq ?_
 refine wpA_region ?_
 refine Ops_quiet _ rfl rfl (QO.loadRow (cs := sqC a0) (hr := (rdAll (upd_same _ _ _))) rfl sz28 rfl rfl (sqC_length _)) ?_
 refine Ops_quiet _ rfl rfl (QO.move rfl rfl) ?_
 refine Ops_quiet _ rfl rfl (QO.move rfl rfl) ?_
 refine Ops_loud rfl (LO.slice1 (r := [.slice A2 l2.length c2]) rfl sz61 sz29 zr29 rfl (by decide) (by decide) rfl rfl rfl rfl (fun b2 hb2 => ?_))
 simp only [upd_noneA] at hb2
 obtain ⟨n_b2_b1, hb2⟩ := hb2
 have hq := Option.bind_eq_some_iff.1 hm; clear hm; obtain ⟨r1, hr1, hm⟩ := hq
 refine Ops_call _ _ rfl rfl (EO.fn rfl Try.func21 rfl rfl (Evs.cons rfl (Evs.cons rfl (Evs.cons rfl Evs.nil)))) (QC.cc (c_spec_l10Code (l2 := [l2]) (A2 := some ⟨b2, 0, none⟩) (c2 := 1) (ga2 := [(A2, c2)]) hr1 (RdSS.one (upd_same _ _ _) (RdS.le hs2 (Le.under (Le.under (Le.refl _) hb1) hb2)))) ?_)
 refine Ops_quiet _ rfl rfl (QO.assign rfl rfl) ?_
 refine Ops_nil ?_
 refine thenA_n ?_
 refine wpA_seq ?_
 refine wpA_seq ?_
 refine wpA_region ?_
 refine Ops_quiet _ rfl rfl (QO.move rfl rfl) ?_
 refine Ops_quiet _ rfl rfl (QO.bin rfl rfl rfl rfl) ?_
 refine Ops_quiet _ rfl rfl (QO.move rfl rfl) ?_
 refine Ops_case 19 rfl (fun g1 => ?_) (fun g1 => ?_)
 ·replace hm := cond_t hm g1
  refine Ops_quiet _ rfl rfl (QO.move rfl rfl) ?_
  have hq := Option.bind_eq_some_iff.1 hm; clear hm; obtain ⟨r2, hr2, hm⟩ := hq
  refine Ops_call _ _ rfl rfl (EO.fn rfl Try.func30 rfl rfl (Evs.cons rfl (Evs.cons rfl (Evs.cons rfl Evs.nil)))) (QC.cc (c_spec_l01In hr2 ) ?_)
  refine Ops_quiet _ rfl rfl (QO.not rfl rfl) ?_
  refine Ops_quiet _ rfl rfl (QO.pick_t rfl rfl rfl) ?_
  refine Ops_nil ?_
  refine thenA_n ?_
  refine wpA_cond rfl (fun g2 => ?_) (fun g2 => ?_)
  ·replace hm := cond_t hm g2
   refine wpA_region ?_
   refine Ops_quiet _ rfl rfl (QO.assign rfl rfl) ?_
   refine Ops_nil ?_
   refine thenA_n ?_
   refine wpA_seq ?_
   refine wpA_seq ?_
   refine wpA_region ?_
   refine Ops_quiet _ rfl rfl (QO.move rfl rfl) ?_
   refine Ops_quiet _ rfl rfl (QO.bin rfl rfl rfl rfl) ?_
   refine Ops_nil ?_
   refine thenA_n ?_
   refine wpA_cond rfl (fun g3 => ?_) (fun g3 => ?_)
   ·replace hm := cond_t hm g3
    refine wpA_seq ?_
    refine wpA_region ?_
    refine Ops_quiet _ rfl rfl (QO.move rfl rfl) ?_
    refine Ops_quiet _ rfl rfl (QO.assign rfl rfl) ?_
    refine Ops_quiet _ rfl rfl (QO.assign rfl rfl) ?_
    refine Ops_nil ?_
    refine thenA_n ?_
    refine wpA_ret ?_
    refine thenA_r ?_
    obtain rfl := Option.some.inj hm
    exact retA_r (h2 := h) (Res.two rfl (rfl) (rfl)) (Le.under (Le.under (Le.refl _) hb1) hb2) ⟨none, 0, frO_none, OkO.none, rfl, rfl⟩
   ·replace hm := cond_f hm g3
    refine wpA_skip ?_
    refine thenA_n ?_
    refine wpA_seq ?_
    refine wpA_region ?_
    refine Ops_quiet _ rfl rfl (QO.fieldAt (fo := 0) rfl sz28 rfl rfl sz2 rfl rfl) ?_
    refine Ops_quiet _ rfl rfl (QO.load rfl sz2 rfl rfl (by (refine (rd_own ((upd_ne _ _ n_b2_b1.ne.symm).trans (upd_same _ _ _)) _).trans ?_); exact rfl)) ?_
    have hq := Option.bind_eq_some_iff.1 hm; clear hm; obtain ⟨r3, hr3, hm⟩ := hq
    refine Ops_call _ _ rfl rfl (EO.fn rfl Try.func31 rfl rfl (Evs.cons rfl (Evs.cons rfl Evs.nil))) (CC.mono (c_spec_l10Unit hr3 ) ?_)
    rintro _ _ ⟨b3, cap_b3, rfl, hb3, hk_b3, hc_b3, rfl⟩
    simp only [upd_noneA] at hb3
    obtain ⟨n_b3_b2, n_b3_b1, hb3⟩ := hb3
    refine Ops_quiet _ rfl rfl (QO.assign rfl rfl) ?_
    refine Ops_nil ?_
    refine thenA_n ?_
    refine wpA_seq ?_
    refine wpA_block ?_
    obtain ⟨R1, hR, hm⟩ := Option.bind_eq_some_iff.1 hm
    obtain ⟨k1, hk1⟩ := loopV_some hR
    clear hR
    refine wpA_mono (Q := fun e s' h' => match (generalizing := false) R1 with | .stop x id => e = .exit id ∧ ∃ (x1 : Int) (x2 : (List Int)) (b4 cap_b4 : Nat), (x1, x2) = x ∧ (upd (h) b1 (.own 28 (sqC a0) 101)) b4 = none ∧ x2.length ≤ cap_b4 ∧ cap_b4 ≤ maxLen ∧ Sub s' [(1, .int .i64 a1), (2, .slice A2 l2.length c2), (3, .int .i64 x1), (4, .pointer (some ⟨b1, 0, none⟩)), (11, .slice (some ⟨b4, 0, none⟩) x2.length cap_b4)] ∧ Le (upd (upd (h) b1 (.own 28 (sqC a0) 101)) b4 (.own 2 (ints .i64 x2) (cap_b4 * 1))) h' | .ret r => False | .next _ => False) ?_ ?_
    ·refine wpA_loop (fun k s' h' => ∃ (x1 : Int) (x2 : (List Int)) (b4 cap_b4 : Nat), loopW (m_spec_PowerOfSum_l0 a0 a1 l2) k (x1, x2) = some R1 ∧ (upd (h) b1 (.own 28 (sqC a0) 101)) b4 = none ∧ x2.length ≤ cap_b4 ∧ cap_b4 ≤ maxLen ∧ Sub s' [(1, .int .i64 a1), (2, .slice A2 l2.length c2), (3, .int .i64 x1), (4, .pointer (some ⟨b1, 0, none⟩)), (11, .slice (some ⟨b4, 0, none⟩) x2.length cap_b4)] ∧ Le (upd (upd (h) b1 (.own 28 (sqC a0) 101)) b4 (.own 2 (ints .i64 x2) (cap_b4 * 1))) h') (m := k1) ⟨a3, r3, b3, cap_b3, hk1, (none_upd n_b3_b1.ne hb3), (by first | assumption | (simp; done) | omega), (by first | assumption | (simp only [maxLen]; omega)), (Sub.cons rfl (Sub.cons rfl (Sub.cons rfl (Sub.cons rfl (Sub.cons rfl Sub.nil))))), (Le.upd_left (Le.upd_left (Le.under (Le.under (Le.under (Le.refl _) hb1) hb2) hb3) ((upd_ne _ _ n_b3_b1.ne.symm).trans ((upd_ne _ _ n_b2_b1.ne.symm).trans (upd_same _ _ _))) (by first | rfl | (simp; done))) (upd_same _ _ _) (by first | rfl | (simp; done)))⟩ ?_
     rintro k1 s' h' ⟨x1, x2, b4, cap_b4, hk1, hb4, hk_b4, hc_b4, hsub, hle⟩
     refine wpA_weaken hsub.ok hle ?_
     clear hsub hle s' h'
     simp only [upd_noneA] at hb4
     obtain ⟨n_b4_b1, hb4⟩ := hb4
     cases k1 with
     | zero => exact absurd hk1 (by simp [loopW])
     | succ k1 =>
      obtain ⟨o1, ho1, hk1⟩ := loopW_succ hk1
      unfold m_spec_PowerOfSum_l0 at ho1
      try dsimp only at ho1
      refine wpA_seq ?_
      refine wpA_seq ?_
      refine wpA_region ?_
      refine Ops_quiet _ rfl rfl (QO.move rfl rfl) ?_
      refine Ops_quiet _ rfl rfl (QO.bin rfl rfl rfl rfl) ?_
      refine Ops_nil ?_
      refine thenA_n ?_
      refine wpA_cond rfl (fun g4 => ?_) (fun g4 => ?_)
      ·replace ho1 := cond_t ho1 g4
       refine wpA_skip ?_
       refine thenA_n ?_
       refine wpA_seq ?_
       refine wpA_block ?_
       refine wpA_region ?_
       refine Ops_quiet _ rfl rfl (QO.loadRow (cs := sqC a0) (hr := (rdAll ((upd_ne _ _ n_b4_b1.ne.symm).trans (upd_same _ _ _)))) rfl sz28 rfl rfl (sqC_length _)) ?_
       refine Ops_quiet _ rfl rfl (QO.move rfl rfl) ?_
       refine Ops_quiet _ rfl rfl (QO.move rfl rfl) ?_
       refine Ops_quiet _ rfl rfl (QO.move rfl rfl) ?_
       have hq := Option.bind_eq_some_iff.1 ho1; clear ho1; obtain ⟨r4, hr4, ho1⟩ := hq
       refine Ops_call _ _ rfl rfl (EO.fn rfl Try.func22 rfl rfl (Evs.cons rfl (Evs.cons rfl (Evs.cons rfl (Evs.cons rfl Evs.nil))))) (CC.mono (c_spec_l10Times (l2 := x2) (A2 := some ⟨b4, 0, none⟩) (c2 := cap_b4) (l3 := l2) (A3 := A2) (c3 := c2) hr4 (RdS.own (upd_same _ _ _)) (RdS.le hs2 (Le.under (Le.under (Le.refl _) hb1) hb4))) ?_)
       rintro _ _ ⟨b5, cap_b5, rfl, hb5, hk_b5, hc_b5, rfl⟩
       simp only [upd_noneA] at hb5
       obtain ⟨n_b5_b4, n_b5_b1, hb5⟩ := hb5
       refine Ops_quiet _ rfl rfl (QO.assign rfl rfl) ?_
       refine Ops_nil ?_
       refine blockA_n ?_
       refine thenA_n ?_
       refine wpA_region ?_
       refine Ops_quiet _ rfl rfl (QO.move rfl rfl) ?_
       refine Ops_quiet _ rfl rfl (QO.bin rfl rfl rfl rfl) ?_
       refine Ops_quiet _ rfl rfl (QO.assign rfl rfl) ?_
       refine Ops_nil ?_
       obtain rfl := Option.some.inj ho1
       dsimp only at hk1
       exact thenA_n ⟨k1, Nat.lt_succ_self _, _, _, b5, cap_b5, hk1, (none_upd n_b5_b1.ne hb5), (by first | assumption | (simp; done) | omega), (by first | assumption | (simp only [maxLen]; omega)), (Sub.cons rfl (Sub.cons rfl (Sub.cons rfl (Sub.cons rfl (Sub.cons rfl Sub.nil))))), (Le.upd_left (Le.upd_left (Le.under (Le.under (Le.under (Le.refl _) hb1) hb4) hb5) ((upd_ne _ _ n_b5_b1.ne.symm).trans ((upd_ne _ _ n_b4_b1.ne.symm).trans (upd_same _ _ _))) (by first | rfl | (simp; done))) (upd_same _ _ _) (by first | rfl | (simp; done)))⟩
      ·replace ho1 := cond_f ho1 g4
       refine wpA_exit ?_
       refine thenA_e ?_
       refine thenA_e ?_
       obtain rfl := Option.some.inj ho1
       obtain rfl := Option.some.inj hk1
       exact ⟨rfl, _, _, b4, cap_b4, rfl, (none_upd n_b4_b1.ne hb4), (by first | assumption | (simp; done) | omega), (by first | assumption | (simp only [maxLen]; omega)), (Sub.cons rfl (Sub.cons rfl (Sub.cons rfl (Sub.cons rfl (Sub.cons rfl Sub.nil))))), (Le.upd_left (Le.upd_left (Le.under (Le.under (Le.refl _) hb1) hb4) ((upd_ne _ _ n_b4_b1.ne.symm).trans (upd_same _ _ _)) (by first | rfl | (simp; done))) (upd_same _ _ _) (by first | rfl | (simp; done)))⟩
    ·intro e s' h' hq
     cases R1 with
     | next x => exact hq.elim
     | ret r => exact hq.elim
     | stop x id =>
      obtain ⟨rfl, x3, x4, b6, cap_b6, rfl, hb6, hk_b6, hc_b6, hsub1, hle1⟩ := hq
      try dsimp only at hm
      simp only [upd_noneA] at hb6
      obtain ⟨n_b6_b1, hb6⟩ := hb6
      by_cases hid1 : id = 0
      ·subst hid1
       rw [if_pos rfl] at hm
       refine blockA_s ?_
       refine thenA_n ?_
       refine wpA_weaken hsub1.ok hle1 ?_
       refine wpA_seq ?_
       refine wpA_region ?_
       refine Ops_quiet _ rfl rfl (QO.move rfl rfl) ?_
       refine Ops_quiet _ rfl rfl (QO.assign rfl rfl) ?_
       refine Ops_quiet _ rfl rfl (QO.assign rfl rfl) ?_
       refine Ops_nil ?_
       refine thenA_n ?_
       refine wpA_ret ?_
       obtain rfl := Option.some.inj hm
       exact retA_r (h2 := upd (h) b6 (.own 2 (ints .i64 x4) (cap_b6 * 1))) (Res.two rfl (rfl) (rfl)) (Le.upd_left (Le.under (Le.under (Le.refl _) hb1) hb6) (upd_same _ _ _) (by first | rfl | (simp; done))) ⟨(some b6), cap_b6, (frO_some hb6), (OkO.some (by first | assumption | omega | (simp only [List.length_set, List.length_replicate]; first | done | assumption | omega)) (by first | assumption | (simp only [maxLen]; omega))), rfl, rfl⟩
      rw [if_neg hid1] at hm
      exact absurd hm (by simp)
  ·replace hm := cond_f hm g2
   refine wpA_skip ?_
   refine thenA_n ?_
   refine wpA_seq ?_
   refine wpA_seq ?_
   refine wpA_region ?_
   refine Ops_quiet _ rfl rfl (QO.move rfl rfl) ?_
   refine Ops_quiet _ rfl rfl (QO.bin rfl rfl rfl rfl) ?_
   refine Ops_nil ?_
   refine thenA_n ?_
   refine wpA_cond rfl (fun g5 => ?_) (fun g5 => ?_)
   ·replace hm := cond_t hm g5
    refine wpA_seq ?_
    refine wpA_region ?_
    refine Ops_quiet _ rfl rfl (QO.move rfl rfl) ?_
    refine Ops_quiet _ rfl rfl (QO.assign rfl rfl) ?_
    refine Ops_quiet _ rfl rfl (QO.assign rfl rfl) ?_
    refine Ops_nil ?_
    refine thenA_n ?_
    refine wpA_ret ?_
    refine thenA_r ?_
    obtain rfl := Option.some.inj hm
    exact retA_r (h2 := h) (Res.two rfl (rfl) (rfl)) (Le.under (Le.under (Le.refl _) hb1) hb2) ⟨none, 0, frO_none, OkO.none, rfl, rfl⟩
   ·replace hm := cond_f hm g5
    refine wpA_skip ?_
    refine thenA_n ?_
    refine wpA_seq ?_
    refine wpA_region ?_
    refine Ops_quiet _ rfl rfl (QO.fieldAt (fo := 0) rfl sz28 rfl rfl sz2 rfl rfl) ?_
    refine Ops_quiet _ rfl rfl (QO.load rfl sz2 rfl rfl (by (refine (rd_own ((upd_ne _ _ n_b2_b1.ne.symm).trans (upd_same _ _ _)) _).trans ?_); exact rfl)) ?_
    have hq := Option.bind_eq_some_iff.1 hm; clear hm; obtain ⟨r5, hr5, hm⟩ := hq
    refine Ops_call _ _ rfl rfl (EO.fn rfl Try.func31 rfl rfl (Evs.cons rfl (Evs.cons rfl Evs.nil))) (CC.mono (c_spec_l10Unit hr5 ) ?_)
    rintro _ _ ⟨b7, cap_b7, rfl, hb7, hk_b7, hc_b7, rfl⟩
    simp only [upd_noneA] at hb7
    obtain ⟨n_b7_b2, n_b7_b1, hb7⟩ := hb7
    refine Ops_quiet _ rfl rfl (QO.assign rfl rfl) ?_
    refine Ops_nil ?_
    refine thenA_n ?_
    refine wpA_seq ?_
    refine wpA_block ?_
    obtain ⟨R2, hR, hm⟩ := Option.bind_eq_some_iff.1 hm
    obtain ⟨k2, hk2⟩ := loopV_some hR
    clear hR
    refine wpA_mono (Q := fun e s' h' => match (generalizing := false) R2 with | .stop x id => e = .exit id ∧ ∃ (x5 : Int) (x6 : (List Int)) (b8 cap_b8 : Nat), (x5, x6) = x ∧ (upd (h) b1 (.own 28 (sqC a0) 101)) b8 = none ∧ x6.length ≤ cap_b8 ∧ cap_b8 ≤ maxLen ∧ Sub s' [(1, .int .i64 a1), (2, .slice A2 l2.length c2), (3, .int .i64 x5), (4, .pointer (some ⟨b1, 0, none⟩)), (11, .slice (some ⟨b8, 0, none⟩) x6.length cap_b8)] ∧ Le (upd (upd (h) b1 (.own 28 (sqC a0) 101)) b8 (.own 2 (ints .i64 x6) (cap_b8 * 1))) h' | .ret r => False | .next _ => False) ?_ ?_
    ·refine wpA_loop (fun k s' h' => ∃ (x5 : Int) (x6 : (List Int)) (b8 cap_b8 : Nat), loopW (m_spec_PowerOfSum_l1 a0 a1 l2) k (x5, x6) = some R2 ∧ (upd (h) b1 (.own 28 (sqC a0) 101)) b8 = none ∧ x6.length ≤ cap_b8 ∧ cap_b8 ≤ maxLen ∧ Sub s' [(1, .int .i64 a1), (2, .slice A2 l2.length c2), (3, .int .i64 x5), (4, .pointer (some ⟨b1, 0, none⟩)), (11, .slice (some ⟨b8, 0, none⟩) x6.length cap_b8)] ∧ Le (upd (upd (h) b1 (.own 28 (sqC a0) 101)) b8 (.own 2 (ints .i64 x6) (cap_b8 * 1))) h') (m := k2) ⟨a3, r5, b7, cap_b7, hk2, (none_upd n_b7_b1.ne hb7), (by first | assumption | (simp; done) | omega), (by first | assumption | (simp only [maxLen]; omega)), (Sub.cons rfl (Sub.cons rfl (Sub.cons rfl (Sub.cons rfl (Sub.cons rfl Sub.nil))))), (Le.upd_left (Le.upd_left (Le.under (Le.under (Le.under (Le.refl _) hb1) hb2) hb7) ((upd_ne _ _ n_b7_b1.ne.symm).trans ((upd_ne _ _ n_b2_b1.ne.symm).trans (upd_same _ _ _))) (by first | rfl | (simp; done))) (upd_same _ _ _) (by first | rfl | (simp; done)))⟩ ?_
     rintro k2 s' h' ⟨x5, x6, b8, cap_b8, hk2, hb8, hk_b8, hc_b8, hsub, hle⟩
     refine wpA_weaken hsub.ok hle ?_
     clear hsub hle s' h'
     simp only [upd_noneA] at hb8
     obtain ⟨n_b8_b1, hb8⟩ := hb8
     cases k2 with
     | zero => exact absurd hk2 (by simp [loopW])
     | succ k2 =>
      obtain ⟨o2, ho2, hk2⟩ := loopW_succ hk2
      unfold m_spec_PowerOfSum_l1 at ho2
      try dsimp only at ho2
      refine wpA_seq ?_
      refine wpA_seq ?_
      refine wpA_region ?_
      refine Ops_quiet _ rfl rfl (QO.move rfl rfl) ?_
      refine Ops_quiet _ rfl rfl (QO.bin rfl rfl rfl rfl) ?_
      refine Ops_nil ?_
      refine thenA_n ?_
      refine wpA_cond rfl (fun g6 => ?_) (fun g6 => ?_)
      ·replace ho2 := cond_t ho2 g6
       refine wpA_skip ?_
       refine thenA_n ?_
       refine wpA_seq ?_
       refine wpA_block ?_
       refine wpA_region ?_
       refine Ops_quiet _ rfl rfl (QO.loadRow (cs := sqC a0) (hr := (rdAll ((upd_ne _ _ n_b8_b1.ne.symm).trans (upd_same _ _ _)))) rfl sz28 rfl rfl (sqC_length _)) ?_
       refine Ops_quiet _ rfl rfl (QO.move rfl rfl) ?_
       refine Ops_quiet _ rfl rfl (QO.move rfl rfl) ?_
       refine Ops_quiet _ rfl rfl (QO.move rfl rfl) ?_
       have hq := Option.bind_eq_some_iff.1 ho2; clear ho2; obtain ⟨r6, hr6, ho2⟩ := hq
       refine Ops_call _ _ rfl rfl (EO.fn rfl Try.func22 rfl rfl (Evs.cons rfl (Evs.cons rfl (Evs.cons rfl (Evs.cons rfl Evs.nil))))) (CC.mono (c_spec_l10Times (l2 := x6) (A2 := some ⟨b8, 0, none⟩) (c2 := cap_b8) (l3 := l2) (A3 := A2) (c3 := c2) hr6 (RdS.own (upd_same _ _ _)) (RdS.le hs2 (Le.under (Le.under (Le.refl _) hb1) hb8))) ?_)
       rintro _ _ ⟨b9, cap_b9, rfl, hb9, hk_b9, hc_b9, rfl⟩
       simp only [upd_noneA] at hb9
       obtain ⟨n_b9_b8, n_b9_b1, hb9⟩ := hb9
       refine Ops_quiet _ rfl rfl (QO.assign rfl rfl) ?_
       refine Ops_nil ?_
       refine blockA_n ?_
       refine thenA_n ?_
       refine wpA_region ?_
       refine Ops_quiet _ rfl rfl (QO.move rfl rfl) ?_
       refine Ops_quiet _ rfl rfl (QO.bin rfl rfl rfl rfl) ?_
       refine Ops_quiet _ rfl rfl (QO.assign rfl rfl) ?_
       refine Ops_nil ?_
       obtain rfl := Option.some.inj ho2
       dsimp only at hk2
       exact thenA_n ⟨k2, Nat.lt_succ_self _, _, _, b9, cap_b9, hk2, (none_upd n_b9_b1.ne hb9), (by first | assumption | (simp; done) | omega), (by first | assumption | (simp only [maxLen]; omega)), (Sub.cons rfl (Sub.cons rfl (Sub.cons rfl (Sub.cons rfl (Sub.cons rfl Sub.nil))))), (Le.upd_left (Le.upd_left (Le.under (Le.under (Le.under (Le.refl _) hb1) hb8) hb9) ((upd_ne _ _ n_b9_b1.ne.symm).trans ((upd_ne _ _ n_b8_b1.ne.symm).trans (upd_same _ _ _))) (by first | rfl | (simp; done))) (upd_same _ _ _) (by first | rfl | (simp; done)))⟩
      ·replace ho2 := cond_f ho2 g6
       refine wpA_exit ?_
       refine thenA_e ?_
       refine thenA_e ?_
       obtain rfl := Option.some.inj ho2
       obtain rfl := Option.some.inj hk2
       exact ⟨rfl, _, _, b8, cap_b8, rfl, (none_upd n_b8_b1.ne hb8), (by first | assumption | (simp; done) | omega), (by first | assumption | (simp only [maxLen]; omega)), (Sub.cons rfl (Sub.cons rfl (Sub.cons rfl (Sub.cons rfl (Sub.cons rfl Sub.nil))))), (Le.upd_left (Le.upd_left (Le.under (Le.under (Le.refl _) hb1) hb8) ((upd_ne _ _ n_b8_b1.ne.symm).trans (upd_same _ _ _)) (by first | rfl | (simp; done))) (upd_same _ _ _) (by first | rfl | (simp; done)))⟩
    ·intro e s' h' hq
     cases R2 with
     | next x => exact hq.elim
     | ret r => exact hq.elim
     | stop x id =>
      obtain ⟨rfl, x7, x8, b10, cap_b10, rfl, hb10, hk_b10, hc_b10, hsub2, hle2⟩ := hq
      try dsimp only at hm
      simp only [upd_noneA] at hb10
      obtain ⟨n_b10_b1, hb10⟩ := hb10
      by_cases hid2 : id = 0
      ·subst hid2
       rw [if_pos rfl] at hm
       refine blockA_s ?_
       refine thenA_n ?_
       refine wpA_weaken hsub2.ok hle2 ?_
       refine wpA_seq ?_
       refine wpA_region ?_
       refine Ops_quiet _ rfl rfl (QO.move rfl rfl) ?_
       refine Ops_quiet _ rfl rfl (QO.assign rfl rfl) ?_
       refine Ops_quiet _ rfl rfl (QO.assign rfl rfl) ?_
       refine Ops_nil ?_
       refine thenA_n ?_
       refine wpA_ret ?_
       obtain rfl := Option.some.inj hm
       exact retA_r (h2 := upd (h) b10 (.own 2 (ints .i64 x8) (cap_b10 * 1))) (Res.two rfl (rfl) (rfl)) (Le.upd_left (Le.under (Le.under (Le.refl _) hb1) hb10) (upd_same _ _ _) (by first | rfl | (simp; done))) ⟨(some b10), cap_b10, (frO_some hb10), (OkO.some (by first | assumption | omega | (simp only [List.length_set, List.length_replicate]; first | done | assumption | omega)) (by first | assumption | (simp only [maxLen]; omega))), rfl, rfl⟩
      rw [if_neg hid2] at hm
      exact absurd hm (by simp)
 ·replace hm := cond_f hm g1
  refine Ops_skip rfl rfl ?_
  refine Ops_skip rfl rfl ?_
  refine Ops_skip rfl rfl ?_
  refine Ops_quiet _ rfl rfl (QO.pick_f rfl rfl rfl) ?_
  refine Ops_nil ?_
  refine thenA_n ?_
  refine wpA_cond_f rfl ?_
  refine wpA_skip ?_
  refine thenA_n ?_
  refine wpA_seq ?_
  refine wpA_seq ?_
  refine wpA_region ?_
  refine Ops_quiet _ rfl rfl (QO.move rfl rfl) ?_
  refine Ops_quiet _ rfl rfl (QO.bin rfl rfl rfl rfl) ?_
  refine Ops_nil ?_
  refine thenA_n ?_
  refine wpA_cond rfl (fun g7 => ?_) (fun g7 => ?_)
  ·replace hm := cond_t hm g7
   refine wpA_seq ?_
   refine wpA_region ?_
   refine Ops_quiet _ rfl rfl (QO.move rfl rfl) ?_
   refine Ops_quiet _ rfl rfl (QO.assign rfl rfl) ?_
   refine Ops_quiet _ rfl rfl (QO.assign rfl rfl) ?_
   refine Ops_nil ?_
   refine thenA_n ?_
   refine wpA_ret ?_
   refine thenA_r ?_
   obtain rfl := Option.some.inj hm
   exact retA_r (h2 := h) (Res.two rfl (rfl) (rfl)) (Le.under (Le.under (Le.refl _) hb1) hb2) ⟨none, 0, frO_none, OkO.none, rfl, rfl⟩
  ·replace hm := cond_f hm g7
   refine wpA_skip ?_
   refine thenA_n ?_
   refine wpA_seq ?_
   refine wpA_region ?_
   refine Ops_quiet _ rfl rfl (QO.fieldAt (fo := 0) rfl sz28 rfl rfl sz2 rfl rfl) ?_
   refine Ops_quiet _ rfl rfl (QO.load rfl sz2 rfl rfl (by (refine (rd_own ((upd_ne _ _ n_b2_b1.ne.symm).trans (upd_same _ _ _)) _).trans ?_); exact rfl)) ?_
   have hq := Option.bind_eq_some_iff.1 hm; clear hm; obtain ⟨r7, hr7, hm⟩ := hq
   refine Ops_call _ _ rfl rfl (EO.fn rfl Try.func31 rfl rfl (Evs.cons rfl (Evs.cons rfl Evs.nil))) (CC.mono (c_spec_l10Unit hr7 ) ?_)
   rintro _ _ ⟨b11, cap_b11, rfl, hb11, hk_b11, hc_b11, rfl⟩
   simp only [upd_noneA] at hb11
   obtain ⟨n_b11_b2, n_b11_b1, hb11⟩ := hb11
   refine Ops_quiet _ rfl rfl (QO.assign rfl rfl) ?_
   refine Ops_nil ?_
   refine thenA_n ?_
   refine wpA_seq ?_
   refine wpA_block ?_
   obtain ⟨R3, hR, hm⟩ := Option.bind_eq_some_iff.1 hm
   obtain ⟨k3, hk3⟩ := loopV_some hR
   clear hR
   refine wpA_mono (Q := fun e s' h' => match (generalizing := false) R3 with | .stop x id => e = .exit id ∧ ∃ (x9 : Int) (x10 : (List Int)) (b12 cap_b12 : Nat), (x9, x10) = x ∧ (upd (h) b1 (.own 28 (sqC a0) 101)) b12 = none ∧ x10.length ≤ cap_b12 ∧ cap_b12 ≤ maxLen ∧ Sub s' [(1, .int .i64 a1), (2, .slice A2 l2.length c2), (3, .int .i64 x9), (4, .pointer (some ⟨b1, 0, none⟩)), (11, .slice (some ⟨b12, 0, none⟩) x10.length cap_b12)] ∧ Le (upd (upd (h) b1 (.own 28 (sqC a0) 101)) b12 (.own 2 (ints .i64 x10) (cap_b12 * 1))) h' | .ret r => False | .next _ => False) ?_ ?_
   ·refine wpA_loop (fun k s' h' => ∃ (x9 : Int) (x10 : (List Int)) (b12 cap_b12 : Nat), loopW (m_spec_PowerOfSum_l2 a0 a1 l2) k (x9, x10) = some R3 ∧ (upd (h) b1 (.own 28 (sqC a0) 101)) b12 = none ∧ x10.length ≤ cap_b12 ∧ cap_b12 ≤ maxLen ∧ Sub s' [(1, .int .i64 a1), (2, .slice A2 l2.length c2), (3, .int .i64 x9), (4, .pointer (some ⟨b1, 0, none⟩)), (11, .slice (some ⟨b12, 0, none⟩) x10.length cap_b12)] ∧ Le (upd (upd (h) b1 (.own 28 (sqC a0) 101)) b12 (.own 2 (ints .i64 x10) (cap_b12 * 1))) h') (m := k3) ⟨a3, r7, b11, cap_b11, hk3, (none_upd n_b11_b1.ne hb11), (by first | assumption | (simp; done) | omega), (by first | assumption | (simp only [maxLen]; omega)), (Sub.cons rfl (Sub.cons rfl (Sub.cons rfl (Sub.cons rfl (Sub.cons rfl Sub.nil))))), (Le.upd_left (Le.upd_left (Le.under (Le.under (Le.under (Le.refl _) hb1) hb2) hb11) ((upd_ne _ _ n_b11_b1.ne.symm).trans ((upd_ne _ _ n_b2_b1.ne.symm).trans (upd_same _ _ _))) (by first | rfl | (simp; done))) (upd_same _ _ _) (by first | rfl | (simp; done)))⟩ ?_
    rintro k3 s' h' ⟨x9, x10, b12, cap_b12, hk3, hb12, hk_b12, hc_b12, hsub, hle⟩
    refine wpA_weaken hsub.ok hle ?_
    clear hsub hle s' h'
    simp only [upd_noneA] at hb12
    obtain ⟨n_b12_b1, hb12⟩ := hb12
    cases k3 with
    | zero => exact absurd hk3 (by simp [loopW])
    | succ k3 =>
     obtain ⟨o3, ho3, hk3⟩ := loopW_succ hk3
     unfold m_spec_PowerOfSum_l2 at ho3
     try dsimp only at ho3
     refine wpA_seq ?_
     refine wpA_seq ?_
     refine wpA_region ?_
     refine Ops_quiet _ rfl rfl (QO.move rfl rfl) ?_
     refine Ops_quiet _ rfl rfl (QO.bin rfl rfl rfl rfl) ?_
     refine Ops_nil ?_
     refine thenA_n ?_
     refine wpA_cond rfl (fun g8 => ?_) (fun g8 => ?_)
     ·replace ho3 := cond_t ho3 g8
      refine wpA_skip ?_
      refine thenA_n ?_
      refine wpA_seq ?_
      refine wpA_block ?_
      refine wpA_region ?_
      refine Ops_quiet _ rfl rfl (QO.loadRow (cs := sqC a0) (hr := (rdAll ((upd_ne _ _ n_b12_b1.ne.symm).trans (upd_same _ _ _)))) rfl sz28 rfl rfl (sqC_length _)) ?_
      refine Ops_quiet _ rfl rfl (QO.move rfl rfl) ?_
      refine Ops_quiet _ rfl rfl (QO.move rfl rfl) ?_
      refine Ops_quiet _ rfl rfl (QO.move rfl rfl) ?_
      have hq := Option.bind_eq_some_iff.1 ho3; clear ho3; obtain ⟨r8, hr8, ho3⟩ := hq
      refine Ops_call _ _ rfl rfl (EO.fn rfl Try.func22 rfl rfl (Evs.cons rfl (Evs.cons rfl (Evs.cons rfl (Evs.cons rfl Evs.nil))))) (CC.mono (c_spec_l10Times (l2 := x10) (A2 := some ⟨b12, 0, none⟩) (c2 := cap_b12) (l3 := l2) (A3 := A2) (c3 := c2) hr8 (RdS.own (upd_same _ _ _)) (RdS.le hs2 (Le.under (Le.under (Le.refl _) hb1) hb12))) ?_)
      rintro _ _ ⟨b13, cap_b13, rfl, hb13, hk_b13, hc_b13, rfl⟩
      simp only [upd_noneA] at hb13
      obtain ⟨n_b13_b12, n_b13_b1, hb13⟩ := hb13
      refine Ops_quiet _ rfl rfl (QO.assign rfl rfl) ?_
      refine Ops_nil ?_
      refine blockA_n ?_
      refine thenA_n ?_
      refine wpA_region ?_
      refine Ops_quiet _ rfl rfl (QO.move rfl rfl) ?_
      refine Ops_quiet _ rfl rfl (QO.bin rfl rfl rfl rfl) ?_
      refine Ops_quiet _ rfl rfl (QO.assign rfl rfl) ?_
      refine Ops_nil ?_
      obtain rfl := Option.some.inj ho3
      dsimp only at hk3
      exact thenA_n ⟨k3, Nat.lt_succ_self _, _, _, b13, cap_b13, hk3, (none_upd n_b13_b1.ne hb13), (by first | assumption | (simp; done) | omega), (by first | assumption | (simp only [maxLen]; omega)), (Sub.cons rfl (Sub.cons rfl (Sub.cons rfl (Sub.cons rfl (Sub.cons rfl Sub.nil))))), (Le.upd_left (Le.upd_left (Le.under (Le.under (Le.under (Le.refl _) hb1) hb12) hb13) ((upd_ne _ _ n_b13_b1.ne.symm).trans ((upd_ne _ _ n_b12_b1.ne.symm).trans (upd_same _ _ _))) (by first | rfl | (simp; done))) (upd_same _ _ _) (by first | rfl | (simp; done)))⟩
     ·replace ho3 := cond_f ho3 g8
      refine wpA_exit ?_
      refine thenA_e ?_
      refine thenA_e ?_
      obtain rfl := Option.some.inj ho3
      obtain rfl := Option.some.inj hk3
      exact ⟨rfl, _, _, b12, cap_b12, rfl, (none_upd n_b12_b1.ne hb12), (by first | assumption | (simp; done) | omega), (by first | assumption | (simp only [maxLen]; omega)), (Sub.cons rfl (Sub.cons rfl (Sub.cons rfl (Sub.cons rfl (Sub.cons rfl Sub.nil))))), (Le.upd_left (Le.upd_left (Le.under (Le.under (Le.refl _) hb1) hb12) ((upd_ne _ _ n_b12_b1.ne.symm).trans (upd_same _ _ _)) (by first | rfl | (simp; done))) (upd_same _ _ _) (by first | rfl | (simp; done)))⟩
   ·intro e s' h' hq
    cases R3 with
    | next x => exact hq.elim
    | ret r => exact hq.elim
    | stop x id =>
     obtain ⟨rfl, x11, x12, b14, cap_b14, rfl, hb14, hk_b14, hc_b14, hsub3, hle3⟩ := hq
     try dsimp only at hm
     simp only [upd_noneA] at hb14
     obtain ⟨n_b14_b1, hb14⟩ := hb14
     by_cases hid3 : id = 0
     ·subst hid3
      rw [if_pos rfl] at hm
      refine blockA_s ?_
      refine thenA_n ?_
      refine wpA_weaken hsub3.ok hle3 ?_
      refine wpA_seq ?_
      refine wpA_region ?_
      refine Ops_quiet _ rfl rfl (QO.move rfl rfl) ?_
      refine Ops_quiet _ rfl rfl (QO.assign rfl rfl) ?_
      refine Ops_quiet _ rfl rfl (QO.assign rfl rfl) ?_
      refine Ops_nil ?_
      refine thenA_n ?_
      refine wpA_ret ?_
      obtain rfl := Option.some.inj hm
      exact retA_r (h2 := upd (h) b14 (.own 2 (ints .i64 x12) (cap_b14 * 1))) (Res.two rfl (rfl) (rfl)) (Le.upd_left (Le.under (Le.under (Le.refl _) hb1) hb14) (upd_same _ _ _) (by first | rfl | (simp; done))) ⟨(some b14), cap_b14, (frO_some hb14), (OkO.some (by first | assumption | omega | (simp only [List.length_set, List.length_replicate]; first | done | assumption | omega)) (by first | assumption | (simp only [maxLen]; omega))), rfl, rfl⟩
     rw [if_neg hid3] at hm
     exact absurd hm (by simp)

/-! loop.example/g01195/impl.AugmentationOf -/
theorem c_impl_AugmentationOf {a0 : Sq} {a1 : Int} {l2 : (List Int)} {A2 : Option Addr} {c2 : Nat} {h : Hp} {r : Int × Int} (hm : m_impl_AugmentationOf a0 a1 l2 = some r) (hs2 : RdS h A2 (ints .i64 l2)) :
    QC Try.prog 14 #[.agg (sqC a0).toArray, .int .i64 a1, .slice A2 l2.length c2] h (.tuple #[.int .i64 r.1, .int .i64 r.2]) := by
 unfold m_impl_AugmentationOf at hm
 refine CC.enter Try.func14 rfl Try.ntmps14 rfl ?_
 refine wpA_seq ?_
 refine wpA_region ?_
 refine Ops_loud rfl (LO.boxAgg rfl rfl rfl (fun b1 hb1 => ?_))
 refine Ops_quiet _ rfl rfl (QO.assign rfl rfl) ?_
 refine Ops_quiet _ rfl rfl (QO.assign rfl rfl) ?_
 refine Ops_nil ?_
 refine thenA_n ?_
 refine wpA_seq ?_
 refine wpA_seq ?_
 refine wpA_region ?_
 refine Ops_quiet _ rfl rfl (QO.loadRow (cs := sqC a0) (hr := (rdAll (upd_same _ _ _))) rfl sz28 rfl rfl (sqC_length _)) ?_
 refine Ops_quiet _ rfl rfl (QO.move rfl rfl) ?_
 refine Ops_quiet _ rfl rfl (QO.move rfl rfl) ?_
 refine Ops_loud rfl (LO.slice1 (r := [.slice A2 l2.length c2]) rfl sz61 sz29 zr29 rfl (by decide) (by decide) rfl rfl rfl rfl (fun b2 hb2 => ?_))
 simp only [upd_noneA] at hb2
 obtain ⟨n_b2_b1, hb2⟩ := hb2
 have hq := Option.bind_eq_some_iff.1 hm; clear hm; obtain ⟨r1, hr1, hm⟩ := hq
 refine Ops_call _ _ rfl rfl (EO.fn rfl Try.func19 rfl rfl (Evs.cons rfl (Evs.cons rfl (Evs.cons rfl Evs.nil)))) (QC.cc (c_impl_ringCode (l2 := [l2]) (A2 := some ⟨b2, 0, none⟩) (c2 := 1) (ga2 := [(A2, c2)]) hr1 (RdSS.one (upd_same _ _ _) (RdS.le hs2 (Le.under (Le.under (Le.refl _) hb1) hb2)))) ?_)
 refine Ops_quiet _ rfl rfl (QO.assign rfl rfl) ?_
 refine Ops_nil ?_
 refine thenA_n ?_
 refine wpA_seq ?_
 refine wpA_region ?_
 refine Ops_quiet _ rfl rfl (QO.move rfl rfl) ?_
 refine Ops_quiet _ rfl rfl (QO.bin rfl rfl rfl rfl) ?_
 refine Ops_nil ?_
 refine thenA_n ?_
 refine wpA_cond rfl (fun g1 => ?_) (fun g1 => ?_)
 ·replace hm := cond_t hm g1
  refine wpA_seq ?_
  refine wpA_region ?_
  refine Ops_quiet _ rfl rfl (QO.move rfl rfl) ?_
  refine Ops_quiet _ rfl rfl (QO.assign rfl rfl) ?_
  refine Ops_quiet _ rfl rfl (QO.assign rfl rfl) ?_
  refine Ops_nil ?_
  refine thenA_n ?_
  refine wpA_ret ?_
  refine thenA_r ?_
  obtain rfl := Option.some.inj hm
  exact retA_r (h2 := h) (Res.two rfl (rfl) (rfl)) (Le.under (Le.under (Le.refl _) hb1) hb2) ⟨rfl, rfl⟩
 ·replace hm := cond_f hm g1
  refine wpA_skip ?_
  refine thenA_n ?_
  refine wpA_seq ?_
  refine wpA_region ?_
  refine Ops_quiet _ rfl rfl (QO.assign rfl rfl) ?_
  refine Ops_nil ?_
  refine thenA_n ?_
  refine wpA_seq ?_
  refine wpA_seq ?_
  refine wpA_region ?_
  refine Ops_quiet _ rfl rfl (QO.move rfl rfl) ?_
  refine Ops_quiet _ rfl rfl (QO.lenSl rfl sz29 rfl) ?_
  refine Ops_quiet _ rfl rfl (QO.move rfl rfl) ?_
  refine Ops_nil ?_
  refine thenA_n ?_
  refine wpA_block ?_
  obtain ⟨R1, hR, hm⟩ := Option.bind_eq_some_iff.1 hm
  obtain ⟨k1, hk1⟩ := loopV_some hR
  clear hR
  refine wpA_mono (Q := fun e s' h' => match (generalizing := false) R1 with | .stop x id => e = .exit id ∧ ∃ (x1 : Int) (x2 : Int), (x1, x2) = x ∧ Sub s' [(1, .int .i64 a1), (9, .int .i64 x1), (20, .slice A2 l2.length c2), (21, .int .i64 ((l2.length : Nat) : Int)), (22, .int .i64 x2)] ∧ Le (h) h' | .ret r => False | .next _ => False) ?_ ?_
  ·refine wpA_loop (fun k s' h' => ∃ (x1 : Int) (x2 : Int), loopW (m_impl_AugmentationOf_l0 l2) k (x1, x2) = some R1 ∧ Sub s' [(1, .int .i64 a1), (9, .int .i64 x1), (20, .slice A2 l2.length c2), (21, .int .i64 ((l2.length : Nat) : Int)), (22, .int .i64 x2)] ∧ Le (h) h') (m := k1) ⟨0, 0, hk1, (Sub.cons rfl (Sub.cons rfl (Sub.cons rfl (Sub.cons rfl (Sub.cons rfl Sub.nil))))), (Le.under (Le.under (Le.refl _) hb1) hb2)⟩ ?_
   rintro k1 s' h' ⟨x1, x2, hk1, hsub, hle⟩
   refine wpA_weaken hsub.ok hle ?_
   clear hsub hle s' h'
   cases k1 with
   | zero => exact absurd hk1 (by simp [loopW])
   | succ k1 =>
    obtain ⟨o1, ho1, hk1⟩ := loopW_succ hk1
    unfold m_impl_AugmentationOf_l0 at ho1
    try dsimp only at ho1
    refine wpA_seq ?_
    refine wpA_region ?_
    refine Ops_quiet _ rfl rfl (QO.bin rfl rfl rfl rfl) ?_
    refine Ops_nil ?_
    refine thenA_n ?_
    refine wpA_seq ?_
    refine wpA_cond rfl (fun g2 => ?_) (fun g2 => ?_)
    ·replace ho1 := cond_t ho1 g2
     refine wpA_skip ?_
     refine thenA_n ?_
     refine wpA_seq ?_
     refine wpA_block ?_
     refine wpA_seq ?_
     refine wpA_region ?_
     have hq := chk ho1; clear ho1; obtain ⟨ck1, ho1⟩ := hq
     refine Ops_quiet _ rfl rfl (QO.idxRd2 rfl sz29 sz2 rfl rfl (by omega) (by omega) hs2 (by simp [rowsC_length, rowsA_length, mpC_length, sqC_length, tbC_length, tabI_length, tabB_length, ints_length, plsC_length, trC_length, sqsC_length, strsC_length, boolsC_length, tbB_length, List.length_append, List.length_cons, List.length_nil, List.length_set, List.length_replicate, rep_length]) (by decide)) ?_
     refine Ops_quiet _ rfl rfl (QO.load rfl sz2 rfl rfl (by first | exact (RdS.rd (RdS.le hs2 (Le.refl _)) (by first | rfl | exact sqC_get (by omega) (by omega) | exact tbC_get (by omega) (by omega) | exact tbB_get (by omega) (by omega) | exact tabI_get01 (by omega) | exact tabB_get01 (by omega) | exact ints_get01 (by omega) | exact boolsC_get01 (by omega) | exact tabI_get (by omega) | exact tabB_get (by omega) | exact ints_get1 (by omega) | exact strsC_get01 (by omega) | exact strsC_get1 (by omega) | exact plsC_get (by omega) (by omega) | exact trC_a (by omega) | exact trC_b (by omega) | exact trC_c (by omega) | exact sqsC_ord (by omega) | exact sqsC_get (by omega) (by omega) (by omega))) | exact (RdS.rd2 (RdS.le hs2 (Le.refl _)) (by first | rfl | exact sqC_get (by omega) (by omega) | exact tbC_get (by omega) (by omega) | exact tbB_get (by omega) (by omega) | exact tabI_get01 (by omega) | exact tabB_get01 (by omega) | exact ints_get01 (by omega) | exact boolsC_get01 (by omega) | exact tabI_get (by omega) | exact tabB_get (by omega) | exact ints_get1 (by omega) | exact strsC_get01 (by omega) | exact strsC_get1 (by omega) | exact plsC_get (by omega) (by omega) | exact trC_a (by omega) | exact trC_b (by omega) | exact trC_c (by omega) | exact sqsC_ord (by omega) | exact sqsC_get (by omega) (by omega) (by omega))) | exact (RdS.rd3 (RdS.le hs2 (Le.refl _)) (by first | rfl | exact sqC_get (by omega) (by omega) | exact tbC_get (by omega) (by omega) | exact tbB_get (by omega) (by omega) | exact tabI_get01 (by omega) | exact tabB_get01 (by omega) | exact ints_get01 (by omega) | exact boolsC_get01 (by omega) | exact tabI_get (by omega) | exact tabB_get (by omega) | exact ints_get1 (by omega) | exact strsC_get01 (by omega) | exact strsC_get1 (by omega) | exact plsC_get (by omega) (by omega) | exact trC_a (by omega) | exact trC_b (by omega) | exact trC_c (by omega) | exact sqsC_ord (by omega) | exact sqsC_get (by omega) (by omega) (by omega))))) ?_
     refine Ops_quiet _ rfl rfl (QO.assign rfl rfl) ?_
     refine Ops_nil ?_
     refine thenA_n ?_
     refine wpA_region ?_
     refine Ops_quiet _ rfl rfl (QO.move rfl rfl) ?_
     refine Ops_quiet _ rfl rfl (QO.move rfl rfl) ?_
     refine Ops_quiet _ rfl rfl (QO.bin rfl rfl rfl rfl) ?_
     refine Ops_quiet _ rfl rfl (QO.assign rfl rfl) ?_
     refine Ops_nil ?_
     refine blockA_n ?_
     refine thenA_n ?_
     refine wpA_region ?_
     refine Ops_quiet _ rfl rfl (QO.bin rfl rfl rfl rfl) ?_
     refine Ops_quiet _ rfl rfl (QO.move rfl rfl) ?_
     refine Ops_nil ?_
     obtain rfl := Option.some.inj ho1
     dsimp only at hk1
     exact thenA_n ⟨k1, Nat.lt_succ_self _, _, _, hk1, (Sub.cons rfl (Sub.cons rfl (Sub.cons rfl (Sub.cons rfl (Sub.cons rfl Sub.nil))))), (Le.refl _)⟩
    ·replace ho1 := cond_f ho1 g2
     refine wpA_exit ?_
     refine thenA_e ?_
     refine thenA_e ?_
     obtain rfl := Option.some.inj ho1
     obtain rfl := Option.some.inj hk1
     exact ⟨rfl, _, _, rfl, (Sub.cons rfl (Sub.cons rfl (Sub.cons rfl (Sub.cons rfl (Sub.cons rfl Sub.nil))))), (Le.refl _)⟩
  ·intro e s' h' hq
   cases R1 with
   | next x => exact hq.elim
   | ret r => exact hq.elim
   | stop x id =>
    obtain ⟨rfl, x3, x4, rfl, hsub1, hle1⟩ := hq
    try dsimp only at hm
    by_cases hid1 : id = 0
    ·subst hid1
     rw [if_pos rfl] at hm
     refine blockA_s ?_
     refine thenA_n ?_
     refine wpA_weaken hsub1.ok hle1 ?_
     refine wpA_seq ?_
     refine wpA_region ?_
     refine Ops_quiet _ rfl rfl (QO.move rfl rfl) ?_
     refine Ops_quiet _ rfl rfl (QO.move rfl rfl) ?_
     have hq := chk hm; clear hm; obtain ⟨ck2, hm⟩ := hq
     refine Ops_quiet _ rfl rfl (QO.rem rfl rfl rfl (by first | assumption | omega)) ?_
     refine Ops_quiet _ rfl rfl (QO.assign rfl rfl) ?_
     refine Ops_quiet _ rfl rfl (QO.assign rfl rfl) ?_
     refine Ops_nil ?_
     refine thenA_n ?_
     refine wpA_ret ?_
     obtain rfl := Option.some.inj hm
     exact retA_r (h2 := h) (Res.two rfl (rfl) (rfl)) (Le.refl _) ⟨rfl, rfl⟩
    rw [if_neg hid1] at hm
    exact absurd hm (by simp)

/-! loop.example/g01195/spec.l10Augment -/
theorem c_spec_l10Augment {a0 : Int} {l1 : (List Int)} {A1 : Option Addr} {c1 : Nat} {h : Hp} {r : Int} (hm : m_spec_l10Augment a0 l1 = some r) (hs1 : RdS h A1 (ints .i64 l1)) :
    QC Try.prog 32 #[.int .i64 a0, .slice A1 l1.length c1] h (.int .i64 r) := by
 unfold m_spec_l10Augment at hm
 refine CC.enter Try.func32 rfl Try.ntmps32 rfl ?_
 refine wpA_seq ?_
 refine wpA_region ?_
 refine Ops_quiet _ rfl rfl (QO.assign rfl rfl) ?_
 refine Ops_nil ?_
 refine thenA_n ?_
 refine wpA_seq ?_
 refine wpA_region ?_
 refine Ops_quiet _ rfl rfl (QO.assign rfl rfl) ?_
 refine Ops_nil ?_
 refine thenA_n ?_
 refine wpA_seq ?_
 refine wpA_seq ?_
 refine wpA_region ?_
 refine Ops_quiet _ rfl rfl (QO.assign rfl rfl) ?_
 refine Ops_nil ?_
 refine thenA_n ?_
 refine wpA_block ?_
 obtain ⟨R1, hR, hm⟩ := Option.bind_eq_some_iff.1 hm
 obtain ⟨k1, hk1⟩ := loopV_some hR
 clear hR
 refine wpA_mono (Q := fun e s' h' => match (generalizing := false) R1 with | .stop x id => e = .exit id ∧ ∃ (x1 : Int) (x2 : Int), (x1, x2) = x ∧ Sub s' [(0, .int .i64 a0), (1, .slice A1 l1.length c1), (5, .int .i64 x1), (6, .int .i64 x2)] ∧ Le (h) h' | .ret r => False | .next _ => False) ?_ ?_
 ·refine wpA_loop (fun k s' h' => ∃ (x1 : Int) (x2 : Int), loopW (m_spec_l10Augment_l0 l1) k (x1, x2) = some R1 ∧ Sub s' [(0, .int .i64 a0), (1, .slice A1 l1.length c1), (5, .int .i64 x1), (6, .int .i64 x2)] ∧ Le (h) h') (m := k1) ⟨0, 0, hk1, (Sub.cons rfl (Sub.cons rfl (Sub.cons rfl (Sub.cons rfl Sub.nil)))), (Le.refl _)⟩ ?_
  rintro k1 s' h' ⟨x1, x2, hk1, hsub, hle⟩
  refine wpA_weaken hsub.ok hle ?_
  clear hsub hle s' h'
  cases k1 with
  | zero => exact absurd hk1 (by simp [loopW])
  | succ k1 =>
   obtain ⟨o1, ho1, hk1⟩ := loopW_succ hk1
   unfold m_spec_l10Augment_l0 at ho1
   try dsimp only at ho1
   refine wpA_seq ?_
   refine wpA_seq ?_
   refine wpA_region ?_
   refine Ops_quiet _ rfl rfl (QO.move rfl rfl) ?_
   refine Ops_quiet _ rfl rfl (QO.move rfl rfl) ?_
   refine Ops_quiet _ rfl rfl (QO.lenSl rfl sz29 rfl) ?_
   refine Ops_quiet _ rfl rfl (QO.bin rfl rfl rfl rfl) ?_
   refine Ops_nil ?_
   refine thenA_n ?_
   refine wpA_cond rfl (fun g1 => ?_) (fun g1 => ?_)
   ·replace ho1 := cond_t ho1 g1
    refine wpA_skip ?_
    refine thenA_n ?_
    refine wpA_seq ?_
    refine wpA_block ?_
    refine wpA_region ?_
    refine Ops_quiet _ rfl rfl (QO.move rfl rfl) ?_
    refine Ops_quiet _ rfl rfl (QO.move rfl rfl) ?_
    refine Ops_quiet _ rfl rfl (QO.move rfl rfl) ?_
    have hq := chk ho1; clear ho1; obtain ⟨ck1, ho1⟩ := hq
    refine Ops_quiet _ rfl rfl (QO.idxRd2 rfl sz29 sz2 rfl rfl (by omega) (by omega) hs1 (by simp [rowsC_length, rowsA_length, mpC_length, sqC_length, tbC_length, tabI_length, tabB_length, ints_length, plsC_length, trC_length, sqsC_length, strsC_length, boolsC_length, tbB_length, List.length_append, List.length_cons, List.length_nil, List.length_set, List.length_replicate, rep_length]) (by decide)) ?_
    refine Ops_quiet _ rfl rfl (QO.load rfl sz2 rfl rfl (by first | exact (RdS.rd (RdS.le hs1 (Le.refl _)) (by first | rfl | exact sqC_get (by omega) (by omega) | exact tbC_get (by omega) (by omega) | exact tbB_get (by omega) (by omega) | exact tabI_get01 (by omega) | exact tabB_get01 (by omega) | exact ints_get01 (by omega) | exact boolsC_get01 (by omega) | exact tabI_get (by omega) | exact tabB_get (by omega) | exact ints_get1 (by omega) | exact strsC_get01 (by omega) | exact strsC_get1 (by omega) | exact plsC_get (by omega) (by omega) | exact trC_a (by omega) | exact trC_b (by omega) | exact trC_c (by omega) | exact sqsC_ord (by omega) | exact sqsC_get (by omega) (by omega) (by omega))) | exact (RdS.rd2 (RdS.le hs1 (Le.refl _)) (by first | rfl | exact sqC_get (by omega) (by omega) | exact tbC_get (by omega) (by omega) | exact tbB_get (by omega) (by omega) | exact tabI_get01 (by omega) | exact tabB_get01 (by omega) | exact ints_get01 (by omega) | exact boolsC_get01 (by omega) | exact tabI_get (by omega) | exact tabB_get (by omega) | exact ints_get1 (by omega) | exact strsC_get01 (by omega) | exact strsC_get1 (by omega) | exact plsC_get (by omega) (by omega) | exact trC_a (by omega) | exact trC_b (by omega) | exact trC_c (by omega) | exact sqsC_ord (by omega) | exact sqsC_get (by omega) (by omega) (by omega))) | exact (RdS.rd3 (RdS.le hs1 (Le.refl _)) (by first | rfl | exact sqC_get (by omega) (by omega) | exact tbC_get (by omega) (by omega) | exact tbB_get (by omega) (by omega) | exact tabI_get01 (by omega) | exact tabB_get01 (by omega) | exact ints_get01 (by omega) | exact boolsC_get01 (by omega) | exact tabI_get (by omega) | exact tabB_get (by omega) | exact ints_get1 (by omega) | exact strsC_get01 (by omega) | exact strsC_get1 (by omega) | exact plsC_get (by omega) (by omega) | exact trC_a (by omega) | exact trC_b (by omega) | exact trC_c (by omega) | exact sqsC_ord (by omega) | exact sqsC_get (by omega) (by omega) (by omega))))) ?_
    refine Ops_quiet _ rfl rfl (QO.bin rfl rfl rfl rfl) ?_
    refine Ops_quiet _ rfl rfl (QO.assign rfl rfl) ?_
    refine Ops_nil ?_
    refine blockA_n ?_
    refine thenA_n ?_
    refine wpA_region ?_
    refine Ops_quiet _ rfl rfl (QO.move rfl rfl) ?_
    refine Ops_quiet _ rfl rfl (QO.bin rfl rfl rfl rfl) ?_
    refine Ops_quiet _ rfl rfl (QO.assign rfl rfl) ?_
    refine Ops_nil ?_
    obtain rfl := Option.some.inj ho1
    dsimp only at hk1
    exact thenA_n ⟨k1, Nat.lt_succ_self _, _, _, hk1, (Sub.cons rfl (Sub.cons rfl (Sub.cons rfl (Sub.cons rfl Sub.nil)))), (Le.refl _)⟩
   ·replace ho1 := cond_f ho1 g1
    refine wpA_exit ?_
    refine thenA_e ?_
    refine thenA_e ?_
    obtain rfl := Option.some.inj ho1
    obtain rfl := Option.some.inj hk1
    exact ⟨rfl, _, _, rfl, (Sub.cons rfl (Sub.cons rfl (Sub.cons rfl (Sub.cons rfl Sub.nil)))), (Le.refl _)⟩
 ·intro e s' h' hq
  cases R1 with
  | next x => exact hq.elim
  | ret r => exact hq.elim
  | stop x id =>
   obtain ⟨rfl, x3, x4, rfl, hsub1, hle1⟩ := hq
   try dsimp only at hm
   by_cases hid1 : id = 0
   ·subst hid1
    rw [if_pos rfl] at hm
    refine blockA_s ?_
    refine thenA_n ?_
    refine wpA_weaken hsub1.ok hle1 ?_
    refine wpA_seq ?_
    refine wpA_region ?_
    refine Ops_quiet _ rfl rfl (QO.move rfl rfl) ?_
    refine Ops_quiet _ rfl rfl (QO.move rfl rfl) ?_
    have hq := chk hm; clear hm; obtain ⟨ck2, hm⟩ := hq
    refine Ops_quiet _ rfl rfl (QO.rem rfl rfl rfl (by first | assumption | omega)) ?_
    refine Ops_quiet _ rfl rfl (QO.assign rfl rfl) ?_
    refine Ops_nil ?_
    refine thenA_n ?_
    refine wpA_ret ?_
    obtain rfl := Option.some.inj hm
    exact retA_r (h2 := h) (Res.one rfl (rfl)) (Le.refl _) ⟨rfl, rfl⟩
   rw [if_neg hid1] at hm
   exact absurd hm (by simp)

/-! loop.example/g01195/spec.AugmentationOf -/
theorem c_spec_AugmentationOf {a0 : Sq} {a1 : Int} {l2 : (List Int)} {A2 : Option Addr} {c2 : Nat} {h : Hp} {r : Int × Int} (hm : m_spec_AugmentationOf a0 a1 l2 = some r) (hs2 : RdS h A2 (ints .i64 l2)) :
    QC Try.prog 15 #[.agg (sqC a0).toArray, .int .i64 a1, .slice A2 l2.length c2] h (.tuple #[.int .i64 r.1, .int .i64 r.2]) := by
 unfold m_spec_AugmentationOf at hm
 refine CC.enter Try.func15 rfl Try.ntmps15 rfl ?_
 refine wpA_seq ?_
 refine wpA_region ?_
 refine Ops_loud rfl (LO.boxAgg rfl rfl rfl (fun b1 hb1 => ?_))
 refine Ops_quiet _ rfl rfl (QO.assign rfl rfl) ?_
 refine Ops_quiet _ rfl rfl (QO.assign rfl rfl) ?_
 refine Ops_nil ?_
 refine thenA_n ?_
 refine wpA_seq ?_
 refine wpA_seq ?_
 refine wpA_region ?_
 refine Ops_quiet _ rfl rfl (QO.loadRow (cs := sqC a0) (hr := (rdAll (upd_same _ _ _))) rfl sz28 rfl rfl (sqC_length _)) ?_
 refine Ops_quiet _ rfl rfl (QO.move rfl rfl) ?_
 refine Ops_quiet _ rfl rfl (QO.move rfl rfl) ?_
 refine Ops_loud rfl (LO.slice1 (r := [.slice A2 l2.length c2]) rfl sz61 sz29 zr29 rfl (by decide) (by decide) rfl rfl rfl rfl (fun b2 hb2 => ?_))
 simp only [upd_noneA] at hb2
 obtain ⟨n_b2_b1, hb2⟩ := hb2
 have hq := Option.bind_eq_some_iff.1 hm; clear hm; obtain ⟨r1, hr1, hm⟩ := hq
 refine Ops_call _ _ rfl rfl (EO.fn rfl Try.func21 rfl rfl (Evs.cons rfl (Evs.cons rfl (Evs.cons rfl Evs.nil)))) (QC.cc (c_spec_l10Code (l2 := [l2]) (A2 := some ⟨b2, 0, none⟩) (c2 := 1) (ga2 := [(A2, c2)]) hr1 (RdSS.one (upd_same _ _ _) (RdS.le hs2 (Le.under (Le.under (Le.refl _) hb1) hb2)))) ?_)
 refine Ops_quiet _ rfl rfl (QO.assign rfl rfl) ?_
 refine Ops_nil ?_
 refine thenA_n ?_
 refine wpA_seq ?_
 refine wpA_region ?_
 refine Ops_quiet _ rfl rfl (QO.move rfl rfl) ?_
 refine Ops_quiet _ rfl rfl (QO.bin rfl rfl rfl rfl) ?_
 refine Ops_nil ?_
 refine thenA_n ?_
 refine wpA_cond rfl (fun g1 => ?_) (fun g1 => ?_)
 ·replace hm := cond_t hm g1
  refine wpA_seq ?_
  refine wpA_region ?_
  refine Ops_quiet _ rfl rfl (QO.move rfl rfl) ?_
  refine Ops_quiet _ rfl rfl (QO.assign rfl rfl) ?_
  refine Ops_quiet _ rfl rfl (QO.assign rfl rfl) ?_
  refine Ops_nil ?_
  refine thenA_n ?_
  refine wpA_ret ?_
  refine thenA_r ?_
  obtain rfl := Option.some.inj hm
  exact retA_r (h2 := h) (Res.two rfl (rfl) (rfl)) (Le.under (Le.under (Le.refl _) hb1) hb2) ⟨rfl, rfl⟩
 ·replace hm := cond_f hm g1
  refine wpA_skip ?_
  refine thenA_n ?_
  refine wpA_seq ?_
  refine wpA_region ?_
  refine Ops_quiet _ rfl rfl (QO.move rfl rfl) ?_
  refine Ops_quiet _ rfl rfl (QO.move rfl rfl) ?_
  have hq := Option.bind_eq_some_iff.1 hm; clear hm; obtain ⟨r2, hr2, hm⟩ := hq
  refine Ops_call _ _ rfl rfl (EO.fn rfl Try.func32 rfl rfl (Evs.cons rfl (Evs.cons rfl Evs.nil))) (QC.cc (c_spec_l10Augment (l1 := l2) (A1 := A2) (c1 := c2) hr2 (RdS.le hs2 (Le.under (Le.under (Le.refl _) hb1) hb2))) ?_)
  refine Ops_quiet _ rfl rfl (QO.assign rfl rfl) ?_
  refine Ops_quiet _ rfl rfl (QO.assign rfl rfl) ?_
  refine Ops_nil ?_
  refine thenA_n ?_
  refine wpA_ret ?_
  obtain rfl := Option.some.inj hm
  exact retA_r (h2 := h) (Res.two rfl (rfl) (rfl)) (Le.under (Le.under (Le.refl _) hb1) hb2) ⟨rfl, rfl⟩

/-! loop.example/g01195/laws.roll -/
theorem c_laws_roll {l0 : (List Int)} {A0 : Option Addr} {c0 : Nat} {a1 : Int} {h : Hp} {r : Rng} (hm : m_laws_roll l0 a1 = some r) (hs0 : RdS h A0 (ints .u8 l0)) :
    CC Try.prog 17 #[.slice A0 l0.length c0, .int .u64 a1] (h) (fun v h' => ∃ (b0 : Nat), (h) b0 = none ∧ v = .pointer (some ⟨b0, 0, none⟩) ∧ h' = upd (h) b0 (.own 60 (srcC A0 l0.length c0 r) 3)) := by
 unfold m_laws_roll at hm
 refine CC.enter Try.func17 rfl Try.ntmps17 rfl ?_
 refine wpA_seq ?_
 refine wpA_region ?_
 refine Ops_quiet _ rfl rfl (QO.assign rfl rfl) ?_
 refine Ops_nil ?_
 refine thenA_n ?_
 refine wpA_seq ?_
 refine wpA_region ?_
 refine Ops_quiet _ rfl rfl (QO.move rfl rfl) ?_
 refine Ops_quiet _ rfl rfl (QO.move rfl rfl) ?_
 refine Ops_quiet _ rfl rfl (QO.bin rfl rfl rfl rfl) ?_
 refine Ops_quiet _ rfl rfl (QO.move rfl rfl) ?_
 refine Ops_quiet _ rfl rfl (QO.lenSl rfl sz22 rfl) ?_
 refine Ops_quiet _ rfl rfl (QO.conv rfl sz3 sz43 rfl) ?_
 refine Ops_quiet _ rfl rfl (QO.bin rfl rfl rfl rfl) ?_
 refine Ops_quiet _ rfl rfl (QO.build2 rfl rfl rfl (bd60_0_2 _ _ _ _)) ?_
 refine Ops_loud rfl (LO.boxAgg rfl rfl rfl (fun b1 hb1 => ?_))
 refine Ops_quiet _ rfl rfl (QO.assign rfl rfl) ?_
 refine Ops_nil ?_
 refine thenA_n ?_
 refine wpA_seq ?_
 refine wpA_seq ?_
 refine wpA_region ?_
 refine Ops_quiet _ rfl rfl (QO.assign rfl rfl) ?_
 refine Ops_nil ?_
 refine thenA_n ?_
 refine wpA_block ?_
 obtain ⟨R1, hR, hm⟩ := Option.bind_eq_some_iff.1 hm
 obtain ⟨k1, hk1⟩ := loopV_some hR
 clear hR
 refine wpA_mono (Q := fun e s' h' => match (generalizing := false) R1 with | .stop x id => e = .exit id ∧ ∃ (x1 : Int) (x2 : Rng), (x1, x2) = x ∧ Sub s' [(0, .slice A0 l0.length c0), (5, .pointer (some ⟨b1, 0, none⟩)), (6, .int .i64 x1)] ∧ Le (upd (h) b1 (.own 60 (srcC A0 l0.length c0 x2) 3)) h' | .ret r => False | .next _ => False) ?_ ?_
 ·refine wpA_loop (fun k s' h' => ∃ (x1 : Int) (x2 : Rng), loopW (m_laws_roll_l0 l0) k (x1, x2) = some R1 ∧ Sub s' [(0, .slice A0 l0.length c0), (5, .pointer (some ⟨b1, 0, none⟩)), (6, .int .i64 x1)] ∧ Le (upd (h) b1 (.own 60 (srcC A0 l0.length c0 x2) 3)) h') (m := k1) ⟨0, (⟨0, (IntKind.u64.wrap ((IntKind.u64.wrap (a1 * 6257)) + (IntKind.u64.wrap ((l0.length : Nat) : Int))))⟩ : Rng), hk1, (Sub.cons rfl (Sub.cons rfl (Sub.cons rfl Sub.nil))), (Le.upd_left (Le.under (Le.refl _) hb1) (upd_same _ _ _) (by first | rfl | (simp; done)))⟩ ?_
  rintro k1 s' h' ⟨x1, x2, hk1, hsub, hle⟩
  refine wpA_weaken hsub.ok hle ?_
  clear hsub hle s' h'
  cases k1 with
  | zero => exact absurd hk1 (by simp [loopW])
  | succ k1 =>
   obtain ⟨o1, ho1, hk1⟩ := loopW_succ hk1
   unfold m_laws_roll_l0 at ho1
   try dsimp only at ho1
   refine wpA_seq ?_
   refine wpA_seq ?_
   refine wpA_region ?_
   refine Ops_quiet _ rfl rfl (QO.move rfl rfl) ?_
   refine Ops_quiet _ rfl rfl (QO.move rfl rfl) ?_
   refine Ops_quiet _ rfl rfl (QO.lenSl rfl sz22 rfl) ?_
   refine Ops_quiet _ rfl rfl (QO.bin rfl rfl rfl rfl) ?_
   refine Ops_nil ?_
   refine thenA_n ?_
   refine wpA_cond rfl (fun g1 => ?_) (fun g1 => ?_)
   ·replace ho1 := cond_t ho1 g1
    refine wpA_skip ?_
    refine thenA_n ?_
    refine wpA_seq ?_
    refine wpA_block ?_
    refine wpA_any (upd (h) b1 (.own 60 (srcC A0 l0.length c0 x2) 3)) [15] [15] (by kernel_rfl) (by kernel_rfl) (DW.start ?_)
    refine DW.pure' 0 _ rfl (by kernel_rfl) rfl (fun _ => QO.move rfl rfl) ?_
    refine DW.pure' 1 _ rfl (by kernel_rfl) rfl (fun _ => QO.move rfl rfl) ?_
    refine DW.pure' 2 _ rfl (by kernel_rfl) rfl (fun _ => QO.nilCheck rfl rfl) ?_
    refine DW.pure' 3 _ rfl (by kernel_rfl) rfl (fun _ => QO.fieldAt (fo := 2) rfl sz60 rfl rfl sz43 rfl rfl) ?_
    refine DW.read' 4 _ rfl (by kernel_rfl) rfl (QO.load rfl sz43 rfl rfl (by (refine (rd_own (upd_same _ _ _) _).trans ?_); exact rfl)) ?_
    refine DW.pure' 5 _ rfl (by kernel_rfl) rfl (fun _ => QO.bin rfl rfl rfl rfl) ?_
    refine DW.pure' 6 _ rfl (by kernel_rfl) rfl (fun _ => QO.move rfl rfl) ?_
    refine DW.pure' 7 _ rfl (by kernel_rfl) rfl (fun _ => QO.move rfl rfl) ?_
    have hq := chk ho1; clear ho1; obtain ⟨ck1, ho1⟩ := hq
    refine DW.pure' 8 _ rfl (by kernel_rfl) rfl (fun _ => QO.idxRd2 rfl sz22 sz5 rfl rfl (by omega) (by omega) hs0 (by simp [rowsC_length, rowsA_length, mpC_length, sqC_length, tbC_length, tabI_length, tabB_length, ints_length, plsC_length, trC_length, sqsC_length, strsC_length, boolsC_length, tbB_length, List.length_append, List.length_cons, List.length_nil, List.length_set, List.length_replicate, rep_length]) (by decide)) ?_
    refine DW.read' 9 _ rfl (by kernel_rfl) rfl (QO.load rfl sz5 rfl rfl (by first | exact (RdS.rd (RdS.le hs0 (Le.under (Le.refl _) hb1)) (by first | rfl | exact sqC_get (by omega) (by omega) | exact tbC_get (by omega) (by omega) | exact tbB_get (by omega) (by omega) | exact tabI_get01 (by omega) | exact tabB_get01 (by omega) | exact ints_get01 (by omega) | exact boolsC_get01 (by omega) | exact tabI_get (by omega) | exact tabB_get (by omega) | exact ints_get1 (by omega) | exact strsC_get01 (by omega) | exact strsC_get1 (by omega) | exact plsC_get (by omega) (by omega) | exact trC_a (by omega) | exact trC_b (by omega) | exact trC_c (by omega) | exact sqsC_ord (by omega) | exact sqsC_get (by omega) (by omega) (by omega))) | exact (RdS.rd2 (RdS.le hs0 (Le.under (Le.refl _) hb1)) (by first | rfl | exact sqC_get (by omega) (by omega) | exact tbC_get (by omega) (by omega) | exact tbB_get (by omega) (by omega) | exact tabI_get01 (by omega) | exact tabB_get01 (by omega) | exact ints_get01 (by omega) | exact boolsC_get01 (by omega) | exact tabI_get (by omega) | exact tabB_get (by omega) | exact ints_get1 (by omega) | exact strsC_get01 (by omega) | exact strsC_get1 (by omega) | exact plsC_get (by omega) (by omega) | exact trC_a (by omega) | exact trC_b (by omega) | exact trC_c (by omega) | exact sqsC_ord (by omega) | exact sqsC_get (by omega) (by omega) (by omega))) | exact (RdS.rd3 (RdS.le hs0 (Le.under (Le.refl _) hb1)) (by first | rfl | exact sqC_get (by omega) (by omega) | exact tbC_get (by omega) (by omega) | exact tbB_get (by omega) (by omega) | exact tabI_get01 (by omega) | exact tabB_get01 (by omega) | exact ints_get01 (by omega) | exact boolsC_get01 (by omega) | exact tabI_get (by omega) | exact tabB_get (by omega) | exact ints_get1 (by omega) | exact strsC_get01 (by omega) | exact strsC_get1 (by omega) | exact plsC_get (by omega) (by omega) | exact trC_a (by omega) | exact trC_b (by omega) | exact trC_c (by omega) | exact sqsC_ord (by omega) | exact sqsC_get (by omega) (by omega) (by omega))))) ?_
    refine DW.pure' 10 _ rfl (by kernel_rfl) rfl (fun _ => QO.conv rfl sz5 sz43 rfl) ?_
    refine DW.pure' 11 _ rfl (by kernel_rfl) rfl (fun _ => QO.bin rfl rfl rfl rfl) ?_
    refine DW.pure' 12 _ rfl (by kernel_rfl) rfl (fun _ => QO.bin rfl rfl rfl rfl) ?_
    refine DW.pure' 13 _ rfl (by kernel_rfl) rfl (fun _ => QO.nilCheck rfl rfl) ?_
    refine DW.pure' 14 _ rfl (by kernel_rfl) rfl (fun _ => QO.fieldAt (fo := 2) rfl sz60 rfl rfl sz43 rfl rfl) ?_
    refine DW.loud 15 rfl (by kernel_rfl) rfl rfl (LO.store' (xs' := srcC A0 l0.length c0 (⟨x2.at_, (IntKind.u64.wrap ((IntKind.u64.wrap ((IntKind.u64.wrap (x2.hash * 1099511628211)) + (IntKind.u64.wrap (l0.getD (x1).toNat 0)))) + 5))⟩ : Rng)) rfl sz43 rfl rfl rfl (upd_same _ _ _) (by first | ((try simp only [rowsC_length, rowsA_length, mpC_length, sqC_length, tbC_length, tabI_length, tabB_length, ints_length, plsC_length, trC_length, sqsC_length, strsC_length, boolsC_length, tbB_length, List.length_append, List.length_cons, List.length_nil, List.length_set, List.length_replicate, rep_length]); first | omega | decide) | exact Nat.le_of_ble_eq_true rfl) rfl Chg.here rfl ?_)
    refine ⟨(fun e => absurd e (by decide)), ?_⟩
    refine DW.done (by kernel_rfl) ?_ _
    refine blockA_n ?_
    refine thenA_n ?_
    refine wpA_region ?_
    refine Ops_quiet _ rfl rfl (QO.move rfl rfl) ?_
    refine Ops_quiet _ rfl rfl (QO.bin rfl rfl rfl rfl) ?_
    refine Ops_quiet _ rfl rfl (QO.assign rfl rfl) ?_
    refine Ops_nil ?_
    obtain rfl := Option.some.inj ho1
    dsimp only at hk1
    exact thenA_n ⟨k1, Nat.lt_succ_self _, _, _, hk1, (Sub.cons rfl (Sub.cons rfl (Sub.cons rfl Sub.nil))), (Le.upd_left (Le.under (Le.refl _) hb1) (upd_same _ _ _) (by first | rfl | (simp; done)))⟩
   ·replace ho1 := cond_f ho1 g1
    refine wpA_exit ?_
    refine thenA_e ?_
    refine thenA_e ?_
    obtain rfl := Option.some.inj ho1
    obtain rfl := Option.some.inj hk1
    exact ⟨rfl, _, _, rfl, (Sub.cons rfl (Sub.cons rfl (Sub.cons rfl Sub.nil))), (Le.upd_left (Le.under (Le.refl _) hb1) (upd_same _ _ _) (by first | rfl | (simp; done)))⟩
 ·intro e s' h' hq
  cases R1 with
  | next x => exact hq.elim
  | ret r => exact hq.elim
  | stop x id =>
   obtain ⟨rfl, x3, x4, rfl, hsub1, hle1⟩ := hq
   try dsimp only at hm
   by_cases hid1 : id = 0
   ·subst hid1
    rw [if_pos rfl] at hm
    refine blockA_s ?_
    refine thenA_n ?_
    refine wpA_weaken hsub1.ok hle1 ?_
    refine wpA_seq ?_
    refine wpA_region ?_
    refine Ops_quiet _ rfl rfl (QO.move rfl rfl) ?_
    refine Ops_quiet _ rfl rfl (QO.assign rfl rfl) ?_
    refine Ops_nil ?_
    refine thenA_n ?_
    refine wpA_ret ?_
    obtain rfl := Option.some.inj hm
    exact retA_r (h2 := upd (h) b1 (.own 60 (srcC A0 l0.length c0 x4) 3)) (Res.one rfl (rfl)) (Le.upd_left (Le.under (Le.refl _) hb1) (upd_same _ _ _) (by first | rfl | (simp; done))) ⟨b1, hb1, rfl, rfl⟩
   rw [if_neg hid1] at hm
   exact absurd hm (by simp)

/-! (*loop.example/g01195/laws.dice).below -/
theorem c_laws_dice_below {a0 : Rng} {p0 : Nat} {l_s : List Int} {A_s : Option Addr} {c_s : Nat} {a1 : Int} {h : Hp} {r : Int × Rng} (hm : m_laws_dice_below a0 l_s a1 = some r) (hs_s : RdS h A_s (ints .u8 l_s)) (h_p0 : h p0 = none) :
    CC Try.prog 33 #[.pointer (some ⟨p0, 0, none⟩), .int .i64 a1] (upd (h) p0 (.own 60 (srcC A_s l_s.length c_s a0) 3)) (fun v h' => v = .int .i64 r.1 ∧ h' = upd (h) p0 (.own 60 (srcC A_s l_s.length c_s r.2) 3)) := by
 unfold m_laws_dice_below at hm
 refine CC.enter Try.func33 rfl Try.ntmps33 rfl ?_
 refine wpA_seq ?_
 refine wpA_region ?_
 refine Ops_quiet _ rfl rfl (QO.assign rfl rfl) ?_
 refine Ops_nil ?_
 refine thenA_n ?_
 refine wpA_seq ?_
 refine wpA_seq ?_
 refine wpA_region ?_
 refine Ops_quiet _ rfl rfl (QO.move rfl rfl) ?_
 refine Ops_quiet _ rfl rfl (QO.bin rfl rfl rfl rfl) ?_
 refine Ops_nil ?_
 refine thenA_n ?_
 refine wpA_cond rfl (fun g1 => ?_) (fun g1 => ?_)
 ·replace hm := cond_t hm g1
  refine wpA_seq ?_
  refine wpA_region ?_
  refine Ops_quiet _ rfl rfl (QO.assign rfl rfl) ?_
  refine Ops_nil ?_
  refine thenA_n ?_
  refine wpA_ret ?_
  refine thenA_r ?_
  obtain rfl := Option.some.inj hm
  exact retA_r (h2 := upd (h) p0 (.own 60 (srcC A_s l_s.length c_s a0) 3)) (Res.one rfl (rfl)) (Le.upd_left (Le.under (Le.refl _) h_p0) (upd_same _ _ _) (by first | rfl | (simp; done))) ⟨rfl, rfl⟩
 ·replace hm := cond_f hm g1
  refine wpA_skip ?_
  refine thenA_n ?_
  refine wpA_seq ?_
  refine wpA_region ?_
  refine Ops_quiet _ rfl rfl (QO.move rfl rfl) ?_
  refine Ops_quiet _ rfl rfl (QO.move rfl rfl) ?_
  refine Ops_quiet _ rfl rfl (QO.nilCheck rfl rfl) ?_
  refine Ops_quiet _ rfl rfl (QO.fieldAt (fo := 2) rfl sz60 rfl rfl sz43 rfl rfl) ?_
  refine Ops_quiet _ rfl rfl (QO.load rfl sz43 rfl rfl (by (refine (rd_own (upd_same _ _ _) _).trans ?_); exact rfl)) ?_
  refine Ops_quiet _ rfl rfl (QO.bin rfl rfl rfl rfl) ?_
  refine Ops_quiet _ rfl rfl (QO.bin rfl rfl rfl rfl) ?_
  refine Ops_quiet _ rfl rfl (QO.nilCheck rfl rfl) ?_
  refine Ops_quiet _ rfl rfl (QO.fieldAt (fo := 2) rfl sz60 rfl rfl sz43 rfl rfl) ?_
  refine Ops_loud rfl (LO.store' (xs' := srcC A_s l_s.length c_s (⟨a0.at_, (IntKind.u64.wrap ((IntKind.u64.wrap (a0.hash * 6364136223846793005)) + 1442695040888963407))⟩ : Rng)) rfl sz43 rfl rfl rfl (upd_same _ _ _) (by first | ((try simp only [rowsC_length, rowsA_length, mpC_length, sqC_length, tbC_length, tabI_length, tabB_length, ints_length, plsC_length, trC_length, sqsC_length, strsC_length, boolsC_length, tbB_length, List.length_append, List.length_cons, List.length_nil, List.length_set, List.length_replicate, rep_length]); first | omega | decide) | exact Nat.le_of_ble_eq_true rfl) rfl Chg.here rfl ?_)
  refine Ops_nil ?_
  refine thenA_n ?_
  refine wpA_seq ?_
  refine wpA_region ?_
  refine Ops_quiet _ rfl rfl (QO.move rfl rfl) ?_
  refine Ops_quiet _ rfl rfl (QO.nilCheck rfl rfl) ?_
  refine Ops_quiet _ rfl rfl (QO.fieldAt (fo := 2) rfl sz60 rfl rfl sz43 rfl rfl) ?_
  refine Ops_quiet _ rfl rfl (QO.load rfl sz43 rfl rfl (by (refine (rd_own (upd_same _ _ _) _).trans ?_); exact rfl)) ?_
  refine Ops_quiet _ rfl rfl (QO.shr rfl rfl rfl (by decide)) ?_
  refine Ops_quiet _ rfl rfl (QO.bin rfl rfl rfl rfl) ?_
  refine Ops_quiet _ rfl rfl (QO.conv rfl sz43 sz2 rfl) ?_
  refine Ops_quiet _ rfl rfl (QO.assign rfl rfl) ?_
  refine Ops_nil ?_
  refine thenA_n ?_
  refine wpA_seq ?_
  refine wpA_seq ?_
  refine wpA_drawn (by kernel_rfl) (by kernel_rfl) ?_
  refine QOps.quiet _ rfl rfl (QO.move rfl rfl) ?_
  refine QOps.quiet _ rfl rfl (QO.nilCheck rfl rfl) ?_
  refine QOps.quiet _ rfl rfl (QO.fieldAt (fo := 1) rfl sz60 rfl rfl sz3 rfl rfl) ?_
  refine QOps.quiet _ rfl rfl (QO.load rfl sz3 rfl rfl (by (refine (rd_own (upd_same _ _ _) _).trans ?_); exact rfl)) ?_
  refine QOps.quiet _ rfl rfl (QO.move rfl rfl) ?_
  refine QOps.quiet _ rfl rfl (QO.nilCheck rfl rfl) ?_
  refine QOps.quiet _ rfl rfl (QO.fieldAt (fo := 0) rfl sz60 rfl rfl sz22 rfl rfl) ?_
  refine QOps.quiet _ rfl rfl (QO.load rfl sz22 rfl rfl (by (refine (rd_own (upd_same _ _ _) _).trans ?_); exact rfl)) ?_
  refine QOps.quiet _ rfl rfl (QO.lenSl rfl sz22 rfl) ?_
  refine QOps.quiet _ rfl rfl (QO.bin rfl rfl rfl rfl) ?_
  refine QOps.nil ?_
  refine thenA_n ?_
  refine wpA_cond rfl (fun g2 => ?_) (fun g2 => ?_)
  ·replace hm := cond_t hm g2
   refine wpA_seq ?_
   refine wpA_drawn (by kernel_rfl) (by kernel_rfl) ?_
   refine QOps.quiet _ rfl rfl (QO.move rfl rfl) ?_
   refine QOps.quiet _ rfl rfl (QO.move rfl rfl) ?_
   refine QOps.quiet _ rfl rfl (QO.nilCheck rfl rfl) ?_
   refine QOps.quiet _ rfl rfl (QO.fieldAt (fo := 0) rfl sz60 rfl rfl sz22 rfl rfl) ?_
   refine QOps.quiet _ rfl rfl (QO.load rfl sz22 rfl rfl (by (refine (rd_own (upd_same _ _ _) _).trans ?_); exact rfl)) ?_
   refine QOps.quiet _ rfl rfl (QO.move rfl rfl) ?_
   refine QOps.quiet _ rfl rfl (QO.nilCheck rfl rfl) ?_
   refine QOps.quiet _ rfl rfl (QO.fieldAt (fo := 1) rfl sz60 rfl rfl sz3 rfl rfl) ?_
   refine QOps.quiet _ rfl rfl (QO.load rfl sz3 rfl rfl (by (refine (rd_own (upd_same _ _ _) _).trans ?_); exact rfl)) ?_
   have hq := chk hm; clear hm; obtain ⟨ck1, hm⟩ := hq
   refine QOps.quiet _ rfl rfl (QO.idxRd2 rfl sz22 sz5 rfl rfl (by omega) (by omega) hs_s (by simp [rowsC_length, rowsA_length, mpC_length, sqC_length, tbC_length, tabI_length, tabB_length, ints_length, plsC_length, trC_length, sqsC_length, strsC_length, boolsC_length, tbB_length, List.length_append, List.length_cons, List.length_nil, List.length_set, List.length_replicate, rep_length]) (by decide)) ?_
   refine QOps.quiet _ rfl rfl (QO.load rfl sz5 rfl rfl (by first | exact (RdS.rd (RdS.le hs_s (Le.under (Le.refl _) h_p0)) (by first | rfl | exact sqC_get (by omega) (by omega) | exact tbC_get (by omega) (by omega) | exact tbB_get (by omega) (by omega) | exact tabI_get01 (by omega) | exact tabB_get01 (by omega) | exact ints_get01 (by omega) | exact boolsC_get01 (by omega) | exact tabI_get (by omega) | exact tabB_get (by omega) | exact ints_get1 (by omega) | exact strsC_get01 (by omega) | exact strsC_get1 (by omega) | exact plsC_get (by omega) (by omega) | exact trC_a (by omega) | exact trC_b (by omega) | exact trC_c (by omega) | exact sqsC_ord (by omega) | exact sqsC_get (by omega) (by omega) (by omega))) | exact (RdS.rd2 (RdS.le hs_s (Le.under (Le.refl _) h_p0)) (by first | rfl | exact sqC_get (by omega) (by omega) | exact tbC_get (by omega) (by omega) | exact tbB_get (by omega) (by omega) | exact tabI_get01 (by omega) | exact tabB_get01 (by omega) | exact ints_get01 (by omega) | exact boolsC_get01 (by omega) | exact tabI_get (by omega) | exact tabB_get (by omega) | exact ints_get1 (by omega) | exact strsC_get01 (by omega) | exact strsC_get1 (by omega) | exact plsC_get (by omega) (by omega) | exact trC_a (by omega) | exact trC_b (by omega) | exact trC_c (by omega) | exact sqsC_ord (by omega) | exact sqsC_get (by omega) (by omega) (by omega))) | exact (RdS.rd3 (RdS.le hs_s (Le.under (Le.refl _) h_p0)) (by first | rfl | exact sqC_get (by omega) (by omega) | exact tbC_get (by omega) (by omega) | exact tbB_get (by omega) (by omega) | exact tabI_get01 (by omega) | exact tabB_get01 (by omega) | exact ints_get01 (by omega) | exact boolsC_get01 (by omega) | exact tabI_get (by omega) | exact tabB_get (by omega) | exact ints_get1 (by omega) | exact strsC_get01 (by omega) | exact strsC_get1 (by omega) | exact plsC_get (by omega) (by omega) | exact trC_a (by omega) | exact trC_b (by omega) | exact trC_c (by omega) | exact sqsC_ord (by omega) | exact sqsC_get (by omega) (by omega) (by omega))))) ?_
   refine QOps.quiet _ rfl rfl (QO.conv rfl sz5 sz2 rfl) ?_
   refine QOps.quiet _ rfl rfl (QO.bin rfl rfl rfl rfl) ?_
   refine QOps.quiet _ rfl rfl (QO.assign rfl rfl) ?_
   refine QOps.nil ?_
   refine thenA_n ?_
   refine wpA_region ?_
   refine Ops_quiet _ rfl rfl (QO.move rfl rfl) ?_
   refine Ops_quiet _ rfl rfl (QO.move rfl rfl) ?_
   refine Ops_quiet _ rfl rfl (QO.nilCheck rfl rfl) ?_
   refine Ops_quiet _ rfl rfl (QO.fieldAt (fo := 1) rfl sz60 rfl rfl sz3 rfl rfl) ?_
   refine Ops_quiet _ rfl rfl (QO.load rfl sz3 rfl rfl (by (refine (rd_own (upd_same _ _ _) _).trans ?_); exact rfl)) ?_
   refine Ops_quiet _ rfl rfl (QO.bin rfl rfl rfl rfl) ?_
   refine Ops_quiet _ rfl rfl (QO.nilCheck rfl rfl) ?_
   refine Ops_quiet _ rfl rfl (QO.fieldAt (fo := 1) rfl sz60 rfl rfl sz3 rfl rfl) ?_
   refine Ops_loud rfl (LO.store' (xs' := srcC A_s l_s.length c_s (⟨(IntKind.i64.wrap (((⟨a0.at_, (IntKind.u64.wrap ((IntKind.u64.wrap (a0.hash * 6364136223846793005)) + 1442695040888963407))⟩ : Rng)).at_ + 1)), ((⟨a0.at_, (IntKind.u64.wrap ((IntKind.u64.wrap (a0.hash * 6364136223846793005)) + 1442695040888963407))⟩ : Rng)).hash⟩ : Rng)) rfl sz3 rfl rfl rfl (upd_same _ _ _) (by first | ((try simp only [rowsC_length, rowsA_length, mpC_length, sqC_length, tbC_length, tabI_length, tabB_length, ints_length, plsC_length, trC_length, sqsC_length, strsC_length, boolsC_length, tbB_length, List.length_append, List.length_cons, List.length_nil, List.length_set, List.length_replicate, rep_length]); first | omega | decide) | exact Nat.le_of_ble_eq_true rfl) rfl Chg.here rfl ?_)
   refine Ops_nil ?_
   refine thenA_n ?_
   refine wpA_seq ?_
   refine wpA_region ?_
   refine Ops_quiet _ rfl rfl (QO.move rfl rfl) ?_
   refine Ops_quiet _ rfl rfl (QO.move rfl rfl) ?_
   have hq := chk hm; clear hm; obtain ⟨ck2, hm⟩ := hq
   refine Ops_quiet _ rfl rfl (QO.rem rfl rfl rfl (by first | assumption | omega)) ?_
   refine Ops_quiet _ rfl rfl (QO.assign rfl rfl) ?_
   refine Ops_nil ?_
   refine thenA_n ?_
   refine wpA_ret ?_
   obtain rfl := Option.some.inj hm
   exact retA_r (h2 := upd (h) p0 (.own 60 (srcC A_s l_s.length c_s (⟨(IntKind.i64.wrap (((⟨a0.at_, (IntKind.u64.wrap ((IntKind.u64.wrap (a0.hash * 6364136223846793005)) + 1442695040888963407))⟩ : Rng)).at_ + 1)), ((⟨a0.at_, (IntKind.u64.wrap ((IntKind.u64.wrap (a0.hash * 6364136223846793005)) + 1442695040888963407))⟩ : Rng)).hash⟩ : Rng)) 3)) (Res.one rfl (rfl)) (Le.upd_left (Le.under (Le.refl _) h_p0) (upd_same _ _ _) (by first | rfl | (simp; done))) ⟨rfl, rfl⟩
  ·replace hm := cond_f hm g2
   refine wpA_skip ?_
   refine thenA_n ?_
   refine wpA_seq ?_
   refine wpA_region ?_
   refine Ops_quiet _ rfl rfl (QO.move rfl rfl) ?_
   refine Ops_quiet _ rfl rfl (QO.move rfl rfl) ?_
   have hq := chk hm; clear hm; obtain ⟨ck3, hm⟩ := hq
   refine Ops_quiet _ rfl rfl (QO.rem rfl rfl rfl (by first | assumption | omega)) ?_
   refine Ops_quiet _ rfl rfl (QO.assign rfl rfl) ?_
   refine Ops_nil ?_
   refine thenA_n ?_
   refine wpA_ret ?_
   obtain rfl := Option.some.inj hm
   exact retA_r (h2 := upd (h) p0 (.own 60 (srcC A_s l_s.length c_s (⟨a0.at_, (IntKind.u64.wrap ((IntKind.u64.wrap (a0.hash * 6364136223846793005)) + 1442695040888963407))⟩ : Rng)) 3)) (Res.one rfl (rfl)) (Le.upd_left (Le.under (Le.refl _) h_p0) (upd_same _ _ _) (by first | rfl | (simp; done))) ⟨rfl, rfl⟩

/-! loop.example/g01195/laws.sum9 -/
theorem c_laws_sum9 {a0 : Rng} {p0 : Nat} {l_s : List Int} {A_s : Option Addr} {c_s : Nat} {a1 : Int} {a2 : Int} {h : Hp} {r : (List Int) × Rng} (hm : m_laws_sum9 a0 l_s a1 a2 = some r) (hs_s : RdS h A_s (ints .u8 l_s)) (h_p0 : h p0 = none) :
    CC Try.prog 16 #[.pointer (some ⟨p0, 0, none⟩), .int .i64 a1, .int .i64 a2] (upd (h) p0 (.own 60 (srcC A_s l_s.length c_s a0) 3)) (fun v h' => ∃ (b0 cap0 : Nat), (upd (h) p0 (.own 60 (srcC A_s l_s.length c_s r.2) 3)) b0 = none ∧ r.1.length ≤ cap0 ∧ cap0 ≤ maxLen ∧ v = .slice (some ⟨b0, 0, none⟩) r.1.length cap0 ∧ h' = upd (upd (h) p0 (.own 60 (srcC A_s l_s.length c_s r.2) 3)) b0 (.own 2 (ints .i64 r.1) (cap0 * 1))) := by
 unfold m_laws_sum9 at hm
 refine CC.enter Try.func16 rfl Try.ntmps16 rfl ?_
 refine wpA_seq ?_
 refine wpA_region ?_
 refine Ops_quiet _ rfl rfl (QO.assign rfl rfl) ?_
 refine Ops_nil ?_
 refine thenA_n ?_
 refine wpA_seq ?_
 refine wpA_region ?_
 refine Ops_loud rfl (LO.sliceNil rfl sz29 sz2 rfl (fun b1 hb1 => ?_))
 simp only [upd_noneA] at hb1
 obtain ⟨n_b1_p0, hb1⟩ := hb1
 refine Ops_quiet _ rfl rfl (QO.assign rfl rfl) ?_
 refine Ops_nil ?_
 refine thenA_n ?_
 refine wpA_seq ?_
 refine wpA_seq ?_
 refine wpA_region ?_
 refine Ops_quiet _ rfl rfl (QO.assign rfl rfl) ?_
 refine Ops_nil ?_
 refine thenA_n ?_
 refine wpA_block ?_
 obtain ⟨R1, hR, hm⟩ := Option.bind_eq_some_iff.1 hm
 obtain ⟨k1, hk1⟩ := loopV_some hR
 clear hR
 refine wpA_mono (Q := fun e s' h' => match (generalizing := false) R1 with | .stop x id => e = .exit id ∧ ∃ (x1 : (List Int)) (x2 : Int) (x3 : Rng) (b2 cap_b2 : Nat), (x1, x2, x3) = x ∧ (upd (h) p0 (.own 60 (srcC A_s l_s.length c_s x3) 3)) b2 = none ∧ x1.length ≤ cap_b2 ∧ cap_b2 ≤ maxLen ∧ Sub s' [(0, .pointer (some ⟨p0, 0, none⟩)), (1, .int .i64 a1), (2, .int .i64 a2), (7, .slice (some ⟨b2, 0, none⟩) x1.length cap_b2), (8, .int .i64 x2)] ∧ Le (upd (upd (h) p0 (.own 60 (srcC A_s l_s.length c_s x3) 3)) b2 (.own 2 (ints .i64 x1) (cap_b2 * 1))) h' | .ret r => False | .next _ => False) ?_ ?_
 ·refine wpA_loop (fun k s' h' => ∃ (x1 : (List Int)) (x2 : Int) (x3 : Rng) (b2 cap_b2 : Nat), loopW (m_laws_sum9_l0 l_s a1 a2) k (x1, x2, x3) = some R1 ∧ (upd (h) p0 (.own 60 (srcC A_s l_s.length c_s x3) 3)) b2 = none ∧ x1.length ≤ cap_b2 ∧ cap_b2 ≤ maxLen ∧ Sub s' [(0, .pointer (some ⟨p0, 0, none⟩)), (1, .int .i64 a1), (2, .int .i64 a2), (7, .slice (some ⟨b2, 0, none⟩) x1.length cap_b2), (8, .int .i64 x2)] ∧ Le (upd (upd (h) p0 (.own 60 (srcC A_s l_s.length c_s x3) 3)) b2 (.own 2 (ints .i64 x1) (cap_b2 * 1))) h') (m := k1) ⟨[], 0, a0, b1, 0, hk1, (none_upd n_b1_p0.ne hb1), (by first | assumption | (simp; done) | omega), (by first | assumption | (simp only [maxLen]; omega)), (Sub.cons rfl (Sub.cons rfl (Sub.cons rfl (Sub.cons rfl (Sub.cons rfl Sub.nil))))), (Le.upd_left (Le.upd_left (Le.under (Le.under (Le.refl _) h_p0) hb1) ((upd_ne _ _ n_b1_p0.ne.symm).trans (upd_same _ _ _)) (by first | rfl | (simp; done))) (upd_same _ _ _) (by first | rfl | (simp; done)))⟩ ?_
  rintro k1 s' h' ⟨x1, x2, x3, b2, cap_b2, hk1, hb2, hk_b2, hc_b2, hsub, hle⟩
  refine wpA_weaken hsub.ok hle ?_
  clear hsub hle s' h'
  simp only [upd_noneA] at hb2
  obtain ⟨n_b2_p0, hb2⟩ := hb2
  cases k1 with
  | zero => exact absurd hk1 (by simp [loopW])
  | succ k1 =>
   obtain ⟨o1, ho1, hk1⟩ := loopW_succ hk1
   unfold m_laws_sum9_l0 at ho1
   try dsimp only at ho1
   refine wpA_seq ?_
   refine wpA_seq ?_
   refine wpA_region ?_
   refine Ops_quiet _ rfl rfl (QO.move rfl rfl) ?_
   refine Ops_quiet _ rfl rfl (QO.move rfl rfl) ?_
   refine Ops_quiet _ rfl rfl (QO.bin rfl rfl rfl rfl) ?_
   refine Ops_nil ?_
   refine thenA_n ?_
   refine wpA_cond rfl (fun g1 => ?_) (fun g1 => ?_)
   ·replace ho1 := cond_t ho1 g1
    refine wpA_skip ?_
    refine thenA_n ?_
    refine wpA_seq ?_
    refine wpA_block ?_
    refine wpA_region ?_
    refine Ops_quiet _ rfl rfl (QO.move rfl rfl) ?_
    refine Ops_quiet _ rfl rfl (QO.move rfl rfl) ?_
    refine Ops_quiet _ rfl rfl (QO.move rfl rfl) ?_
    have hq := Option.bind_eq_some_iff.1 ho1; clear ho1; obtain ⟨r1, hr1, ho1⟩ := hq
    have hd1 : Del (upd (upd (h) p0 (.own 60 (srcC A_s l_s.length c_s x3) 3)) b2 (.own 2 (ints .i64 x1) (cap_b2 * 1))) p0 (.own 60 (srcC A_s l_s.length c_s x3) 3) (upd (h) b2 (.own 2 (ints .i64 x1) (cap_b2 * 1))) := (Del.there n_b2_p0.ne.symm (Del.here h_p0))
    refine Ops_call _ _ rfl rfl (EO.fn rfl Try.func33 rfl rfl (Evs.cons rfl (Evs.cons rfl Evs.nil))) (CC.mono (CC.atLe (c_laws_dice_below (h := upd (h) b2 (.own 2 (ints .i64 x1) (cap_b2 * 1))) hr1 (RdS.le hs_s (Le.under (Le.refl _) hb2)) hd1.none) hd1.le) ?_)
    rintro _ _ ⟨rfl, rfl⟩
    refine Ops_loud rfl (LO.slice1 (r := ints .i64 [r1.1]) rfl sz29 sz2 zr2 (by first | rfl | (simp [rowsC_length, rowsA_length, mpC_length, sqC_length, tbC_length, tabI_length, tabB_length, ints_length, plsC_length, trC_length, sqsC_length, strsC_length, boolsC_length, tbB_length, List.length_append, List.length_cons, List.length_nil, List.length_set, List.length_replicate, rep_length]; done)) (by decide) (by decide) rfl rfl (by first | rfl | (simp [rowsC_length, rowsA_length, mpC_length, sqC_length, tbC_length, tabI_length, tabB_length, ints_length, plsC_length, trC_length, sqsC_length, strsC_length, boolsC_length, tbB_length, List.length_append, List.length_cons, List.length_nil, List.length_set, List.length_replicate, rep_length]; done)) rfl (fun b3 hb3 => ?_))
    simp only [upd_noneA] at hb3
    obtain ⟨n_b3_p0, n_b3_b2, hb3⟩ := hb3
    have hq := chk ho1; clear ho1; obtain ⟨ck1, ho1⟩ := hq
    refine Ops_loud rfl (LO.append2 (ys := ints .i64 [r1.1]) (k' := (x1 ++ [r1.1]).length) (xs' := ints .i64 (x1 ++ [r1.1])) rfl sz29 el2 rfl rfl (Del.drop n_b3_b2.ne (none_upd n_b3_p0.ne hb3) (Del.there n_b2_p0.ne (Del.here hb2))) (by first | assumption | omega) (by first | assumption | (simp only [maxLen]; omega)) (by first | rfl | (simp [rowsC_length, rowsA_length, mpC_length, sqC_length, tbC_length, tabI_length, tabB_length, ints_length, plsC_length, trC_length, sqsC_length, strsC_length, boolsC_length, tbB_length, List.length_append, List.length_cons, List.length_nil, List.length_set, List.length_replicate, rep_length]; done) | (simp [rowsC_length, rowsA_length, mpC_length, sqC_length, tbC_length, tabI_length, tabB_length, ints_length, plsC_length, trC_length, sqsC_length, strsC_length, boolsC_length, tbB_length, List.length_append, List.length_cons, List.length_nil, List.length_set, List.length_replicate, rep_length]; omega)) (by first | rfl | (simp [rowsC_length, rowsA_length, mpC_length, sqC_length, tbC_length, tabI_length, tabB_length, ints_length, plsC_length, trC_length, sqsC_length, strsC_length, boolsC_length, tbB_length, List.length_append, List.length_cons, List.length_nil, List.length_set, List.length_replicate, rep_length]; done) | (simp [rowsC_length, rowsA_length, mpC_length, sqC_length, tbC_length, tabI_length, tabB_length, ints_length, plsC_length, trC_length, sqsC_length, strsC_length, boolsC_length, tbB_length, List.length_append, List.length_cons, List.length_nil, List.length_set, List.length_replicate, rep_length]; omega)) (RdS.own (upd_same _ _ _)) (by first | assumption | exact tabI_one _ _ _ | exact tbC_one _ | exact sqC_one _ | exact tabB_one _ _ | exact ints_one _ _ | exact plsC_one _ | exact strsC_one _ | exact srcC_one _ _ _ _ | (intro v hv; simp at hv; subst hv; rfl)) (by decide) (by omega) (by decide) (by decide) rfl (by first | rfl | (simp [rowsC_length, rowsA_length, mpC_length, sqC_length, tbC_length, tabI_length, tabB_length, ints_length, plsC_length, trC_length, sqsC_length, strsC_length, boolsC_length, tbB_length, List.length_append, List.length_cons, List.length_nil, List.length_set, List.length_replicate, rep_length]; done) | (simp [rowsC_length, rowsA_length, mpC_length, sqC_length, tbC_length, tabI_length, tabB_length, ints_length, plsC_length, trC_length, sqsC_length, strsC_length, boolsC_length, tbB_length, List.length_append, List.length_cons, List.length_nil, List.length_set, List.length_replicate, rep_length]; omega)) (by first | rfl | (simp [ints, plsC, sqsC, boolsC, strsC]; done)) (fun b4 cap_b4 hb4 hk_b4 hc_b4 => ?_))
    simp only [upd_noneA] at hb4
    obtain ⟨n_b4_p0, hb4⟩ := hb4
    refine Ops_quiet _ rfl rfl (QO.assign rfl rfl) ?_
    refine Ops_nil ?_
    refine blockA_n ?_
    refine thenA_n ?_
    refine wpA_region ?_
    refine Ops_quiet _ rfl rfl (QO.move rfl rfl) ?_
    refine Ops_quiet _ rfl rfl (QO.bin rfl rfl rfl rfl) ?_
    refine Ops_quiet _ rfl rfl (QO.assign rfl rfl) ?_
    refine Ops_nil ?_
    obtain rfl := Option.some.inj ho1
    dsimp only at hk1
    exact thenA_n ⟨k1, Nat.lt_succ_self _, _, _, _, b4, cap_b4, hk1, (none_upd n_b4_p0.ne hb4), (by first | assumption | (simp; done) | omega), (by first | assumption | (simp only [maxLen]; omega)), (Sub.cons rfl (Sub.cons rfl (Sub.cons rfl (Sub.cons rfl (Sub.cons rfl Sub.nil))))), (Le.upd_left (Le.upd_left (Le.under (Le.under (Le.refl _) h_p0) hb4) ((upd_ne _ _ n_b4_p0.ne.symm).trans (upd_same _ _ _)) (by first | rfl | (simp; done))) (upd_same _ _ _) (by first | rfl | (simp; done)))⟩
   ·replace ho1 := cond_f ho1 g1
    refine wpA_exit ?_
    refine thenA_e ?_
    refine thenA_e ?_
    obtain rfl := Option.some.inj ho1
    obtain rfl := Option.some.inj hk1
    exact ⟨rfl, _, _, _, b2, cap_b2, rfl, (none_upd n_b2_p0.ne hb2), (by first | assumption | (simp; done) | omega), (by first | assumption | (simp only [maxLen]; omega)), (Sub.cons rfl (Sub.cons rfl (Sub.cons rfl (Sub.cons rfl (Sub.cons rfl Sub.nil))))), (Le.upd_left (Le.upd_left (Le.under (Le.under (Le.refl _) h_p0) hb2) ((upd_ne _ _ n_b2_p0.ne.symm).trans (upd_same _ _ _)) (by first | rfl | (simp; done))) (upd_same _ _ _) (by first | rfl | (simp; done)))⟩
 ·intro e s' h' hq
  cases R1 with
  | next x => exact hq.elim
  | ret r => exact hq.elim
  | stop x id =>
   obtain ⟨rfl, x4, x5, x6, b5, cap_b5, rfl, hb5, hk_b5, hc_b5, hsub1, hle1⟩ := hq
   try dsimp only at hm
   simp only [upd_noneA] at hb5
   obtain ⟨n_b5_p0, hb5⟩ := hb5
   by_cases hid1 : id = 0
   ·subst hid1
    rw [if_pos rfl] at hm
    refine blockA_s ?_
    refine thenA_n ?_
    refine wpA_weaken hsub1.ok hle1 ?_
    refine wpA_seq ?_
    refine wpA_region ?_
    refine Ops_quiet _ rfl rfl (QO.move rfl rfl) ?_
    refine Ops_quiet _ rfl rfl (QO.assign rfl rfl) ?_
    refine Ops_nil ?_
    refine thenA_n ?_
    refine wpA_ret ?_
    obtain rfl := Option.some.inj hm
    exact retA_r (h2 := upd (upd (h) p0 (.own 60 (srcC A_s l_s.length c_s x6) 3)) b5 (.own 2 (ints .i64 x4) (cap_b5 * 1))) (Res.one rfl (rfl)) (Le.upd_left (Le.upd_left (Le.under (Le.under (Le.refl _) h_p0) hb5) ((upd_ne _ _ n_b5_p0.ne.symm).trans (upd_same _ _ _)) (by first | rfl | (simp; done))) (upd_same _ _ _) (by first | rfl | (simp; done))) ⟨b5, cap_b5, (none_upd n_b5_p0.ne hb5), (by first | assumption | omega | (simp only [List.length_set, List.length_replicate]; first | done | assumption | omega)), (by first | assumption | (simp only [maxLen]; omega)), rfl, rfl⟩
   rw [if_neg hid1] at hm
   exact absurd hm (by simp)
end Go.Lab
