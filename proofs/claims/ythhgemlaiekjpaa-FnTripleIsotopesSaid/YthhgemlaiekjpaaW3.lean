/- The walks: each function computes what its model tells. -/
import Derived.Test.YthhgemlaiekjpaaW2
set_option linter.unusedVariables false
set_option linter.unusedSimpArgs false
namespace Go.Lab
open Go Go.Abs Go.Proofs
set_option maxRecDepth 20000
set_option linter.unusedVariables false
set_option linter.unusedSimpArgs false
/-! loop.example/g01195/spec.l01Then -/
theorem c_spec_l01Then {a0 : (Nat → Int)} {a1 : (Nat → Int)} {a2 : Int} {h : Hp} {r : (Nat → Int)} (hm : m_spec_l01Then a0 a1 a2 = some r)  :
    QC Try.prog 54 #[.agg (tabI .u8 a0 10).toArray, .agg (tabI .u8 a1 10).toArray, .int .i64 a2] h (.agg (tabI .u8 r 10).toArray) := by
 unfold m_spec_l01Then at hm
 refine CC.enter Try.func54 rfl Try.ntmps54 rfl ?_
 refine wpA_seq ?_
 refine wpA_region ?_
 refine Ops_loud rfl (LO.boxAgg rfl rfl rfl (fun b1 hb1 => ?_))
 refine Ops_loud rfl (LO.boxAgg rfl rfl rfl (fun b2 hb2 => ?_))
 simp only [upd_noneA] at hb2
 obtain ⟨n_b2_b1, hb2⟩ := hb2
 refine Ops_loud rfl (LO.alloc rfl zr29 rfl (fun b3 hb3 => ?_))
 simp only [upd_noneA] at hb3
 obtain ⟨n_b3_b2, n_b3_b1, hb3⟩ := hb3
 refine Ops_nil ?_
 refine thenA_n ?_
 refine wpA_seq ?_
 refine wpA_region ?_
 refine Ops_quiet _ rfl rfl (QO.build0 rfl bd29) ?_
 refine Ops_loud rfl (LO.alloc rfl zr29 rfl (fun b4 hb4 => ?_))
 simp only [upd_noneA] at hb4
 obtain ⟨n_b4_b3, n_b4_b2, n_b4_b1, hb4⟩ := hb4
 refine Ops_loud rfl (LO.storeAll (cs := tabI .u8 pl0 10) rfl sz29 rfl rfl (tabI_one _ _ _) (tabI_length _ _ _) (upd_same _ _ _) (tabI_length _ _ _) Chg.here rfl ?_)
 refine Ops_nil ?_
 refine thenA_n ?_
 refine wpA_seq ?_
 refine wpA_seq ?_
 refine wpA_region ?_
 refine Ops_quiet _ rfl rfl (QO.assign rfl rfl) ?_
 refine Ops_nil ?_
 refine thenA_n ?_
 refine wpA_block ?_
 obtain ⟨R1, hR, hm⟩ := Option.bind_eq_some_iff.1 hm
 obtain ⟨k1, hk1⟩ := loopV_some hR
 clear hR
 refine wpA_mono (Q := fun e s' h' => match (generalizing := false) R1 with | .stop x id => e = .exit id ∧ ∃ (x1 : Int) (x2 : (Nat → Int)), (x1, x2) = x ∧ Sub s' [(2, .int .i64 a2), (3, .pointer (some ⟨b1, 0, none⟩)), (4, .pointer (some ⟨b2, 0, none⟩)), (6, .pointer (some ⟨b3, 0, none⟩)), (7, .pointer (some ⟨b4, 0, none⟩)), (8, .int .i64 x1)] ∧ Le (upd (upd (upd (upd (h) b1 (.own 29 (tabI .u8 a0 10) 10)) b2 (.own 29 (tabI .u8 a1 10) 10)) b3 (.own 29 (tabI .u8 pl0 10) 10)) b4 (.own 29 (tabI .u8 x2 10) 10)) h' | .ret r => False | .next _ => False) ?_ ?_
 ·refine wpA_loop (fun k s' h' => ∃ (x1 : Int) (x2 : (Nat → Int)), loopW (m_spec_l01Then_l0 a0 a1 a2) k (x1, x2) = some R1 ∧ Sub s' [(2, .int .i64 a2), (3, .pointer (some ⟨b1, 0, none⟩)), (4, .pointer (some ⟨b2, 0, none⟩)), (6, .pointer (some ⟨b3, 0, none⟩)), (7, .pointer (some ⟨b4, 0, none⟩)), (8, .int .i64 x1)] ∧ Le (upd (upd (upd (upd (h) b1 (.own 29 (tabI .u8 a0 10) 10)) b2 (.own 29 (tabI .u8 a1 10) 10)) b3 (.own 29 (tabI .u8 pl0 10) 10)) b4 (.own 29 (tabI .u8 x2 10) 10)) h') (m := k1) ⟨0, pl0, hk1, (Sub.cons rfl (Sub.cons rfl (Sub.cons rfl (Sub.cons rfl (Sub.cons rfl (Sub.cons rfl Sub.nil)))))), (Le.upd_left (Le.upd_left (Le.upd_left (Le.upd_left (Le.under (Le.under (Le.under (Le.under (Le.refl _) hb1) hb2) hb3) hb4) ((upd_ne _ _ n_b4_b1.ne.symm).trans ((upd_ne _ _ n_b3_b1.ne.symm).trans ((upd_ne _ _ n_b2_b1.ne.symm).trans (upd_same _ _ _)))) (by first | rfl | (simp; done))) ((upd_ne _ _ n_b4_b2.ne.symm).trans ((upd_ne _ _ n_b3_b2.ne.symm).trans (upd_same _ _ _))) (by first | rfl | (simp; done))) ((upd_ne _ _ n_b4_b3.ne.symm).trans (upd_same _ _ _)) (by first | rfl | (simp; done))) (upd_same _ _ _) (by first | rfl | (simp; done)))⟩ ?_
  rintro k1 s' h' ⟨x1, x2, hk1, hsub, hle⟩
  refine wpA_weaken hsub.ok hle ?_
  clear hsub hle s' h'
  cases k1 with
  | zero => exact absurd hk1 (by simp [loopW])
  | succ k1 =>
   obtain ⟨o1, ho1, hk1⟩ := loopW_succ hk1
   unfold m_spec_l01Then_l0 at ho1
   try dsimp only at ho1
   refine wpA_seq ?_
   refine wpA_seq ?_
   refine wpA_region ?_
   refine Ops_quiet _ rfl rfl (QO.move rfl rfl) ?_
   refine Ops_quiet _ rfl rfl (QO.move rfl rfl) ?_
   refine Ops_quiet _ rfl rfl (QO.bin rfl rfl rfl rfl) ?_
   refine Ops_nil ?_
   refine thenA_n ?_
   refine wpA_cond rfl (fun g1 => ?_) (fun g1 => ?_)
   ·replace ho1 := cond_t ho1 g1
    refine wpA_skip ?_
    refine thenA_n ?_
    refine wpA_seq ?_
    refine wpA_block ?_
    refine wpA_region ?_
    refine Ops_quiet _ rfl rfl (QO.move rfl rfl) ?_
    refine Ops_quiet _ rfl rfl (QO.move rfl rfl) ?_
    have hq := chk ho1; clear ho1; obtain ⟨ck1, ho1⟩ := hq
    refine Ops_quiet _ rfl rfl (QO.idxArr rfl sz29 sz5 rfl rfl (by omega) (by omega)) ?_
    refine Ops_quiet _ rfl rfl (QO.load rfl sz5 rfl rfl (by (refine (rd_own ((upd_ne _ _ n_b4_b1.ne.symm).trans ((upd_ne _ _ n_b3_b1.ne.symm).trans ((upd_ne _ _ n_b2_b1.ne.symm).trans (upd_same _ _ _)))) _).trans ?_); exact tabI_get01 (by omega))) ?_
    have hq := chk ho1; clear ho1; obtain ⟨ck2, ho1⟩ := hq
    refine Ops_quiet _ rfl rfl (QO.idxArr rfl sz29 sz5 rfl rfl (by omega) (by omega)) ?_
    refine Ops_quiet _ rfl rfl (QO.load rfl sz5 rfl rfl (by (refine (rd_own ((upd_ne _ _ n_b4_b2.ne.symm).trans ((upd_ne _ _ n_b3_b2.ne.symm).trans (upd_same _ _ _))) _).trans ?_); exact tabI_get01 (by omega))) ?_
    have hq := chk ho1; clear ho1; obtain ⟨ck3, ho1⟩ := hq
    refine Ops_quiet _ rfl rfl (QO.idxArr rfl sz29 sz5 rfl rfl (by omega) (by omega)) ?_
    refine Ops_loud rfl (LO.store' (xs' := tabI .u8 (fset x2 (x1).toNat (a1 ((a0 (x1).toNat)).toNat)) 10) rfl sz5 rfl rfl rfl (upd_same _ _ _) (by first | ((try simp only [mpC_length, sqC_length, tbC_length, tabI_length, tabB_length, ints_length, plsC_length, trC_length, sqsC_length, strsC_length, boolsC_length, tbB_length, List.length_append, List.length_cons, List.length_nil, List.length_set, List.length_replicate, rep_length]); first | omega | decide) | exact Nat.le_of_ble_eq_true rfl) tabI_set01 Chg.here rfl ?_)
    refine Ops_nil ?_
    refine blockA_n ?_
    refine thenA_n ?_
    refine wpA_region ?_
    refine Ops_quiet _ rfl rfl (QO.move rfl rfl) ?_
    refine Ops_quiet _ rfl rfl (QO.bin rfl rfl rfl rfl) ?_
    refine Ops_quiet _ rfl rfl (QO.assign rfl rfl) ?_
    refine Ops_nil ?_
    obtain rfl := Option.some.inj ho1
    dsimp only at hk1
    exact thenA_n ⟨k1, Nat.lt_succ_self _, _, _, hk1, (Sub.cons rfl (Sub.cons rfl (Sub.cons rfl (Sub.cons rfl (Sub.cons rfl (Sub.cons rfl Sub.nil)))))), (Le.upd_left (Le.upd_left (Le.upd_left (Le.upd_left (Le.under (Le.under (Le.under (Le.under (Le.refl _) hb1) hb2) hb3) hb4) ((upd_ne _ _ n_b4_b1.ne.symm).trans ((upd_ne _ _ n_b3_b1.ne.symm).trans ((upd_ne _ _ n_b2_b1.ne.symm).trans (upd_same _ _ _)))) (by first | rfl | (simp; done))) ((upd_ne _ _ n_b4_b2.ne.symm).trans ((upd_ne _ _ n_b3_b2.ne.symm).trans (upd_same _ _ _))) (by first | rfl | (simp; done))) ((upd_ne _ _ n_b4_b3.ne.symm).trans (upd_same _ _ _)) (by first | rfl | (simp; done))) (upd_same _ _ _) (by first | rfl | (simp; done)))⟩
   ·replace ho1 := cond_f ho1 g1
    refine wpA_exit ?_
    refine thenA_e ?_
    refine thenA_e ?_
    obtain rfl := Option.some.inj ho1
    obtain rfl := Option.some.inj hk1
    exact ⟨rfl, _, _, rfl, (Sub.cons rfl (Sub.cons rfl (Sub.cons rfl (Sub.cons rfl (Sub.cons rfl (Sub.cons rfl Sub.nil)))))), (Le.upd_left (Le.upd_left (Le.upd_left (Le.upd_left (Le.under (Le.under (Le.under (Le.under (Le.refl _) hb1) hb2) hb3) hb4) ((upd_ne _ _ n_b4_b1.ne.symm).trans ((upd_ne _ _ n_b3_b1.ne.symm).trans ((upd_ne _ _ n_b2_b1.ne.symm).trans (upd_same _ _ _)))) (by first | rfl | (simp; done))) ((upd_ne _ _ n_b4_b2.ne.symm).trans ((upd_ne _ _ n_b3_b2.ne.symm).trans (upd_same _ _ _))) (by first | rfl | (simp; done))) ((upd_ne _ _ n_b4_b3.ne.symm).trans (upd_same _ _ _)) (by first | rfl | (simp; done))) (upd_same _ _ _) (by first | rfl | (simp; done)))⟩
 ·intro e s' h' hq
  cases R1 with
  | next x => exact hq.elim
  | ret r => exact hq.elim
  | stop x id =>
   obtain ⟨rfl, x3, x4, rfl, hsub1, hle1⟩ := hq
   try dsimp only at hm
   by_cases hid1 : id = 0
   ·subst hid1
    rw [if_pos rfl] at hm
    refine blockA_s ?_
    refine thenA_n ?_
    refine wpA_weaken hsub1.ok hle1 ?_
    refine wpA_seq ?_
    refine wpA_region ?_
    refine Ops_quiet _ rfl rfl (QO.loadRow (cs := tabI .u8 x4 10) (hr := (rdAll (upd_same _ _ _))) rfl sz29 rfl rfl (tabI_length _ _ _)) ?_
    refine Ops_loud rfl (LO.storeAll (cs := tabI .u8 x4 10) rfl sz29 rfl rfl (tabI_one _ _ _) (tabI_length _ _ _) ((upd_ne _ _ n_b4_b3.ne.symm).trans (upd_same _ _ _)) (tabI_length _ _ _) (Chg.there n_b4_b3.ne Chg.here) rfl ?_)
    refine Ops_nil ?_
    refine thenA_n ?_
    refine wpA_ret ?_
    obtain rfl := Option.some.inj hm
    exact retA_r (h2 := h) (Res.one rfl (res1.row (cs := tabI .u8 x4 10) (hr := (rdAll ((upd_ne _ _ n_b4_b3.ne.symm).trans (upd_same _ _ _)))) sz29 rfl rfl (tabI_length _ _ _))) (Le.under (Le.under (Le.under (Le.under (Le.refl _) hb1) hb2) hb3) hb4) ⟨rfl, rfl⟩
   rw [if_neg hid1] at hm
   exact absurd hm (by simp)

/-! loop.example/g01195/spec.l02Then -/
theorem c_spec_l02Then {a0 : Tr} {a1 : Tr} {a2 : Int} {h : Hp} {r : Tr} (hm : m_spec_l02Then a0 a1 a2 = some r)  :
    QC Try.prog 33 #[.agg (trC a0).toArray, .agg (trC a1).toArray, .int .i64 a2] h (.agg (trC r).toArray) := by
 unfold m_spec_l02Then at hm
 refine CC.enter Try.func33 rfl Try.ntmps33 rfl ?_
 refine wpA_seq ?_
 refine wpA_region ?_
 refine Ops_loud rfl (LO.boxAgg rfl rfl rfl (fun b1 hb1 => ?_))
 refine Ops_loud rfl (LO.boxAgg rfl rfl rfl (fun b2 hb2 => ?_))
 simp only [upd_noneA] at hb2
 obtain ⟨n_b2_b1, hb2⟩ := hb2
 refine Ops_loud rfl (LO.alloc rfl zr31 rfl (fun b3 hb3 => ?_))
 simp only [upd_noneA] at hb3
 obtain ⟨n_b3_b2, n_b3_b1, hb3⟩ := hb3
 refine Ops_nil ?_
 refine thenA_n ?_
 refine wpA_seq ?_
 refine wpA_any (upd (upd (upd (h) b1 (.own 31 (trC a0) 30)) b2 (.own 31 (trC a1) 30)) b3 (.own 31 (trC tr0) 30)) [19] [19] (by kernel_rfl) (by kernel_rfl) (DW.start ?_)
 refine DW.pure' 0 _ rfl (by kernel_rfl) rfl (fun _ => QO.fieldAt (fo := 0) rfl sz31 rfl rfl sz29 rfl rfl) ?_
 refine DW.read' 1 _ rfl (by kernel_rfl) rfl (QO.loadRow (cs := tabI .u8 a0.a 10) (hr := (rdTrA ((upd_ne _ _ n_b3_b1.ne.symm).trans ((upd_ne _ _ n_b2_b1.ne.symm).trans (upd_same _ _ _))))) rfl sz29 rfl rfl (tabI_length _ _ _)) ?_
 refine DW.pure' 2 _ rfl (by kernel_rfl) rfl (fun _ => QO.fieldAt (fo := 0) rfl sz31 rfl rfl sz29 rfl rfl) ?_
 refine DW.read' 3 _ rfl (by kernel_rfl) rfl (QO.loadRow (cs := tabI .u8 a1.a 10) (hr := (rdTrA ((upd_ne _ _ n_b3_b2.ne.symm).trans (upd_same _ _ _)))) rfl sz29 rfl rfl (tabI_length _ _ _)) ?_
 refine DW.pure' 4 _ rfl (by kernel_rfl) rfl (fun _ => QO.move rfl rfl) ?_
 have hq := Option.bind_eq_some_iff.1 hm; clear hm; obtain ⟨r1, hr1, hm⟩ := hq
 refine DW.qcall' 5 _ _ _ rfl (by kernel_rfl) rfl (EO.fn rfl Try.func54 rfl rfl (Evs.cons rfl (Evs.cons rfl (Evs.cons rfl Evs.nil)))) (c_spec_l01Then hr1 ) ?_
 refine DW.pure' 6 _ rfl (by kernel_rfl) rfl (fun _ => QO.fieldAt (fo := 10) rfl sz31 rfl rfl sz29 rfl rfl) ?_
 refine DW.read' 7 _ rfl (by kernel_rfl) rfl (QO.loadRow (cs := tabI .u8 a0.b 10) (hr := (rdTrB ((upd_ne _ _ n_b3_b1.ne.symm).trans ((upd_ne _ _ n_b2_b1.ne.symm).trans (upd_same _ _ _))))) rfl sz29 rfl rfl (tabI_length _ _ _)) ?_
 refine DW.pure' 8 _ rfl (by kernel_rfl) rfl (fun _ => QO.fieldAt (fo := 10) rfl sz31 rfl rfl sz29 rfl rfl) ?_
 refine DW.read' 9 _ rfl (by kernel_rfl) rfl (QO.loadRow (cs := tabI .u8 a1.b 10) (hr := (rdTrB ((upd_ne _ _ n_b3_b2.ne.symm).trans (upd_same _ _ _)))) rfl sz29 rfl rfl (tabI_length _ _ _)) ?_
 refine DW.pure' 10 _ rfl (by kernel_rfl) rfl (fun _ => QO.move rfl rfl) ?_
 have hq := Option.bind_eq_some_iff.1 hm; clear hm; obtain ⟨r2, hr2, hm⟩ := hq
 refine DW.qcall' 11 _ _ _ rfl (by kernel_rfl) rfl (EO.fn rfl Try.func54 rfl rfl (Evs.cons rfl (Evs.cons rfl (Evs.cons rfl Evs.nil)))) (c_spec_l01Then hr2 ) ?_
 refine DW.pure' 12 _ rfl (by kernel_rfl) rfl (fun _ => QO.fieldAt (fo := 20) rfl sz31 rfl rfl sz29 rfl rfl) ?_
 refine DW.read' 13 _ rfl (by kernel_rfl) rfl (QO.loadRow (cs := tabI .u8 a0.c 10) (hr := (rdTrC ((upd_ne _ _ n_b3_b1.ne.symm).trans ((upd_ne _ _ n_b2_b1.ne.symm).trans (upd_same _ _ _))))) rfl sz29 rfl rfl (tabI_length _ _ _)) ?_
 refine DW.pure' 14 _ rfl (by kernel_rfl) rfl (fun _ => QO.fieldAt (fo := 20) rfl sz31 rfl rfl sz29 rfl rfl) ?_
 refine DW.read' 15 _ rfl (by kernel_rfl) rfl (QO.loadRow (cs := tabI .u8 a1.c 10) (hr := (rdTrC ((upd_ne _ _ n_b3_b2.ne.symm).trans (upd_same _ _ _)))) rfl sz29 rfl rfl (tabI_length _ _ _)) ?_
 refine DW.pure' 16 _ rfl (by kernel_rfl) rfl (fun _ => QO.move rfl rfl) ?_
 have hq := Option.bind_eq_some_iff.1 hm; clear hm; obtain ⟨r3, hr3, hm⟩ := hq
 refine DW.qcall' 17 _ _ _ rfl (by kernel_rfl) rfl (EO.fn rfl Try.func54 rfl rfl (Evs.cons rfl (Evs.cons rfl (Evs.cons rfl Evs.nil)))) (c_spec_l01Then hr3 ) ?_
 refine DW.pure' 18 _ rfl (by kernel_rfl) rfl (fun _ => QO.build3 rfl rfl rfl rfl (bd31_0_1_2 r1 r2 r3)) ?_
 refine DW.loud 19 rfl (by kernel_rfl) rfl rfl (LO.storeAll (cs := trC (⟨r1, r2, r3⟩ : Tr)) rfl sz31 rfl rfl (trC_one _) (trC_length _) (upd_same _ _ _) (trC_length _) Chg.here rfl ?_)
 refine ⟨(fun e => absurd e (by decide)), ?_⟩
 refine DW.done (by kernel_rfl) ?_ _
 refine thenA_n ?_
 refine wpA_ret ?_
 obtain rfl := Option.some.inj hm
 exact retA_r (h2 := h) (Res.one rfl (res1.row (cs := trC (⟨r1, r2, r3⟩ : Tr)) (hr := (rdAll (upd_same _ _ _))) sz31 rfl rfl (trC_length _))) (Le.under (Le.under (Le.under (Le.refl _) hb1) hb2) hb3) ⟨rfl, rfl⟩

/-! loop.example/g01195/spec.ThenTriples -/
theorem c_spec_ThenTriples {a0 : Tr} {a1 : Tr} {a2 : Int} {h : Hp} {r : Tr × Int} (hm : m_spec_ThenTriples a0 a1 a2 = some r)  :
    QC Try.prog 10 #[.agg (trC a0).toArray, .agg (trC a1).toArray, .int .i64 a2] h (.tuple #[.agg (trC r.1).toArray, .int .i64 r.2]) := by
 unfold m_spec_ThenTriples at hm
 refine CC.enter Try.func10 rfl Try.ntmps10 rfl ?_
 refine wpA_seq ?_
 refine wpA_region ?_
 refine Ops_loud rfl (LO.boxAgg rfl rfl rfl (fun b1 hb1 => ?_))
 refine Ops_loud rfl (LO.boxAgg rfl rfl rfl (fun b2 hb2 => ?_))
 simp only [upd_noneA] at hb2
 obtain ⟨n_b2_b1, hb2⟩ := hb2
 refine Ops_loud rfl (LO.alloc rfl zr31 rfl (fun b3 hb3 => ?_))
 simp only [upd_noneA] at hb3
 obtain ⟨n_b3_b2, n_b3_b1, hb3⟩ := hb3
 refine Ops_quiet _ rfl rfl (QO.assign rfl rfl) ?_
 refine Ops_nil ?_
 refine thenA_n ?_
 refine wpA_seq ?_
 refine wpA_seq ?_
 refine wpA_region ?_
 refine Ops_quiet _ rfl rfl (QO.loadRow (cs := trC a0) (hr := (rdAll ((upd_ne _ _ n_b3_b1.ne.symm).trans ((upd_ne _ _ n_b2_b1.ne.symm).trans (upd_same _ _ _))))) rfl sz31 rfl rfl (trC_length _)) ?_
 refine Ops_quiet _ rfl rfl (QO.move rfl rfl) ?_
 have hq := Option.bind_eq_some_iff.1 hm; clear hm; obtain ⟨r1, hr1, hm⟩ := hq
 refine Ops_call _ _ rfl rfl (EO.fn rfl Try.func32 rfl rfl (Evs.cons rfl (Evs.cons rfl Evs.nil))) (QC.cc (c_spec_l02Is hr1 ) ?_)
 refine Ops_quiet _ rfl rfl (QO.not rfl rfl) ?_
 refine Ops_quiet _ rfl rfl (QO.move rfl rfl) ?_
 refine Ops_case 12 rfl (fun g1 => ?_) (fun g1 => ?_)
 ·replace hm := cond_t hm g1
  refine Ops_skip rfl rfl ?_
  refine Ops_skip rfl rfl ?_
  refine Ops_skip rfl rfl ?_
  refine Ops_skip rfl rfl ?_
  refine Ops_quiet _ rfl rfl (QO.pick_t rfl rfl rfl) ?_
  refine Ops_nil ?_
  refine thenA_n ?_
  refine wpA_cond_t rfl ?_
  refine wpA_seq ?_
  refine wpA_region ?_
  refine Ops_quiet _ rfl rfl (QO.build0 rfl bd31) ?_
  refine Ops_loud rfl (LO.storeAll (cs := trC tr0) rfl sz31 rfl rfl (trC_one _) (trC_length _) (upd_same _ _ _) (trC_length _) Chg.here rfl ?_)
  refine Ops_quiet _ rfl rfl (QO.assign rfl rfl) ?_
  refine Ops_nil ?_
  refine thenA_n ?_
  refine wpA_ret ?_
  refine thenA_r ?_
  obtain rfl := Option.some.inj hm
  exact retA_r (h2 := h) (Res.two rfl (res1.row (cs := trC tr0) (hr := (rdAll (upd_same _ _ _))) sz31 rfl rfl (trC_length _)) (rfl)) (Le.under (Le.under (Le.under (Le.refl _) hb1) hb2) hb3) ⟨rfl, rfl⟩
 ·replace hm := cond_f hm g1
  refine Ops_quiet _ rfl rfl (QO.loadRow (cs := trC a1) (hr := (rdAll ((upd_ne _ _ n_b3_b2.ne.symm).trans (upd_same _ _ _)))) rfl sz31 rfl rfl (trC_length _)) ?_
  refine Ops_quiet _ rfl rfl (QO.move rfl rfl) ?_
  have hq := Option.bind_eq_some_iff.1 hm; clear hm; obtain ⟨r2, hr2, hm⟩ := hq
  refine Ops_call _ _ rfl rfl (EO.fn rfl Try.func32 rfl rfl (Evs.cons rfl (Evs.cons rfl Evs.nil))) (QC.cc (c_spec_l02Is hr2 ) ?_)
  refine Ops_quiet _ rfl rfl (QO.not rfl rfl) ?_
  refine Ops_quiet _ rfl rfl (QO.pick_f rfl rfl rfl) ?_
  refine Ops_nil ?_
  refine thenA_n ?_
  refine wpA_cond rfl (fun g2 => ?_) (fun g2 => ?_)
  ·replace hm := cond_t hm g2
   refine wpA_seq ?_
   refine wpA_region ?_
   refine Ops_quiet _ rfl rfl (QO.build0 rfl bd31) ?_
   refine Ops_loud rfl (LO.storeAll (cs := trC tr0) rfl sz31 rfl rfl (trC_one _) (trC_length _) (upd_same _ _ _) (trC_length _) Chg.here rfl ?_)
   refine Ops_quiet _ rfl rfl (QO.assign rfl rfl) ?_
   refine Ops_nil ?_
   refine thenA_n ?_
   refine wpA_ret ?_
   refine thenA_r ?_
   obtain rfl := Option.some.inj hm
   exact retA_r (h2 := h) (Res.two rfl (res1.row (cs := trC tr0) (hr := (rdAll (upd_same _ _ _))) sz31 rfl rfl (trC_length _)) (rfl)) (Le.under (Le.under (Le.under (Le.refl _) hb1) hb2) hb3) ⟨rfl, rfl⟩
  ·replace hm := cond_f hm g2
   refine wpA_skip ?_
   refine thenA_n ?_
   refine wpA_seq ?_
   refine wpA_region ?_
   refine Ops_quiet _ rfl rfl (QO.loadRow (cs := trC a0) (hr := (rdAll ((upd_ne _ _ n_b3_b1.ne.symm).trans ((upd_ne _ _ n_b2_b1.ne.symm).trans (upd_same _ _ _))))) rfl sz31 rfl rfl (trC_length _)) ?_
   refine Ops_quiet _ rfl rfl (QO.loadRow (cs := trC a1) (hr := (rdAll ((upd_ne _ _ n_b3_b2.ne.symm).trans (upd_same _ _ _)))) rfl sz31 rfl rfl (trC_length _)) ?_
   refine Ops_quiet _ rfl rfl (QO.move rfl rfl) ?_
   have hq := Option.bind_eq_some_iff.1 hm; clear hm; obtain ⟨r3, hr3, hm⟩ := hq
   refine Ops_call _ _ rfl rfl (EO.fn rfl Try.func33 rfl rfl (Evs.cons rfl (Evs.cons rfl (Evs.cons rfl Evs.nil)))) (QC.cc (c_spec_l02Then hr3 ) ?_)
   refine Ops_loud rfl (LO.storeAll (cs := trC r3) rfl sz31 rfl rfl (trC_one _) (trC_length _) (upd_same _ _ _) (trC_length _) Chg.here rfl ?_)
   refine Ops_quiet _ rfl rfl (QO.assign rfl rfl) ?_
   refine Ops_nil ?_
   refine thenA_n ?_
   refine wpA_ret ?_
   obtain rfl := Option.some.inj hm
   exact retA_r (h2 := h) (Res.two rfl (res1.row (cs := trC r3) (hr := (rdAll (upd_same _ _ _))) sz31 rfl rfl (trC_length _)) (rfl)) (Le.under (Le.under (Le.under (Le.refl _) hb1) hb2) hb3) ⟨rfl, rfl⟩

/-! loop.example/g01195/spec.DrawIsTriple -/
theorem c_spec_DrawIsTriple {l0 : (List Int)} {A0 : Option Addr} {c0 : Nat} {h : Hp} {r : Tr × Int} (hm : m_spec_DrawIsTriple l0 = some r) (hs0 : RdS h A0 (ints .u8 l0)) :
    QC Try.prog 34 #[.slice A0 l0.length c0] h (.tuple #[.agg (trC r.1).toArray, .int .i64 r.2]) := by
 unfold m_spec_DrawIsTriple at hm
 refine CC.enter Try.func34 rfl Try.ntmps34 rfl ?_
 refine wpA_seq ?_
 refine wpA_region ?_
 refine Ops_loud rfl (LO.alloc rfl zr31 rfl (fun b1 hb1 => ?_))
 refine Ops_quiet _ rfl rfl (QO.assign rfl rfl) ?_
 refine Ops_nil ?_
 refine thenA_n ?_
 refine wpA_seq ?_
 refine wpA_region ?_
 refine Ops_quiet _ rfl rfl (QO.move rfl rfl) ?_
 have hq := Option.bind_eq_some_iff.1 hm; clear hm; obtain ⟨r1, hr1, hm⟩ := hq
 refine Ops_call _ _ rfl rfl (EO.fn rfl Try.func24 rfl rfl (Evs.cons rfl Evs.nil)) (CC.mono (c_spec_l01From (l0 := l0) (A0 := A0) (c0 := c0) hr1 (RdS.le hs0 (Le.under (Le.refl _) hb1))) ?_)
 rintro _ _ ⟨b2, hb2, rfl, rfl⟩
 simp only [upd_noneA] at hb2
 obtain ⟨n_b2_b1, hb2⟩ := hb2
 refine Ops_quiet _ rfl rfl (QO.assign rfl rfl) ?_
 refine Ops_nil ?_
 refine thenA_n ?_
 refine wpA_seq ?_
 refine wpA_region ?_
 refine Ops_quiet _ rfl rfl (QO.move rfl rfl) ?_
 have hq := Option.bind_eq_some_iff.1 hm; clear hm; obtain ⟨r2, hr2, hm⟩ := hq
 have hd1 : Del (upd (upd (h) b1 (.own 31 (trC tr0) 30)) b2 (.own 68 (srcC A0 l0.length c0 r1) 3)) b2 (.own 68 (srcC A0 l0.length c0 r1) 3) (upd (h) b1 (.own 31 (trC tr0) 30)) := (Del.here (none_upd n_b2_b1.ne hb2))
 refine Ops_call _ _ rfl rfl (EO.fn rfl Try.func30 rfl rfl (Evs.cons rfl Evs.nil)) (CC.mono (CC.atLe (c_spec_l02Order (h := upd (h) b1 (.own 31 (trC tr0) 30)) hr2 (RdS.le hs0 (Le.under (Le.refl _) hb1)) hd1.none) hd1.le) ?_)
 rintro _ _ ⟨rfl, rfl⟩
 refine Ops_quiet _ rfl rfl (QO.assign rfl rfl) ?_
 refine Ops_nil ?_
 refine thenA_n ?_
 refine wpA_seq ?_
 refine wpA_region ?_
 refine Ops_quiet _ rfl rfl (QO.move rfl rfl) ?_
 refine Ops_quiet _ rfl rfl (QO.move rfl rfl) ?_
 have hq := Option.bind_eq_some_iff.1 hm; clear hm; obtain ⟨r3, hr3, hm⟩ := hq
 have hd2 : Del (upd (upd (h) b1 (.own 31 (trC tr0) 30)) b2 (.own 68 (srcC A0 l0.length c0 r2.2) 3)) b2 (.own 68 (srcC A0 l0.length c0 r2.2) 3) (upd (h) b1 (.own 31 (trC tr0) 30)) := (Del.here (none_upd n_b2_b1.ne hb2))
 refine Ops_call _ _ rfl rfl (EO.fn rfl Try.func26 rfl rfl (Evs.cons rfl (Evs.cons rfl Evs.nil))) (CC.mono (CC.atLe (c_spec_l02Draw (h := upd (h) b1 (.own 31 (trC tr0) 30)) hr3 (RdS.le hs0 (Le.under (Le.refl _) hb1)) hd2.none) hd2.le) ?_)
 rintro _ _ ⟨rfl, rfl⟩
 refine Ops_quiet _ rfl rfl (QO.move rfl rfl) ?_
 refine Ops_quiet _ rfl rfl (QO.move rfl rfl) ?_
 have hq := Option.bind_eq_some_iff.1 hm; clear hm; obtain ⟨r4, hr4, hm⟩ := hq
 have hd3 : Del (upd (upd (h) b1 (.own 31 (trC tr0) 30)) b2 (.own 68 (srcC A0 l0.length c0 r3.2) 3)) b2 (.own 68 (srcC A0 l0.length c0 r3.2) 3) (upd (h) b1 (.own 31 (trC tr0) 30)) := (Del.here (none_upd n_b2_b1.ne hb2))
 refine Ops_call _ _ rfl rfl (EO.fn rfl Try.func40 rfl rfl (Evs.cons rfl (Evs.cons rfl Evs.nil))) (CC.mono (CC.atLe (c_spec_l01Next (h := upd (h) b1 (.own 31 (trC tr0) 30)) hr4 (RdS.le hs0 (Le.under (Le.refl _) hb1)) hd3.none) hd3.le) ?_)
 rintro _ _ ⟨rfl, rfl⟩
 refine Ops_quiet _ rfl rfl (QO.quo rfl rfl rfl (by decide)) ?_
 refine Ops_quiet _ rfl rfl (QO.bin rfl rfl rfl rfl) ?_
 refine Ops_loud rfl (LO.storeAll (cs := trC r3.1) rfl sz31 rfl rfl (trC_one _) (trC_length _) ((upd_ne _ _ n_b2_b1.ne.symm).trans (upd_same _ _ _)) (trC_length _) (Chg.there n_b2_b1.ne Chg.here) rfl ?_)
 refine Ops_quiet _ rfl rfl (QO.assign rfl rfl) ?_
 refine Ops_nil ?_
 refine thenA_n ?_
 refine wpA_ret ?_
 obtain rfl := Option.some.inj hm
 exact retA_r (h2 := h) (Res.two rfl (res1.row (cs := trC r3.1) (hr := (rdAll ((upd_ne _ _ n_b2_b1.ne.symm).trans (upd_same _ _ _)))) sz31 rfl rfl (trC_length _)) (rfl)) (Le.under (Le.under (Le.refl _) hb1) hb2) ⟨rfl, rfl⟩

/-! loop.example/g01195/spec.DrawBackTriple -/
theorem c_spec_DrawBackTriple {l0 : (List Int)} {A0 : Option Addr} {c0 : Nat} {h : Hp} {r : Tr × Int} (hm : m_spec_DrawBackTriple l0 = some r) (hs0 : RdS h A0 (ints .u8 l0)) :
    QC Try.prog 11 #[.slice A0 l0.length c0] h (.tuple #[.agg (trC r.1).toArray, .int .i64 r.2]) := by
 unfold m_spec_DrawBackTriple at hm
 refine CC.enter Try.func11 rfl Try.ntmps11 rfl ?_
 refine wpA_seq ?_
 refine wpA_region ?_
 refine Ops_loud rfl (LO.alloc rfl zr31 rfl (fun b1 hb1 => ?_))
 refine Ops_quiet _ rfl rfl (QO.assign rfl rfl) ?_
 refine Ops_nil ?_
 refine thenA_n ?_
 refine wpA_seq ?_
 refine wpA_region ?_
 refine Ops_quiet _ rfl rfl (QO.move rfl rfl) ?_
 have hq := Option.bind_eq_some_iff.1 hm; clear hm; obtain ⟨r1, hr1, hm⟩ := hq
 refine Ops_call _ _ rfl rfl (EO.fn rfl Try.func34 rfl rfl (Evs.cons rfl Evs.nil)) (QC.cc (c_spec_DrawIsTriple (l0 := l0) (A0 := A0) (c0 := c0) hr1 (RdS.le hs0 (Le.under (Le.refl _) hb1))) ?_)
 refine Ops_quiet _ rfl rfl (QO.move rfl rfl) ?_
 refine Ops_quiet _ rfl rfl (QO.extract rfl rfl rfl) ?_
 refine Ops_quiet _ rfl rfl (QO.extract rfl rfl rfl) ?_
 refine Ops_loud rfl (LO.alloc rfl zr31 rfl (fun b2 hb2 => ?_))
 simp only [upd_noneA] at hb2
 obtain ⟨n_b2_b1, hb2⟩ := hb2
 refine Ops_loud rfl (LO.storeAll (cs := trC r1.1) rfl sz31 rfl rfl (trC_one _) (trC_length _) (upd_same _ _ _) (trC_length _) Chg.here rfl ?_)
 refine Ops_quiet _ rfl rfl (QO.assign rfl rfl) ?_
 refine Ops_nil ?_
 refine thenA_n ?_
 refine wpA_seq ?_
 refine wpA_region ?_
 refine Ops_quiet _ rfl rfl (QO.loadRow (cs := trC r1.1) (hr := (rdAll (upd_same _ _ _))) rfl sz31 rfl rfl (trC_length _)) ?_
 refine Ops_quiet _ rfl rfl (QO.move rfl rfl) ?_
 refine Ops_loud rfl (LO.storeAll (cs := trC r1.1) rfl sz31 rfl rfl (trC_one _) (trC_length _) ((upd_ne _ _ n_b2_b1.ne.symm).trans (upd_same _ _ _)) (trC_length _) (Chg.there n_b2_b1.ne Chg.here) rfl ?_)
 refine Ops_quiet _ rfl rfl (QO.assign rfl rfl) ?_
 refine Ops_nil ?_
 refine thenA_n ?_
 refine wpA_ret ?_
 obtain rfl := Option.some.inj hm
 exact retA_r (h2 := h) (Res.two rfl (res1.row (cs := trC r1.1) (hr := (rdAll ((upd_ne _ _ n_b2_b1.ne.symm).trans (upd_same _ _ _)))) sz31 rfl rfl (trC_length _)) (rfl)) (Le.under (Le.under (Le.refl _) hb1) hb2) ⟨rfl, rfl⟩

/-! loop.example/g01195/impl.back -/
theorem c_impl_back {a0 : (Nat → Int)} {a1 : Int} {h : Hp} {r : (Nat → Int)} (hm : m_impl_back a0 a1 = some r)  :
    QC Try.prog 55 #[.agg (tabI .u8 a0 10).toArray, .int .i64 a1] h (.agg (tabI .u8 r 10).toArray) := by
 unfold m_impl_back at hm
 refine CC.enter Try.func55 rfl Try.ntmps55 rfl ?_
 refine wpA_seq ?_
 refine wpA_region ?_
 refine Ops_loud rfl (LO.boxAgg rfl rfl rfl (fun b1 hb1 => ?_))
 refine Ops_loud rfl (LO.alloc rfl zr29 rfl (fun b2 hb2 => ?_))
 simp only [upd_noneA] at hb2
 obtain ⟨n_b2_b1, hb2⟩ := hb2
 refine Ops_nil ?_
 refine thenA_n ?_
 refine wpA_seq ?_
 refine wpA_region ?_
 refine Ops_quiet _ rfl rfl (QO.build0 rfl bd29) ?_
 refine Ops_loud rfl (LO.alloc rfl zr29 rfl (fun b3 hb3 => ?_))
 simp only [upd_noneA] at hb3
 obtain ⟨n_b3_b2, n_b3_b1, hb3⟩ := hb3
 refine Ops_loud rfl (LO.storeAll (cs := tabI .u8 pl0 10) rfl sz29 rfl rfl (tabI_one _ _ _) (tabI_length _ _ _) (upd_same _ _ _) (tabI_length _ _ _) Chg.here rfl ?_)
 refine Ops_nil ?_
 refine thenA_n ?_
 refine wpA_seq ?_
 refine wpA_seq ?_
 refine wpA_region ?_
 refine Ops_quiet _ rfl rfl (QO.move rfl rfl) ?_
 refine Ops_quiet _ rfl rfl (QO.move rfl rfl) ?_
 refine Ops_nil ?_
 refine thenA_n ?_
 refine wpA_block ?_
 obtain ⟨R1, hR, hm⟩ := Option.bind_eq_some_iff.1 hm
 obtain ⟨k1, hk1⟩ := loopV_some hR
 clear hR
 refine wpA_mono (Q := fun e s' h' => match (generalizing := false) R1 with | .stop x id => e = .exit id ∧ ∃ (x1 : Int) (x2 : (Nat → Int)), (x1, x2) = x ∧ Sub s' [(2, .pointer (some ⟨b1, 0, none⟩)), (4, .pointer (some ⟨b2, 0, none⟩)), (5, .pointer (some ⟨b3, 0, none⟩)), (8, .int .i64 a1), (9, .int .i64 x1)] ∧ Le (upd (upd (upd (h) b1 (.own 29 (tabI .u8 a0 10) 10)) b2 (.own 29 (tabI .u8 pl0 10) 10)) b3 (.own 29 (tabI .u8 x2 10) 10)) h' | .ret r => False | .next _ => False) ?_ ?_
 ·refine wpA_loop (fun k s' h' => ∃ (x1 : Int) (x2 : (Nat → Int)), loopW (m_impl_back_l0 a0 a1) k (x1, x2) = some R1 ∧ Sub s' [(2, .pointer (some ⟨b1, 0, none⟩)), (4, .pointer (some ⟨b2, 0, none⟩)), (5, .pointer (some ⟨b3, 0, none⟩)), (8, .int .i64 a1), (9, .int .i64 x1)] ∧ Le (upd (upd (upd (h) b1 (.own 29 (tabI .u8 a0 10) 10)) b2 (.own 29 (tabI .u8 pl0 10) 10)) b3 (.own 29 (tabI .u8 x2 10) 10)) h') (m := k1) ⟨0, pl0, hk1, (Sub.cons rfl (Sub.cons rfl (Sub.cons rfl (Sub.cons rfl (Sub.cons rfl Sub.nil))))), (Le.upd_left (Le.upd_left (Le.upd_left (Le.under (Le.under (Le.under (Le.refl _) hb1) hb2) hb3) ((upd_ne _ _ n_b3_b1.ne.symm).trans ((upd_ne _ _ n_b2_b1.ne.symm).trans (upd_same _ _ _))) (by first | rfl | (simp; done))) ((upd_ne _ _ n_b3_b2.ne.symm).trans (upd_same _ _ _)) (by first | rfl | (simp; done))) (upd_same _ _ _) (by first | rfl | (simp; done)))⟩ ?_
  rintro k1 s' h' ⟨x1, x2, hk1, hsub, hle⟩
  refine wpA_weaken hsub.ok hle ?_
  clear hsub hle s' h'
  cases k1 with
  | zero => exact absurd hk1 (by simp [loopW])
  | succ k1 =>
   obtain ⟨o1, ho1, hk1⟩ := loopW_succ hk1
   unfold m_impl_back_l0 at ho1
   try dsimp only at ho1
   refine wpA_seq ?_
   refine wpA_region ?_
   refine Ops_quiet _ rfl rfl (QO.bin rfl rfl rfl rfl) ?_
   refine Ops_nil ?_
   refine thenA_n ?_
   refine wpA_seq ?_
   refine wpA_cond rfl (fun g1 => ?_) (fun g1 => ?_)
   ·replace ho1 := cond_t ho1 g1
    refine wpA_skip ?_
    refine thenA_n ?_
    refine wpA_seq ?_
    refine wpA_block ?_
    refine wpA_seq ?_
    refine wpA_region ?_
    refine Ops_quiet _ rfl rfl (QO.move rfl rfl) ?_
    refine Ops_quiet _ rfl rfl (QO.assign rfl rfl) ?_
    refine Ops_nil ?_
    refine thenA_n ?_
    refine wpA_region ?_
    refine Ops_quiet _ rfl rfl (QO.move rfl rfl) ?_
    have hq := chk ho1; clear ho1; obtain ⟨ck1, ho1⟩ := hq
    refine Ops_quiet _ rfl rfl (QO.idxArr rfl sz29 sz5 rfl rfl (by omega) (by omega)) ?_
    refine Ops_quiet _ rfl rfl (QO.load rfl sz5 rfl rfl (by (refine (rd_own ((upd_ne _ _ n_b3_b1.ne.symm).trans ((upd_ne _ _ n_b2_b1.ne.symm).trans (upd_same _ _ _))) _).trans ?_); exact tabI_get01 (by omega))) ?_
    refine Ops_quiet _ rfl rfl (QO.move rfl rfl) ?_
    refine Ops_quiet _ rfl rfl (QO.conv rfl sz2 sz5 rfl) ?_
    have hq := chk ho1; clear ho1; obtain ⟨ck2, ho1⟩ := hq
    refine Ops_quiet _ rfl rfl (QO.idxArr rfl sz29 sz5 rfl rfl (by omega) (by omega)) ?_
    refine Ops_loud rfl (LO.store' (xs' := tabI .u8 (fset x2 ((a0 (x1).toNat)).toNat (IntKind.u8.wrap x1)) 10) rfl sz5 rfl rfl rfl (upd_same _ _ _) (by first | ((try simp only [mpC_length, sqC_length, tbC_length, tabI_length, tabB_length, ints_length, plsC_length, trC_length, sqsC_length, strsC_length, boolsC_length, tbB_length, List.length_append, List.length_cons, List.length_nil, List.length_set, List.length_replicate, rep_length]); first | omega | decide) | exact Nat.le_of_ble_eq_true rfl) tabI_set01 Chg.here rfl ?_)
    refine Ops_nil ?_
    refine blockA_n ?_
    refine thenA_n ?_
    refine wpA_region ?_
    refine Ops_quiet _ rfl rfl (QO.bin rfl rfl rfl rfl) ?_
    refine Ops_quiet _ rfl rfl (QO.move rfl rfl) ?_
    refine Ops_nil ?_
    obtain rfl := Option.some.inj ho1
    dsimp only at hk1
    exact thenA_n ⟨k1, Nat.lt_succ_self _, _, _, hk1, (Sub.cons rfl (Sub.cons rfl (Sub.cons rfl (Sub.cons rfl (Sub.cons rfl Sub.nil))))), (Le.upd_left (Le.upd_left (Le.upd_left (Le.under (Le.under (Le.under (Le.refl _) hb1) hb2) hb3) ((upd_ne _ _ n_b3_b1.ne.symm).trans ((upd_ne _ _ n_b2_b1.ne.symm).trans (upd_same _ _ _))) (by first | rfl | (simp; done))) ((upd_ne _ _ n_b3_b2.ne.symm).trans (upd_same _ _ _)) (by first | rfl | (simp; done))) (upd_same _ _ _) (by first | rfl | (simp; done)))⟩
   ·replace ho1 := cond_f ho1 g1
    refine wpA_exit ?_
    refine thenA_e ?_
    refine thenA_e ?_
    obtain rfl := Option.some.inj ho1
    obtain rfl := Option.some.inj hk1
    exact ⟨rfl, _, _, rfl, (Sub.cons rfl (Sub.cons rfl (Sub.cons rfl (Sub.cons rfl (Sub.cons rfl Sub.nil))))), (Le.upd_left (Le.upd_left (Le.upd_left (Le.under (Le.under (Le.under (Le.refl _) hb1) hb2) hb3) ((upd_ne _ _ n_b3_b1.ne.symm).trans ((upd_ne _ _ n_b2_b1.ne.symm).trans (upd_same _ _ _))) (by first | rfl | (simp; done))) ((upd_ne _ _ n_b3_b2.ne.symm).trans (upd_same _ _ _)) (by first | rfl | (simp; done))) (upd_same _ _ _) (by first | rfl | (simp; done)))⟩
 ·intro e s' h' hq
  cases R1 with
  | next x => exact hq.elim
  | ret r => exact hq.elim
  | stop x id =>
   obtain ⟨rfl, x3, x4, rfl, hsub1, hle1⟩ := hq
   try dsimp only at hm
   by_cases hid1 : id = 0
   ·subst hid1
    rw [if_pos rfl] at hm
    refine blockA_s ?_
    refine thenA_n ?_
    refine wpA_weaken hsub1.ok hle1 ?_
    refine wpA_seq ?_
    refine wpA_region ?_
    refine Ops_quiet _ rfl rfl (QO.loadRow (cs := tabI .u8 x4 10) (hr := (rdAll (upd_same _ _ _))) rfl sz29 rfl rfl (tabI_length _ _ _)) ?_
    refine Ops_loud rfl (LO.storeAll (cs := tabI .u8 x4 10) rfl sz29 rfl rfl (tabI_one _ _ _) (tabI_length _ _ _) ((upd_ne _ _ n_b3_b2.ne.symm).trans (upd_same _ _ _)) (tabI_length _ _ _) (Chg.there n_b3_b2.ne Chg.here) rfl ?_)
    refine Ops_nil ?_
    refine thenA_n ?_
    refine wpA_ret ?_
    obtain rfl := Option.some.inj hm
    exact retA_r (h2 := h) (Res.one rfl (res1.row (cs := tabI .u8 x4 10) (hr := (rdAll ((upd_ne _ _ n_b3_b2.ne.symm).trans (upd_same _ _ _)))) sz29 rfl rfl (tabI_length _ _ _))) (Le.under (Le.under (Le.under (Le.refl _) hb1) hb2) hb3) ⟨rfl, rfl⟩
   rw [if_neg hid1] at hm
   exact absurd hm (by simp)

/-! loop.example/g01195/impl.backTriple -/
theorem c_impl_backTriple {a0 : Tr} {a1 : Int} {h : Hp} {r : Tr} (hm : m_impl_backTriple a0 a1 = some r)  :
    QC Try.prog 35 #[.agg (trC a0).toArray, .int .i64 a1] h (.agg (trC r).toArray) := by
 unfold m_impl_backTriple at hm
 refine CC.enter Try.func35 rfl Try.ntmps35 rfl ?_
 refine wpA_seq ?_
 refine wpA_region ?_
 refine Ops_loud rfl (LO.boxAgg rfl rfl rfl (fun b1 hb1 => ?_))
 refine Ops_loud rfl (LO.alloc rfl zr31 rfl (fun b2 hb2 => ?_))
 simp only [upd_noneA] at hb2
 obtain ⟨n_b2_b1, hb2⟩ := hb2
 refine Ops_nil ?_
 refine thenA_n ?_
 refine wpA_seq ?_
 refine wpA_any (upd (upd (h) b1 (.own 31 (trC a0) 30)) b2 (.own 31 (trC tr0) 30)) [13] [13] (by kernel_rfl) (by kernel_rfl) (DW.start ?_)
 refine DW.pure' 0 _ rfl (by kernel_rfl) rfl (fun _ => QO.fieldAt (fo := 0) rfl sz31 rfl rfl sz29 rfl rfl) ?_
 refine DW.read' 1 _ rfl (by kernel_rfl) rfl (QO.loadRow (cs := tabI .u8 a0.a 10) (hr := (rdTrA ((upd_ne _ _ n_b2_b1.ne.symm).trans (upd_same _ _ _)))) rfl sz29 rfl rfl (tabI_length _ _ _)) ?_
 refine DW.pure' 2 _ rfl (by kernel_rfl) rfl (fun _ => QO.move rfl rfl) ?_
 have hq := Option.bind_eq_some_iff.1 hm; clear hm; obtain ⟨r1, hr1, hm⟩ := hq
 refine DW.qcall' 3 _ _ _ rfl (by kernel_rfl) rfl (EO.fn rfl Try.func55 rfl rfl (Evs.cons rfl (Evs.cons rfl Evs.nil))) (c_impl_back hr1 ) ?_
 refine DW.pure' 4 _ rfl (by kernel_rfl) rfl (fun _ => QO.fieldAt (fo := 10) rfl sz31 rfl rfl sz29 rfl rfl) ?_
 refine DW.read' 5 _ rfl (by kernel_rfl) rfl (QO.loadRow (cs := tabI .u8 a0.b 10) (hr := (rdTrB ((upd_ne _ _ n_b2_b1.ne.symm).trans (upd_same _ _ _)))) rfl sz29 rfl rfl (tabI_length _ _ _)) ?_
 refine DW.pure' 6 _ rfl (by kernel_rfl) rfl (fun _ => QO.move rfl rfl) ?_
 have hq := Option.bind_eq_some_iff.1 hm; clear hm; obtain ⟨r2, hr2, hm⟩ := hq
 refine DW.qcall' 7 _ _ _ rfl (by kernel_rfl) rfl (EO.fn rfl Try.func55 rfl rfl (Evs.cons rfl (Evs.cons rfl Evs.nil))) (c_impl_back hr2 ) ?_
 refine DW.pure' 8 _ rfl (by kernel_rfl) rfl (fun _ => QO.fieldAt (fo := 20) rfl sz31 rfl rfl sz29 rfl rfl) ?_
 refine DW.read' 9 _ rfl (by kernel_rfl) rfl (QO.loadRow (cs := tabI .u8 a0.c 10) (hr := (rdTrC ((upd_ne _ _ n_b2_b1.ne.symm).trans (upd_same _ _ _)))) rfl sz29 rfl rfl (tabI_length _ _ _)) ?_
 refine DW.pure' 10 _ rfl (by kernel_rfl) rfl (fun _ => QO.move rfl rfl) ?_
 have hq := Option.bind_eq_some_iff.1 hm; clear hm; obtain ⟨r3, hr3, hm⟩ := hq
 refine DW.qcall' 11 _ _ _ rfl (by kernel_rfl) rfl (EO.fn rfl Try.func55 rfl rfl (Evs.cons rfl (Evs.cons rfl Evs.nil))) (c_impl_back hr3 ) ?_
 refine DW.pure' 12 _ rfl (by kernel_rfl) rfl (fun _ => QO.build3 rfl rfl rfl rfl (bd31_0_1_2 r1 r2 r3)) ?_
 refine DW.loud 13 rfl (by kernel_rfl) rfl rfl (LO.storeAll (cs := trC (⟨r1, r2, r3⟩ : Tr)) rfl sz31 rfl rfl (trC_one _) (trC_length _) (upd_same _ _ _) (trC_length _) Chg.here rfl ?_)
 refine ⟨(fun e => absurd e (by decide)), ?_⟩
 refine DW.done (by kernel_rfl) ?_ _
 refine thenA_n ?_
 refine wpA_ret ?_
 obtain rfl := Option.some.inj hm
 exact retA_r (h2 := h) (Res.one rfl (res1.row (cs := trC (⟨r1, r2, r3⟩ : Tr)) (hr := (rdAll (upd_same _ _ _))) sz31 rfl rfl (trC_length _))) (Le.under (Le.under (Le.refl _) hb1) hb2) ⟨rfl, rfl⟩

/-! loop.example/g01195/impl.BackTriple -/
theorem c_impl_BackTriple {a0 : Tr} {a1 : Int} {h : Hp} {r : Tr × Int} (hm : m_impl_BackTriple a0 a1 = some r)  :
    QC Try.prog 12 #[.agg (trC a0).toArray, .int .i64 a1] h (.tuple #[.agg (trC r.1).toArray, .int .i64 r.2]) := by
 unfold m_impl_BackTriple at hm
 refine CC.enter Try.func12 rfl Try.ntmps12 rfl ?_
 refine wpA_seq ?_
 refine wpA_region ?_
 refine Ops_loud rfl (LO.boxAgg rfl rfl rfl (fun b1 hb1 => ?_))
 refine Ops_loud rfl (LO.alloc rfl zr31 rfl (fun b2 hb2 => ?_))
 simp only [upd_noneA] at hb2
 obtain ⟨n_b2_b1, hb2⟩ := hb2
 refine Ops_quiet _ rfl rfl (QO.assign rfl rfl) ?_
 refine Ops_nil ?_
 refine thenA_n ?_
 refine wpA_seq ?_
 refine wpA_seq ?_
 refine wpA_region ?_
 refine Ops_quiet _ rfl rfl (QO.loadRow (cs := trC a0) (hr := (rdAll ((upd_ne _ _ n_b2_b1.ne.symm).trans (upd_same _ _ _)))) rfl sz31 rfl rfl (trC_length _)) ?_
 refine Ops_quiet _ rfl rfl (QO.move rfl rfl) ?_
 have hq := Option.bind_eq_some_iff.1 hm; clear hm; obtain ⟨r1, hr1, hm⟩ := hq
 refine Ops_call _ _ rfl rfl (EO.fn rfl Try.func14 rfl rfl (Evs.cons rfl (Evs.cons rfl Evs.nil))) (QC.cc (c_impl_IsTriple hr1 ) ?_)
 refine Ops_quiet _ rfl rfl (QO.not rfl rfl) ?_
 refine Ops_nil ?_
 refine thenA_n ?_
 refine wpA_cond rfl (fun g1 => ?_) (fun g1 => ?_)
 ·replace hm := cond_t hm g1
  refine wpA_seq ?_
  refine wpA_region ?_
  refine Ops_quiet _ rfl rfl (QO.build0 rfl bd31) ?_
  refine Ops_loud rfl (LO.storeAll (cs := trC tr0) rfl sz31 rfl rfl (trC_one _) (trC_length _) (upd_same _ _ _) (trC_length _) Chg.here rfl ?_)
  refine Ops_quiet _ rfl rfl (QO.assign rfl rfl) ?_
  refine Ops_nil ?_
  refine thenA_n ?_
  refine wpA_ret ?_
  refine thenA_r ?_
  obtain rfl := Option.some.inj hm
  exact retA_r (h2 := h) (Res.two rfl (res1.row (cs := trC tr0) (hr := (rdAll (upd_same _ _ _))) sz31 rfl rfl (trC_length _)) (rfl)) (Le.under (Le.under (Le.refl _) hb1) hb2) ⟨rfl, rfl⟩
 ·replace hm := cond_f hm g1
  refine wpA_skip ?_
  refine thenA_n ?_
  refine wpA_seq ?_
  refine wpA_region ?_
  refine Ops_quiet _ rfl rfl (QO.loadRow (cs := trC a0) (hr := (rdAll ((upd_ne _ _ n_b2_b1.ne.symm).trans (upd_same _ _ _)))) rfl sz31 rfl rfl (trC_length _)) ?_
  refine Ops_quiet _ rfl rfl (QO.move rfl rfl) ?_
  have hq := Option.bind_eq_some_iff.1 hm; clear hm; obtain ⟨r2, hr2, hm⟩ := hq
  refine Ops_call _ _ rfl rfl (EO.fn rfl Try.func35 rfl rfl (Evs.cons rfl (Evs.cons rfl Evs.nil))) (QC.cc (c_impl_backTriple hr2 ) ?_)
  refine Ops_loud rfl (LO.storeAll (cs := trC r2) rfl sz31 rfl rfl (trC_one _) (trC_length _) (upd_same _ _ _) (trC_length _) Chg.here rfl ?_)
  refine Ops_quiet _ rfl rfl (QO.assign rfl rfl) ?_
  refine Ops_nil ?_
  refine thenA_n ?_
  refine wpA_ret ?_
  obtain rfl := Option.some.inj hm
  exact retA_r (h2 := h) (Res.two rfl (res1.row (cs := trC r2) (hr := (rdAll (upd_same _ _ _))) sz31 rfl rfl (trC_length _)) (rfl)) (Le.under (Le.under (Le.refl _) hb1) hb2) ⟨rfl, rfl⟩

/-! loop.example/g01195/spec.l01Back -/
theorem c_spec_l01Back {a0 : (Nat → Int)} {a1 : Int} {h : Hp} {r : (Nat → Int)} (hm : m_spec_l01Back a0 a1 = some r)  :
    QC Try.prog 56 #[.agg (tabI .u8 a0 10).toArray, .int .i64 a1] h (.agg (tabI .u8 r 10).toArray) := by
 unfold m_spec_l01Back at hm
 refine CC.enter Try.func56 rfl Try.ntmps56 rfl ?_
 refine wpA_seq ?_
 refine wpA_region ?_
 refine Ops_loud rfl (LO.boxAgg rfl rfl rfl (fun b1 hb1 => ?_))
 refine Ops_loud rfl (LO.alloc rfl zr29 rfl (fun b2 hb2 => ?_))
 simp only [upd_noneA] at hb2
 obtain ⟨n_b2_b1, hb2⟩ := hb2
 refine Ops_nil ?_
 refine thenA_n ?_
 refine wpA_seq ?_
 refine wpA_region ?_
 refine Ops_quiet _ rfl rfl (QO.build0 rfl bd29) ?_
 refine Ops_loud rfl (LO.alloc rfl zr29 rfl (fun b3 hb3 => ?_))
 simp only [upd_noneA] at hb3
 obtain ⟨n_b3_b2, n_b3_b1, hb3⟩ := hb3
 refine Ops_loud rfl (LO.storeAll (cs := tabI .u8 pl0 10) rfl sz29 rfl rfl (tabI_one _ _ _) (tabI_length _ _ _) (upd_same _ _ _) (tabI_length _ _ _) Chg.here rfl ?_)
 refine Ops_nil ?_
 refine thenA_n ?_
 refine wpA_seq ?_
 refine wpA_seq ?_
 refine wpA_region ?_
 refine Ops_quiet _ rfl rfl (QO.assign rfl rfl) ?_
 refine Ops_nil ?_
 refine thenA_n ?_
 refine wpA_block ?_
 obtain ⟨R1, hR, hm⟩ := Option.bind_eq_some_iff.1 hm
 obtain ⟨k1, hk1⟩ := loopV_some hR
 clear hR
 refine wpA_mono (Q := fun e s' h' => match (generalizing := false) R1 with | .stop x id => e = .exit id ∧ ∃ (x1 : Int) (x2 : (Nat → Int)), (x1, x2) = x ∧ Sub s' [(1, .int .i64 a1), (2, .pointer (some ⟨b1, 0, none⟩)), (4, .pointer (some ⟨b2, 0, none⟩)), (5, .pointer (some ⟨b3, 0, none⟩)), (6, .int .i64 x1)] ∧ Le (upd (upd (upd (h) b1 (.own 29 (tabI .u8 a0 10) 10)) b2 (.own 29 (tabI .u8 pl0 10) 10)) b3 (.own 29 (tabI .u8 x2 10) 10)) h' | .ret r => False | .next _ => False) ?_ ?_
 ·refine wpA_loop (fun k s' h' => ∃ (x1 : Int) (x2 : (Nat → Int)), loopW (m_spec_l01Back_l0 a0 a1) k (x1, x2) = some R1 ∧ Sub s' [(1, .int .i64 a1), (2, .pointer (some ⟨b1, 0, none⟩)), (4, .pointer (some ⟨b2, 0, none⟩)), (5, .pointer (some ⟨b3, 0, none⟩)), (6, .int .i64 x1)] ∧ Le (upd (upd (upd (h) b1 (.own 29 (tabI .u8 a0 10) 10)) b2 (.own 29 (tabI .u8 pl0 10) 10)) b3 (.own 29 (tabI .u8 x2 10) 10)) h') (m := k1) ⟨0, pl0, hk1, (Sub.cons rfl (Sub.cons rfl (Sub.cons rfl (Sub.cons rfl (Sub.cons rfl Sub.nil))))), (Le.upd_left (Le.upd_left (Le.upd_left (Le.under (Le.under (Le.under (Le.refl _) hb1) hb2) hb3) ((upd_ne _ _ n_b3_b1.ne.symm).trans ((upd_ne _ _ n_b2_b1.ne.symm).trans (upd_same _ _ _))) (by first | rfl | (simp; done))) ((upd_ne _ _ n_b3_b2.ne.symm).trans (upd_same _ _ _)) (by first | rfl | (simp; done))) (upd_same _ _ _) (by first | rfl | (simp; done)))⟩ ?_
  rintro k1 s' h' ⟨x1, x2, hk1, hsub, hle⟩
  refine wpA_weaken hsub.ok hle ?_
  clear hsub hle s' h'
  cases k1 with
  | zero => exact absurd hk1 (by simp [loopW])
  | succ k1 =>
   obtain ⟨o1, ho1, hk1⟩ := loopW_succ hk1
   unfold m_spec_l01Back_l0 at ho1
   try dsimp only at ho1
   refine wpA_seq ?_
   refine wpA_seq ?_
   refine wpA_region ?_
   refine Ops_quiet _ rfl rfl (QO.move rfl rfl) ?_
   refine Ops_quiet _ rfl rfl (QO.move rfl rfl) ?_
   refine Ops_quiet _ rfl rfl (QO.bin rfl rfl rfl rfl) ?_
   refine Ops_nil ?_
   refine thenA_n ?_
   refine wpA_cond rfl (fun g1 => ?_) (fun g1 => ?_)
   ·replace ho1 := cond_t ho1 g1
    refine wpA_skip ?_
    refine thenA_n ?_
    refine wpA_seq ?_
    refine wpA_block ?_
    refine wpA_region ?_
    refine Ops_quiet _ rfl rfl (QO.move rfl rfl) ?_
    have hq := chk ho1; clear ho1; obtain ⟨ck1, ho1⟩ := hq
    refine Ops_quiet _ rfl rfl (QO.idxArr rfl sz29 sz5 rfl rfl (by omega) (by omega)) ?_
    refine Ops_quiet _ rfl rfl (QO.load rfl sz5 rfl rfl (by (refine (rd_own ((upd_ne _ _ n_b3_b1.ne.symm).trans ((upd_ne _ _ n_b2_b1.ne.symm).trans (upd_same _ _ _))) _).trans ?_); exact tabI_get01 (by omega))) ?_
    refine Ops_quiet _ rfl rfl (QO.move rfl rfl) ?_
    refine Ops_quiet _ rfl rfl (QO.conv rfl sz2 sz5 rfl) ?_
    have hq := chk ho1; clear ho1; obtain ⟨ck2, ho1⟩ := hq
    refine Ops_quiet _ rfl rfl (QO.idxArr rfl sz29 sz5 rfl rfl (by omega) (by omega)) ?_
    refine Ops_loud rfl (LO.store' (xs' := tabI .u8 (fset x2 ((a0 (x1).toNat)).toNat (IntKind.u8.wrap x1)) 10) rfl sz5 rfl rfl rfl (upd_same _ _ _) (by first | ((try simp only [mpC_length, sqC_length, tbC_length, tabI_length, tabB_length, ints_length, plsC_length, trC_length, sqsC_length, strsC_length, boolsC_length, tbB_length, List.length_append, List.length_cons, List.length_nil, List.length_set, List.length_replicate, rep_length]); first | omega | decide) | exact Nat.le_of_ble_eq_true rfl) tabI_set01 Chg.here rfl ?_)
    refine Ops_nil ?_
    refine blockA_n ?_
    refine thenA_n ?_
    refine wpA_region ?_
    refine Ops_quiet _ rfl rfl (QO.move rfl rfl) ?_
    refine Ops_quiet _ rfl rfl (QO.bin rfl rfl rfl rfl) ?_
    refine Ops_quiet _ rfl rfl (QO.assign rfl rfl) ?_
    refine Ops_nil ?_
    obtain rfl := Option.some.inj ho1
    dsimp only at hk1
    exact thenA_n ⟨k1, Nat.lt_succ_self _, _, _, hk1, (Sub.cons rfl (Sub.cons rfl (Sub.cons rfl (Sub.cons rfl (Sub.cons rfl Sub.nil))))), (Le.upd_left (Le.upd_left (Le.upd_left (Le.under (Le.under (Le.under (Le.refl _) hb1) hb2) hb3) ((upd_ne _ _ n_b3_b1.ne.symm).trans ((upd_ne _ _ n_b2_b1.ne.symm).trans (upd_same _ _ _))) (by first | rfl | (simp; done))) ((upd_ne _ _ n_b3_b2.ne.symm).trans (upd_same _ _ _)) (by first | rfl | (simp; done))) (upd_same _ _ _) (by first | rfl | (simp; done)))⟩
   ·replace ho1 := cond_f ho1 g1
    refine wpA_exit ?_
    refine thenA_e ?_
    refine thenA_e ?_
    obtain rfl := Option.some.inj ho1
    obtain rfl := Option.some.inj hk1
    exact ⟨rfl, _, _, rfl, (Sub.cons rfl (Sub.cons rfl (Sub.cons rfl (Sub.cons rfl (Sub.cons rfl Sub.nil))))), (Le.upd_left (Le.upd_left (Le.upd_left (Le.under (Le.under (Le.under (Le.refl _) hb1) hb2) hb3) ((upd_ne _ _ n_b3_b1.ne.symm).trans ((upd_ne _ _ n_b2_b1.ne.symm).trans (upd_same _ _ _))) (by first | rfl | (simp; done))) ((upd_ne _ _ n_b3_b2.ne.symm).trans (upd_same _ _ _)) (by first | rfl | (simp; done))) (upd_same _ _ _) (by first | rfl | (simp; done)))⟩
 ·intro e s' h' hq
  cases R1 with
  | next x => exact hq.elim
  | ret r => exact hq.elim
  | stop x id =>
   obtain ⟨rfl, x3, x4, rfl, hsub1, hle1⟩ := hq
   try dsimp only at hm
   by_cases hid1 : id = 0
   ·subst hid1
    rw [if_pos rfl] at hm
    refine blockA_s ?_
    refine thenA_n ?_
    refine wpA_weaken hsub1.ok hle1 ?_
    refine wpA_seq ?_
    refine wpA_region ?_
    refine Ops_quiet _ rfl rfl (QO.loadRow (cs := tabI .u8 x4 10) (hr := (rdAll (upd_same _ _ _))) rfl sz29 rfl rfl (tabI_length _ _ _)) ?_
    refine Ops_loud rfl (LO.storeAll (cs := tabI .u8 x4 10) rfl sz29 rfl rfl (tabI_one _ _ _) (tabI_length _ _ _) ((upd_ne _ _ n_b3_b2.ne.symm).trans (upd_same _ _ _)) (tabI_length _ _ _) (Chg.there n_b3_b2.ne Chg.here) rfl ?_)
    refine Ops_nil ?_
    refine thenA_n ?_
    refine wpA_ret ?_
    obtain rfl := Option.some.inj hm
    exact retA_r (h2 := h) (Res.one rfl (res1.row (cs := tabI .u8 x4 10) (hr := (rdAll ((upd_ne _ _ n_b3_b2.ne.symm).trans (upd_same _ _ _)))) sz29 rfl rfl (tabI_length _ _ _))) (Le.under (Le.under (Le.under (Le.refl _) hb1) hb2) hb3) ⟨rfl, rfl⟩
   rw [if_neg hid1] at hm
   exact absurd hm (by simp)

/-! loop.example/g01195/spec.l02Back -/
theorem c_spec_l02Back {a0 : Tr} {a1 : Int} {h : Hp} {r : Tr} (hm : m_spec_l02Back a0 a1 = some r)  :
    QC Try.prog 36 #[.agg (trC a0).toArray, .int .i64 a1] h (.agg (trC r).toArray) := by
 unfold m_spec_l02Back at hm
 refine CC.enter Try.func36 rfl Try.ntmps36 rfl ?_
 refine wpA_seq ?_
 refine wpA_region ?_
 refine Ops_loud rfl (LO.boxAgg rfl rfl rfl (fun b1 hb1 => ?_))
 refine Ops_loud rfl (LO.alloc rfl zr31 rfl (fun b2 hb2 => ?_))
 simp only [upd_noneA] at hb2
 obtain ⟨n_b2_b1, hb2⟩ := hb2
 refine Ops_nil ?_
 refine thenA_n ?_
 refine wpA_seq ?_
 refine wpA_any (upd (upd (h) b1 (.own 31 (trC a0) 30)) b2 (.own 31 (trC tr0) 30)) [13] [13] (by kernel_rfl) (by kernel_rfl) (DW.start ?_)
 refine DW.pure' 0 _ rfl (by kernel_rfl) rfl (fun _ => QO.fieldAt (fo := 0) rfl sz31 rfl rfl sz29 rfl rfl) ?_
 refine DW.read' 1 _ rfl (by kernel_rfl) rfl (QO.loadRow (cs := tabI .u8 a0.a 10) (hr := (rdTrA ((upd_ne _ _ n_b2_b1.ne.symm).trans (upd_same _ _ _)))) rfl sz29 rfl rfl (tabI_length _ _ _)) ?_
 refine DW.pure' 2 _ rfl (by kernel_rfl) rfl (fun _ => QO.move rfl rfl) ?_
 have hq := Option.bind_eq_some_iff.1 hm; clear hm; obtain ⟨r1, hr1, hm⟩ := hq
 refine DW.qcall' 3 _ _ _ rfl (by kernel_rfl) rfl (EO.fn rfl Try.func56 rfl rfl (Evs.cons rfl (Evs.cons rfl Evs.nil))) (c_spec_l01Back hr1 ) ?_
 refine DW.pure' 4 _ rfl (by kernel_rfl) rfl (fun _ => QO.fieldAt (fo := 10) rfl sz31 rfl rfl sz29 rfl rfl) ?_
 refine DW.read' 5 _ rfl (by kernel_rfl) rfl (QO.loadRow (cs := tabI .u8 a0.b 10) (hr := (rdTrB ((upd_ne _ _ n_b2_b1.ne.symm).trans (upd_same _ _ _)))) rfl sz29 rfl rfl (tabI_length _ _ _)) ?_
 refine DW.pure' 6 _ rfl (by kernel_rfl) rfl (fun _ => QO.move rfl rfl) ?_
 have hq := Option.bind_eq_some_iff.1 hm; clear hm; obtain ⟨r2, hr2, hm⟩ := hq
 refine DW.qcall' 7 _ _ _ rfl (by kernel_rfl) rfl (EO.fn rfl Try.func56 rfl rfl (Evs.cons rfl (Evs.cons rfl Evs.nil))) (c_spec_l01Back hr2 ) ?_
 refine DW.pure' 8 _ rfl (by kernel_rfl) rfl (fun _ => QO.fieldAt (fo := 20) rfl sz31 rfl rfl sz29 rfl rfl) ?_
 refine DW.read' 9 _ rfl (by kernel_rfl) rfl (QO.loadRow (cs := tabI .u8 a0.c 10) (hr := (rdTrC ((upd_ne _ _ n_b2_b1.ne.symm).trans (upd_same _ _ _)))) rfl sz29 rfl rfl (tabI_length _ _ _)) ?_
 refine DW.pure' 10 _ rfl (by kernel_rfl) rfl (fun _ => QO.move rfl rfl) ?_
 have hq := Option.bind_eq_some_iff.1 hm; clear hm; obtain ⟨r3, hr3, hm⟩ := hq
 refine DW.qcall' 11 _ _ _ rfl (by kernel_rfl) rfl (EO.fn rfl Try.func56 rfl rfl (Evs.cons rfl (Evs.cons rfl Evs.nil))) (c_spec_l01Back hr3 ) ?_
 refine DW.pure' 12 _ rfl (by kernel_rfl) rfl (fun _ => QO.build3 rfl rfl rfl rfl (bd31_0_1_2 r1 r2 r3)) ?_
 refine DW.loud 13 rfl (by kernel_rfl) rfl rfl (LO.storeAll (cs := trC (⟨r1, r2, r3⟩ : Tr)) rfl sz31 rfl rfl (trC_one _) (trC_length _) (upd_same _ _ _) (trC_length _) Chg.here rfl ?_)
 refine ⟨(fun e => absurd e (by decide)), ?_⟩
 refine DW.done (by kernel_rfl) ?_ _
 refine thenA_n ?_
 refine wpA_ret ?_
 obtain rfl := Option.some.inj hm
 exact retA_r (h2 := h) (Res.one rfl (res1.row (cs := trC (⟨r1, r2, r3⟩ : Tr)) (hr := (rdAll (upd_same _ _ _))) sz31 rfl rfl (trC_length _))) (Le.under (Le.under (Le.refl _) hb1) hb2) ⟨rfl, rfl⟩

/-! loop.example/g01195/spec.BackTriple -/
theorem c_spec_BackTriple {a0 : Tr} {a1 : Int} {h : Hp} {r : Tr × Int} (hm : m_spec_BackTriple a0 a1 = some r)  :
    QC Try.prog 13 #[.agg (trC a0).toArray, .int .i64 a1] h (.tuple #[.agg (trC r.1).toArray, .int .i64 r.2]) := by
 unfold m_spec_BackTriple at hm
 refine CC.enter Try.func13 rfl Try.ntmps13 rfl ?_
 refine wpA_seq ?_
 refine wpA_region ?_
 refine Ops_loud rfl (LO.boxAgg rfl rfl rfl (fun b1 hb1 => ?_))
 refine Ops_loud rfl (LO.alloc rfl zr31 rfl (fun b2 hb2 => ?_))
 simp only [upd_noneA] at hb2
 obtain ⟨n_b2_b1, hb2⟩ := hb2
 refine Ops_quiet _ rfl rfl (QO.assign rfl rfl) ?_
 refine Ops_nil ?_
 refine thenA_n ?_
 refine wpA_seq ?_
 refine wpA_seq ?_
 refine wpA_region ?_
 refine Ops_quiet _ rfl rfl (QO.loadRow (cs := trC a0) (hr := (rdAll ((upd_ne _ _ n_b2_b1.ne.symm).trans (upd_same _ _ _)))) rfl sz31 rfl rfl (trC_length _)) ?_
 refine Ops_quiet _ rfl rfl (QO.move rfl rfl) ?_
 have hq := Option.bind_eq_some_iff.1 hm; clear hm; obtain ⟨r1, hr1, hm⟩ := hq
 refine Ops_call _ _ rfl rfl (EO.fn rfl Try.func32 rfl rfl (Evs.cons rfl (Evs.cons rfl Evs.nil))) (QC.cc (c_spec_l02Is hr1 ) ?_)
 refine Ops_quiet _ rfl rfl (QO.not rfl rfl) ?_
 refine Ops_nil ?_
 refine thenA_n ?_
 refine wpA_cond rfl (fun g1 => ?_) (fun g1 => ?_)
 ·replace hm := cond_t hm g1
  refine wpA_seq ?_
  refine wpA_region ?_
  refine Ops_quiet _ rfl rfl (QO.build0 rfl bd31) ?_
  refine Ops_loud rfl (LO.storeAll (cs := trC tr0) rfl sz31 rfl rfl (trC_one _) (trC_length _) (upd_same _ _ _) (trC_length _) Chg.here rfl ?_)
  refine Ops_quiet _ rfl rfl (QO.assign rfl rfl) ?_
  refine Ops_nil ?_
  refine thenA_n ?_
  refine wpA_ret ?_
  refine thenA_r ?_
  obtain rfl := Option.some.inj hm
  exact retA_r (h2 := h) (Res.two rfl (res1.row (cs := trC tr0) (hr := (rdAll (upd_same _ _ _))) sz31 rfl rfl (trC_length _)) (rfl)) (Le.under (Le.under (Le.refl _) hb1) hb2) ⟨rfl, rfl⟩
 ·replace hm := cond_f hm g1
  refine wpA_skip ?_
  refine thenA_n ?_
  refine wpA_seq ?_
  refine wpA_region ?_
  refine Ops_quiet _ rfl rfl (QO.loadRow (cs := trC a0) (hr := (rdAll ((upd_ne _ _ n_b2_b1.ne.symm).trans (upd_same _ _ _)))) rfl sz31 rfl rfl (trC_length _)) ?_
  refine Ops_quiet _ rfl rfl (QO.move rfl rfl) ?_
  have hq := Option.bind_eq_some_iff.1 hm; clear hm; obtain ⟨r2, hr2, hm⟩ := hq
  refine Ops_call _ _ rfl rfl (EO.fn rfl Try.func36 rfl rfl (Evs.cons rfl (Evs.cons rfl Evs.nil))) (QC.cc (c_spec_l02Back hr2 ) ?_)
  refine Ops_loud rfl (LO.storeAll (cs := trC r2) rfl sz31 rfl rfl (trC_one _) (trC_length _) (upd_same _ _ _) (trC_length _) Chg.here rfl ?_)
  refine Ops_quiet _ rfl rfl (QO.assign rfl rfl) ?_
  refine Ops_nil ?_
  refine thenA_n ?_
  refine wpA_ret ?_
  obtain rfl := Option.some.inj hm
  exact retA_r (h2 := h) (Res.two rfl (res1.row (cs := trC r2) (hr := (rdAll (upd_same _ _ _))) sz31 rfl rfl (trC_length _)) (rfl)) (Le.under (Le.under (Le.refl _) hb1) hb2) ⟨rfl, rfl⟩

/-! loop.example/g01195/spec.IsTriple -/
theorem c_spec_IsTriple {a0 : Tr} {a1 : Int} {h : Hp} {r : Bool} (hm : m_spec_IsTriple a0 a1 = some r)  :
    QC Try.prog 15 #[.agg (trC a0).toArray, .int .i64 a1] h (.bool r) := by
 unfold m_spec_IsTriple at hm
 refine CC.enter Try.func15 rfl Try.ntmps15 rfl ?_
 refine wpA_seq ?_
 refine wpA_region ?_
 refine Ops_loud rfl (LO.boxAgg rfl rfl rfl (fun b1 hb1 => ?_))
 refine Ops_quiet _ rfl rfl (QO.assign rfl rfl) ?_
 refine Ops_nil ?_
 refine thenA_n ?_
 refine wpA_seq ?_
 refine wpA_region ?_
 refine Ops_quiet _ rfl rfl (QO.loadRow (cs := trC a0) (hr := (rdAll (upd_same _ _ _))) rfl sz31 rfl rfl (trC_length _)) ?_
 refine Ops_quiet _ rfl rfl (QO.move rfl rfl) ?_
 have hq := Option.bind_eq_some_iff.1 hm; clear hm; obtain ⟨r1, hr1, hm⟩ := hq
 refine Ops_call _ _ rfl rfl (EO.fn rfl Try.func32 rfl rfl (Evs.cons rfl (Evs.cons rfl Evs.nil))) (QC.cc (c_spec_l02Is hr1 ) ?_)
 refine Ops_quiet _ rfl rfl (QO.assign rfl rfl) ?_
 refine Ops_nil ?_
 refine thenA_n ?_
 refine wpA_ret ?_
 obtain rfl := Option.some.inj hm
 exact retA_r (h2 := h) (Res.one rfl (rfl)) (Le.under (Le.refl _) hb1) ⟨rfl, rfl⟩

/-! loop.example/g01195/spec.l02Start -/
theorem c_spec_l02Start  {h : Hp} {r : Mp} (hm : m_spec_l02Start = some r)  :
    QC Try.prog 62 #[] h (.agg (mpC r).toArray) := by
 unfold m_spec_l02Start at hm
 refine CC.enter Try.func62 rfl Try.ntmps62 rfl ?_
 refine wpA_seq ?_
 refine wpA_region ?_
 refine Ops_loud rfl (LO.alloc rfl zr81 rfl (fun b1 hb1 => ?_))
 refine Ops_nil ?_
 refine thenA_n ?_
 refine wpA_seq ?_
 refine wpA_region ?_
 refine Ops_quiet _ rfl rfl (QO.build0 rfl bd81) ?_
 refine Ops_loud rfl (LO.alloc rfl zr81 rfl (fun b2 hb2 => ?_))
 simp only [upd_noneA] at hb2
 obtain ⟨n_b2_b1, hb2⟩ := hb2
 refine Ops_loud rfl (LO.storeAll (cs := mpC mp0) rfl sz81 rfl rfl (mpC_one _) (mpC_length _) (upd_same _ _ _) (mpC_length _) Chg.here rfl ?_)
 refine Ops_nil ?_
 refine thenA_n ?_
 refine wpA_seq ?_
 refine wpA_seq ?_
 refine wpA_region ?_
 refine Ops_quiet _ rfl rfl (QO.assign rfl rfl) ?_
 refine Ops_nil ?_
 refine thenA_n ?_
 refine wpA_block ?_
 obtain ⟨R1, hR, hm⟩ := Option.bind_eq_some_iff.1 hm
 obtain ⟨k1, hk1⟩ := loopV_some hR
 clear hR
 refine wpA_mono (Q := fun e s' h' => match (generalizing := false) R1 with | .stop x id => e = .exit id ∧ ∃ (x1 : Int) (x2 : Mp), (x1, x2) = x ∧ Sub s' [(0, .pointer (some ⟨b1, 0, none⟩)), (1, .pointer (some ⟨b2, 0, none⟩)), (2, .int .i64 x1)] ∧ Le (upd (upd (h) b1 (.own 81 (mpC mp0) 21)) b2 (.own 81 (mpC x2) 21)) h' | .ret r => False | .next _ => False) ?_ ?_
 ·refine wpA_loop (fun k s' h' => ∃ (x1 : Int) (x2 : Mp), loopW (m_spec_l02Start_l0) k (x1, x2) = some R1 ∧ Sub s' [(0, .pointer (some ⟨b1, 0, none⟩)), (1, .pointer (some ⟨b2, 0, none⟩)), (2, .int .i64 x1)] ∧ Le (upd (upd (h) b1 (.own 81 (mpC mp0) 21)) b2 (.own 81 (mpC x2) 21)) h') (m := k1) ⟨0, mp0, hk1, (Sub.cons rfl (Sub.cons rfl (Sub.cons rfl Sub.nil))), (Le.upd_left (Le.upd_left (Le.under (Le.under (Le.refl _) hb1) hb2) ((upd_ne _ _ n_b2_b1.ne.symm).trans (upd_same _ _ _)) (by first | rfl | (simp; done))) (upd_same _ _ _) (by first | rfl | (simp; done)))⟩ ?_
  rintro k1 s' h' ⟨x1, x2, hk1, hsub, hle⟩
  refine wpA_weaken hsub.ok hle ?_
  clear hsub hle s' h'
  cases k1 with
  | zero => exact absurd hk1 (by simp [loopW])
  | succ k1 =>
   obtain ⟨o1, ho1, hk1⟩ := loopW_succ hk1
   unfold m_spec_l02Start_l0 at ho1
   try dsimp only at ho1
   refine wpA_seq ?_
   refine wpA_seq ?_
   refine wpA_region ?_
   refine Ops_quiet _ rfl rfl (QO.move rfl rfl) ?_
   refine Ops_quiet _ rfl rfl (QO.bin rfl rfl rfl rfl) ?_
   refine Ops_nil ?_
   refine thenA_n ?_
   refine wpA_cond rfl (fun g1 => ?_) (fun g1 => ?_)
   ·replace ho1 := cond_t ho1 g1
    refine wpA_skip ?_
    refine thenA_n ?_
    refine wpA_seq ?_
    refine wpA_block ?_
    refine wpA_region ?_
    refine Ops_quiet _ rfl rfl (QO.move rfl rfl) ?_
    refine Ops_quiet _ rfl rfl (QO.fieldAt (fo := 0) rfl sz81 rfl rfl sz79 rfl rfl) ?_
    have hq := chk ho1; clear ho1; obtain ⟨ck1, ho1⟩ := hq
    refine Ops_quiet _ rfl rfl (QO.idxArr rfl sz79 sz2 rfl rfl (by omega) (by omega)) ?_
    refine Ops_loud rfl (LO.store' (xs' := mpC (⟨(fset x2.a (x1).toNat (-1)), x2.b, x2.n⟩ : Mp)) rfl sz2 rfl rfl rfl (upd_same _ _ _) (by first | ((try simp only [mpC_length, sqC_length, tbC_length, tabI_length, tabB_length, ints_length, plsC_length, trC_length, sqsC_length, strsC_length, boolsC_length, tbB_length, List.length_append, List.length_cons, List.length_nil, List.length_set, List.length_replicate, rep_length]); first | omega | decide) | exact Nat.le_of_ble_eq_true rfl) (mpC_setA (by omega)) Chg.here rfl ?_)
    refine Ops_nil ?_
    refine blockA_n ?_
    refine thenA_n ?_
    refine wpA_region ?_
    refine Ops_quiet _ rfl rfl (QO.move rfl rfl) ?_
    refine Ops_quiet _ rfl rfl (QO.bin rfl rfl rfl rfl) ?_
    refine Ops_quiet _ rfl rfl (QO.assign rfl rfl) ?_
    refine Ops_nil ?_
    obtain rfl := Option.some.inj ho1
    dsimp only at hk1
    exact thenA_n ⟨k1, Nat.lt_succ_self _, _, _, hk1, (Sub.cons rfl (Sub.cons rfl (Sub.cons rfl Sub.nil))), (Le.upd_left (Le.upd_left (Le.under (Le.under (Le.refl _) hb1) hb2) ((upd_ne _ _ n_b2_b1.ne.symm).trans (upd_same _ _ _)) (by first | rfl | (simp; done))) (upd_same _ _ _) (by first | rfl | (simp; done)))⟩
   ·replace ho1 := cond_f ho1 g1
    refine wpA_exit ?_
    refine thenA_e ?_
    refine thenA_e ?_
    obtain rfl := Option.some.inj ho1
    obtain rfl := Option.some.inj hk1
    exact ⟨rfl, _, _, rfl, (Sub.cons rfl (Sub.cons rfl (Sub.cons rfl Sub.nil))), (Le.upd_left (Le.upd_left (Le.under (Le.under (Le.refl _) hb1) hb2) ((upd_ne _ _ n_b2_b1.ne.symm).trans (upd_same _ _ _)) (by first | rfl | (simp; done))) (upd_same _ _ _) (by first | rfl | (simp; done)))⟩
 ·intro e s' h' hq
  cases R1 with
  | next x => exact hq.elim
  | ret r => exact hq.elim
  | stop x id =>
   obtain ⟨rfl, x3, x4, rfl, hsub1, hle1⟩ := hq
   try dsimp only at hm
   by_cases hid1 : id = 0
   ·subst hid1
    rw [if_pos rfl] at hm
    refine blockA_s ?_
    refine thenA_n ?_
    refine wpA_weaken hsub1.ok hle1 ?_
    refine wpA_seq ?_
    refine wpA_region ?_
    refine Ops_quiet _ rfl rfl (QO.loadRow (cs := mpC x4) (hr := (rdAll (upd_same _ _ _))) rfl sz81 rfl rfl (mpC_length _)) ?_
    refine Ops_loud rfl (LO.storeAll (cs := mpC x4) rfl sz81 rfl rfl (mpC_one _) (mpC_length _) ((upd_ne _ _ n_b2_b1.ne.symm).trans (upd_same _ _ _)) (mpC_length _) (Chg.there n_b2_b1.ne Chg.here) rfl ?_)
    refine Ops_nil ?_
    refine thenA_n ?_
    refine wpA_ret ?_
    obtain rfl := Option.some.inj hm
    exact retA_r (h2 := h) (Res.one rfl (res1.row (cs := mpC x4) (hr := (rdAll ((upd_ne _ _ n_b2_b1.ne.symm).trans (upd_same _ _ _)))) sz81 rfl rfl (mpC_length _))) (Le.under (Le.under (Le.refl _) hb1) hb2) ⟨rfl, rfl⟩
   rw [if_neg hid1] at hm
   exact absurd hm (by simp)

/-! loop.example/g01195/spec.l02Places -/
theorem c_spec_l02Places {a0 : Mp} {a1 : Int} {h : Hp} {r : (Nat → Int)} (hm : m_spec_l02Places a0 a1 = some r)  :
    QC Try.prog 75 #[.agg (mpC a0).toArray, .int .i64 a1] h (.agg (tabI .u8 r 10).toArray) := by
 unfold m_spec_l02Places at hm
 refine CC.enter Try.func75 rfl Try.ntmps75 rfl ?_
 refine wpA_seq ?_
 refine wpA_region ?_
 refine Ops_loud rfl (LO.boxAgg rfl rfl rfl (fun b1 hb1 => ?_))
 refine Ops_loud rfl (LO.alloc rfl zr29 rfl (fun b2 hb2 => ?_))
 simp only [upd_noneA] at hb2
 obtain ⟨n_b2_b1, hb2⟩ := hb2
 refine Ops_nil ?_
 refine thenA_n ?_
 refine wpA_seq ?_
 refine wpA_region ?_
 refine Ops_quiet _ rfl rfl (QO.build0 rfl bd29) ?_
 refine Ops_loud rfl (LO.alloc rfl zr29 rfl (fun b3 hb3 => ?_))
 simp only [upd_noneA] at hb3
 obtain ⟨n_b3_b2, n_b3_b1, hb3⟩ := hb3
 refine Ops_loud rfl (LO.storeAll (cs := tabI .u8 pl0 10) rfl sz29 rfl rfl (tabI_one _ _ _) (tabI_length _ _ _) (upd_same _ _ _) (tabI_length _ _ _) Chg.here rfl ?_)
 refine Ops_nil ?_
 refine thenA_n ?_
 refine wpA_seq ?_
 refine wpA_seq ?_
 refine wpA_region ?_
 refine Ops_quiet _ rfl rfl (QO.assign rfl rfl) ?_
 refine Ops_nil ?_
 refine thenA_n ?_
 refine wpA_block ?_
 obtain ⟨R1, hR, hm⟩ := Option.bind_eq_some_iff.1 hm
 obtain ⟨k1, hk1⟩ := loopV_some hR
 clear hR
 refine wpA_mono (Q := fun e s' h' => match (generalizing := false) R1 with | .stop x id => e = .exit id ∧ ∃ (x1 : Int) (x2 : (Nat → Int)), (x1, x2) = x ∧ Sub s' [(1, .int .i64 a1), (2, .pointer (some ⟨b1, 0, none⟩)), (4, .pointer (some ⟨b2, 0, none⟩)), (5, .pointer (some ⟨b3, 0, none⟩)), (6, .int .i64 x1)] ∧ Le (upd (upd (upd (h) b1 (.own 81 (mpC a0) 21)) b2 (.own 29 (tabI .u8 pl0 10) 10)) b3 (.own 29 (tabI .u8 x2 10) 10)) h' | .ret r => False | .next _ => False) ?_ ?_
 ·refine wpA_loop (fun k s' h' => ∃ (x1 : Int) (x2 : (Nat → Int)), loopW (m_spec_l02Places_l0 a0 a1) k (x1, x2) = some R1 ∧ Sub s' [(1, .int .i64 a1), (2, .pointer (some ⟨b1, 0, none⟩)), (4, .pointer (some ⟨b2, 0, none⟩)), (5, .pointer (some ⟨b3, 0, none⟩)), (6, .int .i64 x1)] ∧ Le (upd (upd (upd (h) b1 (.own 81 (mpC a0) 21)) b2 (.own 29 (tabI .u8 pl0 10) 10)) b3 (.own 29 (tabI .u8 x2 10) 10)) h') (m := k1) ⟨0, pl0, hk1, (Sub.cons rfl (Sub.cons rfl (Sub.cons rfl (Sub.cons rfl (Sub.cons rfl Sub.nil))))), (Le.upd_left (Le.upd_left (Le.upd_left (Le.under (Le.under (Le.under (Le.refl _) hb1) hb2) hb3) ((upd_ne _ _ n_b3_b1.ne.symm).trans ((upd_ne _ _ n_b2_b1.ne.symm).trans (upd_same _ _ _))) (by first | rfl | (simp; done))) ((upd_ne _ _ n_b3_b2.ne.symm).trans (upd_same _ _ _)) (by first | rfl | (simp; done))) (upd_same _ _ _) (by first | rfl | (simp; done)))⟩ ?_
  rintro k1 s' h' ⟨x1, x2, hk1, hsub, hle⟩
  refine wpA_weaken hsub.ok hle ?_
  clear hsub hle s' h'
  cases k1 with
  | zero => exact absurd hk1 (by simp [loopW])
  | succ k1 =>
   obtain ⟨o1, ho1, hk1⟩ := loopW_succ hk1
   unfold m_spec_l02Places_l0 at ho1
   try dsimp only at ho1
   refine wpA_seq ?_
   refine wpA_seq ?_
   refine wpA_region ?_
   refine Ops_quiet _ rfl rfl (QO.move rfl rfl) ?_
   refine Ops_quiet _ rfl rfl (QO.move rfl rfl) ?_
   refine Ops_quiet _ rfl rfl (QO.bin rfl rfl rfl rfl) ?_
   refine Ops_nil ?_
   refine thenA_n ?_
   refine wpA_cond rfl (fun g1 => ?_) (fun g1 => ?_)
   ·replace ho1 := cond_t ho1 g1
    refine wpA_skip ?_
    refine thenA_n ?_
    refine wpA_seq ?_
    refine wpA_block ?_
    refine wpA_region ?_
    refine Ops_quiet _ rfl rfl (QO.move rfl rfl) ?_
    refine Ops_quiet _ rfl rfl (QO.move rfl rfl) ?_
    refine Ops_quiet _ rfl rfl (QO.fieldAt (fo := 0) rfl sz81 rfl rfl sz79 rfl rfl) ?_
    have hq := chk ho1; clear ho1; obtain ⟨ck1, ho1⟩ := hq
    refine Ops_quiet _ rfl rfl (QO.idxArr rfl sz79 sz2 rfl rfl (by omega) (by omega)) ?_
    refine Ops_quiet _ rfl rfl (QO.load rfl sz2 rfl rfl (by (refine (rd_own ((upd_ne _ _ n_b3_b1.ne.symm).trans ((upd_ne _ _ n_b2_b1.ne.symm).trans (upd_same _ _ _))) _).trans ?_); exact mpC_a (by omega))) ?_
    refine Ops_quiet _ rfl rfl (QO.conv rfl sz2 sz5 rfl) ?_
    have hq := chk ho1; clear ho1; obtain ⟨ck2, ho1⟩ := hq
    refine Ops_quiet _ rfl rfl (QO.idxArr rfl sz29 sz5 rfl rfl (by omega) (by omega)) ?_
    refine Ops_loud rfl (LO.store' (xs' := tabI .u8 (fset x2 (x1).toNat (IntKind.u8.wrap (a0.a (x1).toNat))) 10) rfl sz5 rfl rfl rfl (upd_same _ _ _) (by first | ((try simp only [mpC_length, sqC_length, tbC_length, tabI_length, tabB_length, ints_length, plsC_length, trC_length, sqsC_length, strsC_length, boolsC_length, tbB_length, List.length_append, List.length_cons, List.length_nil, List.length_set, List.length_replicate, rep_length]); first | omega | decide) | exact Nat.le_of_ble_eq_true rfl) tabI_set01 Chg.here rfl ?_)
    refine Ops_nil ?_
    refine blockA_n ?_
    refine thenA_n ?_
    refine wpA_region ?_
    refine Ops_quiet _ rfl rfl (QO.move rfl rfl) ?_
    refine Ops_quiet _ rfl rfl (QO.bin rfl rfl rfl rfl) ?_
    refine Ops_quiet _ rfl rfl (QO.assign rfl rfl) ?_
    refine Ops_nil ?_
    obtain rfl := Option.some.inj ho1
    dsimp only at hk1
    exact thenA_n ⟨k1, Nat.lt_succ_self _, _, _, hk1, (Sub.cons rfl (Sub.cons rfl (Sub.cons rfl (Sub.cons rfl (Sub.cons rfl Sub.nil))))), (Le.upd_left (Le.upd_left (Le.upd_left (Le.under (Le.under (Le.under (Le.refl _) hb1) hb2) hb3) ((upd_ne _ _ n_b3_b1.ne.symm).trans ((upd_ne _ _ n_b2_b1.ne.symm).trans (upd_same _ _ _))) (by first | rfl | (simp; done))) ((upd_ne _ _ n_b3_b2.ne.symm).trans (upd_same _ _ _)) (by first | rfl | (simp; done))) (upd_same _ _ _) (by first | rfl | (simp; done)))⟩
   ·replace ho1 := cond_f ho1 g1
    refine wpA_exit ?_
    refine thenA_e ?_
    refine thenA_e ?_
    obtain rfl := Option.some.inj ho1
    obtain rfl := Option.some.inj hk1
    exact ⟨rfl, _, _, rfl, (Sub.cons rfl (Sub.cons rfl (Sub.cons rfl (Sub.cons rfl (Sub.cons rfl Sub.nil))))), (Le.upd_left (Le.upd_left (Le.upd_left (Le.under (Le.under (Le.under (Le.refl _) hb1) hb2) hb3) ((upd_ne _ _ n_b3_b1.ne.symm).trans ((upd_ne _ _ n_b2_b1.ne.symm).trans (upd_same _ _ _))) (by first | rfl | (simp; done))) ((upd_ne _ _ n_b3_b2.ne.symm).trans (upd_same _ _ _)) (by first | rfl | (simp; done))) (upd_same _ _ _) (by first | rfl | (simp; done)))⟩
 ·intro e s' h' hq
  cases R1 with
  | next x => exact hq.elim
  | ret r => exact hq.elim
  | stop x id =>
   obtain ⟨rfl, x3, x4, rfl, hsub1, hle1⟩ := hq
   try dsimp only at hm
   by_cases hid1 : id = 0
   ·subst hid1
    rw [if_pos rfl] at hm
    refine blockA_s ?_
    refine thenA_n ?_
    refine wpA_weaken hsub1.ok hle1 ?_
    refine wpA_seq ?_
    refine wpA_region ?_
    refine Ops_quiet _ rfl rfl (QO.loadRow (cs := tabI .u8 x4 10) (hr := (rdAll (upd_same _ _ _))) rfl sz29 rfl rfl (tabI_length _ _ _)) ?_
    refine Ops_loud rfl (LO.storeAll (cs := tabI .u8 x4 10) rfl sz29 rfl rfl (tabI_one _ _ _) (tabI_length _ _ _) ((upd_ne _ _ n_b3_b2.ne.symm).trans (upd_same _ _ _)) (tabI_length _ _ _) (Chg.there n_b3_b2.ne Chg.here) rfl ?_)
    refine Ops_nil ?_
    refine thenA_n ?_
    refine wpA_ret ?_
    obtain rfl := Option.some.inj hm
    exact retA_r (h2 := h) (Res.one rfl (res1.row (cs := tabI .u8 x4 10) (hr := (rdAll ((upd_ne _ _ n_b3_b2.ne.symm).trans (upd_same _ _ _)))) sz29 rfl rfl (tabI_length _ _ _))) (Le.under (Le.under (Le.under (Le.refl _) hb1) hb2) hb3) ⟨rfl, rfl⟩
   rw [if_neg hid1] at hm
   exact absurd hm (by simp)

/-! loop.example/g01195/spec.l02Close -/
theorem c_spec_l02Close_b {rec : Sq → Sq → Mp → Int → Int → Option (Mp × Bool)} (hrec : ∀ {a0 : Sq} {a1 : Sq} {a2 : Mp} {a3 : Int} {a4 : Int} {h : Hp} {r : Mp × Bool} (hm : rec a0 a1 a2 a3 a4 = some r) , QC Try.prog 76 #[.agg (sqC a0).toArray, .agg (sqC a1).toArray, .agg (mpC a2).toArray, .int .i64 a3, .int .i64 a4] h (.tuple #[.agg (mpC r.1).toArray, .bool r.2])) {a0 : Sq} {a1 : Sq} {a2 : Mp} {a3 : Int} {a4 : Int} {h : Hp} {r : Mp × Bool} (hm : m_spec_l02Close_b rec a0 a1 a2 a3 a4 = some r)  :
    QC Try.prog 76 #[.agg (sqC a0).toArray, .agg (sqC a1).toArray, .agg (mpC a2).toArray, .int .i64 a3, .int .i64 a4] h (.tuple #[.agg (mpC r.1).toArray, .bool r.2]) := by
 unfold m_spec_l02Close_b at hm
 refine CC.enter Try.func76 rfl Try.ntmps76 rfl ?_
 refine wpA_seq ?_
 refine wpA_region ?_
 refine Ops_loud rfl (LO.boxAgg rfl rfl rfl (fun b1 hb1 => ?_))
 refine Ops_loud rfl (LO.boxAgg rfl rfl rfl (fun b2 hb2 => ?_))
 simp only [upd_noneA] at hb2
 obtain ⟨n_b2_b1, hb2⟩ := hb2
 refine Ops_loud rfl (LO.boxAgg rfl rfl rfl (fun b3 hb3 => ?_))
 simp only [upd_noneA] at hb3
 obtain ⟨n_b3_b2, n_b3_b1, hb3⟩ := hb3
 refine Ops_loud rfl (LO.alloc rfl zr81 rfl (fun b4 hb4 => ?_))
 simp only [upd_noneA] at hb4
 obtain ⟨n_b4_b3, n_b4_b2, n_b4_b1, hb4⟩ := hb4
 refine Ops_quiet _ rfl rfl (QO.assign rfl rfl) ?_
 refine Ops_nil ?_
 refine thenA_n ?_
 refine wpA_seq ?_
 refine wpA_seq ?_
 refine wpA_region ?_
 refine Ops_quiet _ rfl rfl (QO.move rfl rfl) ?_
 refine Ops_quiet _ rfl rfl (QO.fieldAt (fo := 0) rfl sz81 rfl rfl sz79 rfl rfl) ?_
 have hq := chk hm; clear hm; obtain ⟨ck1, hm⟩ := hq
 refine Ops_quiet _ rfl rfl (QO.idxArr rfl sz79 sz2 rfl rfl (by omega) (by omega)) ?_
 refine Ops_quiet _ rfl rfl (QO.load rfl sz2 rfl rfl (by (refine (rd_own ((upd_ne _ _ n_b4_b3.ne.symm).trans (upd_same _ _ _)) _).trans ?_); exact mpC_a (by omega))) ?_
 refine Ops_quiet _ rfl rfl (QO.bin rfl rfl rfl rfl) ?_
 refine Ops_quiet _ rfl rfl (QO.move rfl rfl) ?_
 refine Ops_case 22 rfl (fun g1 => ?_) (fun g1 => ?_)
 ·replace hm := cond_t hm g1
  refine Ops_skip rfl rfl ?_
  refine Ops_skip rfl rfl ?_
  refine Ops_skip rfl rfl ?_
  refine Ops_skip rfl rfl ?_
  refine Ops_skip rfl rfl ?_
  refine Ops_quiet _ rfl rfl (QO.pick_t rfl rfl rfl) ?_
  refine Ops_nil ?_
  refine thenA_n ?_
  refine wpA_cond_t rfl ?_
  refine wpA_seq ?_
  refine wpA_any (upd (upd (upd (h) b1 (.own 28 (sqC a0) 101)) b2 (.own 28 (sqC a1) 101)) b3 (.own 81 (mpC a2) 21)) [7] [] (by kernel_rfl) (by kernel_rfl) (DW.start ?_)
  refine DW.read' 0 _ rfl (by kernel_rfl) rfl (QO.loadRow (cs := mpC a2) (hr := (rdAll ((upd_ne _ _ n_b4_b3.ne.symm).trans (upd_same _ _ _)))) rfl sz81 rfl rfl (mpC_length _)) ?_
  refine DW.pure' 1 _ rfl (by kernel_rfl) rfl (fun _ => QO.move rfl rfl) ?_
  refine DW.pure' 2 _ rfl (by kernel_rfl) rfl (fun _ => QO.fieldAt (fo := 0) rfl sz81 rfl rfl sz79 rfl rfl) ?_
  have hq := chk hm; clear hm; obtain ⟨ck2, hm⟩ := hq
  refine DW.pure' 3 _ rfl (by kernel_rfl) rfl (fun _ => QO.idxArr rfl sz79 sz2 rfl rfl (by omega) (by omega)) ?_
  refine DW.readK' 4 _ rfl (by kernel_rfl) rfl (Le.upd_left (Le.upd_left (Le.upd_left (Le.under (Le.under (Le.under (Le.under (Le.refl _) hb1) hb2) hb3) hb4) ((upd_ne _ _ n_b4_b1.ne.symm).trans ((upd_ne _ _ n_b3_b1.ne.symm).trans ((upd_ne _ _ n_b2_b1.ne.symm).trans (upd_same _ _ _)))) (by first | rfl | (simp; done))) ((upd_ne _ _ n_b4_b2.ne.symm).trans ((upd_ne _ _ n_b3_b2.ne.symm).trans (upd_same _ _ _))) (by first | rfl | (simp; done))) ((upd_ne _ _ n_b4_b3.ne.symm).trans (upd_same _ _ _)) (by first | rfl | (simp; done))) (QO.load rfl sz2 rfl rfl (by (refine (rd_own (upd_same _ _ _) _).trans ?_); exact mpC_a (by omega))) ?_
  refine DW.pure' 5 _ rfl (by kernel_rfl) rfl (fun _ => QO.move rfl rfl) ?_
  refine DW.pure' 6 _ rfl (by kernel_rfl) rfl (fun _ => QO.bin rfl rfl rfl rfl) ?_
  refine DW.loud 7 rfl (by kernel_rfl) rfl rfl (LO.storeAll (cs := mpC a2) rfl sz81 rfl rfl (mpC_one _) (mpC_length _) (upd_same _ _ _) (mpC_length _) Chg.here rfl ?_)
  refine ⟨(fun _ => (Le.upd_left (Le.upd_left (Le.upd_left (Le.under (Le.under (Le.under (Le.under (Le.refl _) hb1) hb2) hb3) hb4) ((upd_ne _ _ n_b4_b1.ne.symm).trans ((upd_ne _ _ n_b3_b1.ne.symm).trans ((upd_ne _ _ n_b2_b1.ne.symm).trans (upd_same _ _ _)))) (by first | rfl | (simp; done))) ((upd_ne _ _ n_b4_b2.ne.symm).trans ((upd_ne _ _ n_b3_b2.ne.symm).trans (upd_same _ _ _))) (by first | rfl | (simp; done))) ((upd_ne _ _ n_b4_b3.ne.symm).trans (upd_same _ _ _)) (by first | rfl | (simp; done)))), ?_⟩
  refine DW.pure' 8 _ rfl (by kernel_rfl) rfl (fun _ => QO.assign rfl rfl) ?_
  refine DW.done (by kernel_rfl) ?_ _
  refine thenA_n ?_
  refine wpA_ret ?_
  refine thenA_r ?_
  obtain rfl := Option.some.inj hm
  exact retA_r (h2 := h) (Res.two rfl (res1.row (cs := mpC a2) (hr := (rdAll (upd_same _ _ _))) sz81 rfl rfl (mpC_length _)) (rfl)) (Le.under (Le.under (Le.under (Le.under (Le.refl _) hb1) hb2) hb3) hb4) ⟨rfl, rfl⟩
 ·replace hm := cond_f hm g1
  refine Ops_quiet _ rfl rfl (QO.move rfl rfl) ?_
  refine Ops_quiet _ rfl rfl (QO.fieldAt (fo := 10) rfl sz81 rfl rfl sz79 rfl rfl) ?_
  have hq := chk hm; clear hm; obtain ⟨ck3, hm⟩ := hq
  refine Ops_quiet _ rfl rfl (QO.idxArr rfl sz79 sz2 rfl rfl (by omega) (by omega)) ?_
  refine Ops_quiet _ rfl rfl (QO.load rfl sz2 rfl rfl (by (refine (rd_own ((upd_ne _ _ n_b4_b3.ne.symm).trans (upd_same _ _ _)) _).trans ?_); exact mpC_b (by omega))) ?_
  refine Ops_quiet _ rfl rfl (QO.bin rfl rfl rfl rfl) ?_
  refine Ops_quiet _ rfl rfl (QO.pick_f rfl rfl rfl) ?_
  refine Ops_nil ?_
  refine thenA_n ?_
  refine wpA_cond rfl (fun g2 => ?_) (fun g2 => ?_)
  ·replace hm := cond_t hm g2
   refine wpA_seq ?_
   refine wpA_any (upd (upd (upd (h) b1 (.own 28 (sqC a0) 101)) b2 (.own 28 (sqC a1) 101)) b3 (.own 81 (mpC a2) 21)) [7] [] (by kernel_rfl) (by kernel_rfl) (DW.start ?_)
   refine DW.read' 0 _ rfl (by kernel_rfl) rfl (QO.loadRow (cs := mpC a2) (hr := (rdAll ((upd_ne _ _ n_b4_b3.ne.symm).trans (upd_same _ _ _)))) rfl sz81 rfl rfl (mpC_length _)) ?_
   refine DW.pure' 1 _ rfl (by kernel_rfl) rfl (fun _ => QO.move rfl rfl) ?_
   refine DW.pure' 2 _ rfl (by kernel_rfl) rfl (fun _ => QO.fieldAt (fo := 0) rfl sz81 rfl rfl sz79 rfl rfl) ?_
   have hq := chk hm; clear hm; obtain ⟨ck4, hm⟩ := hq
   refine DW.pure' 3 _ rfl (by kernel_rfl) rfl (fun _ => QO.idxArr rfl sz79 sz2 rfl rfl (by omega) (by omega)) ?_
   refine DW.readK' 4 _ rfl (by kernel_rfl) rfl (Le.upd_left (Le.upd_left (Le.upd_left (Le.under (Le.under (Le.under (Le.under (Le.refl _) hb1) hb2) hb3) hb4) ((upd_ne _ _ n_b4_b1.ne.symm).trans ((upd_ne _ _ n_b3_b1.ne.symm).trans ((upd_ne _ _ n_b2_b1.ne.symm).trans (upd_same _ _ _)))) (by first | rfl | (simp; done))) ((upd_ne _ _ n_b4_b2.ne.symm).trans ((upd_ne _ _ n_b3_b2.ne.symm).trans (upd_same _ _ _))) (by first | rfl | (simp; done))) ((upd_ne _ _ n_b4_b3.ne.symm).trans (upd_same _ _ _)) (by first | rfl | (simp; done))) (QO.load rfl sz2 rfl rfl (by (refine (rd_own (upd_same _ _ _) _).trans ?_); exact mpC_a (by omega))) ?_
   refine DW.pure' 5 _ rfl (by kernel_rfl) rfl (fun _ => QO.move rfl rfl) ?_
   refine DW.pure' 6 _ rfl (by kernel_rfl) rfl (fun _ => QO.bin rfl rfl rfl rfl) ?_
   refine DW.loud 7 rfl (by kernel_rfl) rfl rfl (LO.storeAll (cs := mpC a2) rfl sz81 rfl rfl (mpC_one _) (mpC_length _) (upd_same _ _ _) (mpC_length _) Chg.here rfl ?_)
   refine ⟨(fun _ => (Le.upd_left (Le.upd_left (Le.upd_left (Le.under (Le.under (Le.under (Le.under (Le.refl _) hb1) hb2) hb3) hb4) ((upd_ne _ _ n_b4_b1.ne.symm).trans ((upd_ne _ _ n_b3_b1.ne.symm).trans ((upd_ne _ _ n_b2_b1.ne.symm).trans (upd_same _ _ _)))) (by first | rfl | (simp; done))) ((upd_ne _ _ n_b4_b2.ne.symm).trans ((upd_ne _ _ n_b3_b2.ne.symm).trans (upd_same _ _ _))) (by first | rfl | (simp; done))) ((upd_ne _ _ n_b4_b3.ne.symm).trans (upd_same _ _ _)) (by first | rfl | (simp; done)))), ?_⟩
   refine DW.pure' 8 _ rfl (by kernel_rfl) rfl (fun _ => QO.assign rfl rfl) ?_
   refine DW.done (by kernel_rfl) ?_ _
   refine thenA_n ?_
   refine wpA_ret ?_
   refine thenA_r ?_
   obtain rfl := Option.some.inj hm
   exact retA_r (h2 := h) (Res.two rfl (res1.row (cs := mpC a2) (hr := (rdAll (upd_same _ _ _))) sz81 rfl rfl (mpC_length _)) (rfl)) (Le.under (Le.under (Le.under (Le.under (Le.refl _) hb1) hb2) hb3) hb4) ⟨rfl, rfl⟩
  ·replace hm := cond_f hm g2
   refine wpA_skip ?_
   refine thenA_n ?_
   refine wpA_seq ?_
   refine wpA_region ?_
   refine Ops_quiet _ rfl rfl (QO.move rfl rfl) ?_
   refine Ops_quiet _ rfl rfl (QO.move rfl rfl) ?_
   refine Ops_quiet _ rfl rfl (QO.fieldAt (fo := 0) rfl sz81 rfl rfl sz79 rfl rfl) ?_
   have hq := chk hm; clear hm; obtain ⟨ck5, hm⟩ := hq
   refine Ops_quiet _ rfl rfl (QO.idxArr rfl sz79 sz2 rfl rfl (by omega) (by omega)) ?_
   refine Ops_loud rfl (LO.store' (xs' := mpC (⟨(fset a2.a (a3).toNat a4), a2.b, a2.n⟩ : Mp)) rfl sz2 rfl rfl rfl ((upd_ne _ _ n_b4_b3.ne.symm).trans (upd_same _ _ _)) (by first | ((try simp only [mpC_length, sqC_length, tbC_length, tabI_length, tabB_length, ints_length, plsC_length, trC_length, sqsC_length, strsC_length, boolsC_length, tbB_length, List.length_append, List.length_cons, List.length_nil, List.length_set, List.length_replicate, rep_length]); first | omega | decide) | exact Nat.le_of_ble_eq_true rfl) (mpC_setA (by omega)) (Chg.there n_b4_b3.ne Chg.here) rfl ?_)
   refine Ops_nil ?_
   refine thenA_n ?_
   refine wpA_seq ?_
   refine wpA_region ?_
   refine Ops_quiet _ rfl rfl (QO.move rfl rfl) ?_
   refine Ops_quiet _ rfl rfl (QO.fieldAt (fo := 10) rfl sz81 rfl rfl sz79 rfl rfl) ?_
   have hq := chk hm; clear hm; obtain ⟨ck6, hm⟩ := hq
   refine Ops_quiet _ rfl rfl (QO.idxArr rfl sz79 sz2 rfl rfl (by omega) (by omega)) ?_
   refine Ops_loud rfl (LO.store' (xs' := mpC (⟨((⟨(fset a2.a (a3).toNat a4), a2.b, a2.n⟩ : Mp)).a, (fset ((⟨(fset a2.a (a3).toNat a4), a2.b, a2.n⟩ : Mp)).b (a4).toNat 1), ((⟨(fset a2.a (a3).toNat a4), a2.b, a2.n⟩ : Mp)).n⟩ : Mp)) rfl sz2 rfl rfl rfl ((upd_ne _ _ n_b4_b3.ne.symm).trans (upd_same _ _ _)) (by first | ((try simp only [mpC_length, sqC_length, tbC_length, tabI_length, tabB_length, ints_length, plsC_length, trC_length, sqsC_length, strsC_length, boolsC_length, tbB_length, List.length_append, List.length_cons, List.length_nil, List.length_set, List.length_replicate, rep_length]); first | omega | decide) | exact Nat.le_of_ble_eq_true rfl) (mpC_setB (by omega)) (Chg.there n_b4_b3.ne Chg.here) rfl ?_)
   refine Ops_nil ?_
   refine thenA_n ?_
   refine wpA_seq ?_
   refine wpA_region ?_
   refine Ops_quiet _ rfl rfl (QO.fieldAt (fo := 20) rfl sz81 rfl rfl sz2 rfl rfl) ?_
   refine Ops_quiet _ rfl rfl (QO.load rfl sz2 rfl rfl (by (refine (rd_own ((upd_ne _ _ n_b4_b3.ne.symm).trans (upd_same _ _ _)) _).trans ?_); exact mpC_n)) ?_
   refine Ops_quiet _ rfl rfl (QO.bin rfl rfl rfl rfl) ?_
   refine Ops_quiet _ rfl rfl (QO.fieldAt (fo := 20) rfl sz81 rfl rfl sz2 rfl rfl) ?_
   refine Ops_loud rfl (LO.store' (xs' := mpC (⟨((⟨((⟨(fset a2.a (a3).toNat a4), a2.b, a2.n⟩ : Mp)).a, (fset ((⟨(fset a2.a (a3).toNat a4), a2.b, a2.n⟩ : Mp)).b (a4).toNat 1), ((⟨(fset a2.a (a3).toNat a4), a2.b, a2.n⟩ : Mp)).n⟩ : Mp)).a, ((⟨((⟨(fset a2.a (a3).toNat a4), a2.b, a2.n⟩ : Mp)).a, (fset ((⟨(fset a2.a (a3).toNat a4), a2.b, a2.n⟩ : Mp)).b (a4).toNat 1), ((⟨(fset a2.a (a3).toNat a4), a2.b, a2.n⟩ : Mp)).n⟩ : Mp)).b, (IntKind.i64.wrap (((⟨((⟨(fset a2.a (a3).toNat a4), a2.b, a2.n⟩ : Mp)).a, (fset ((⟨(fset a2.a (a3).toNat a4), a2.b, a2.n⟩ : Mp)).b (a4).toNat 1), ((⟨(fset a2.a (a3).toNat a4), a2.b, a2.n⟩ : Mp)).n⟩ : Mp)).n + 1))⟩ : Mp)) rfl sz2 rfl rfl rfl ((upd_ne _ _ n_b4_b3.ne.symm).trans (upd_same _ _ _)) (by first | ((try simp only [mpC_length, sqC_length, tbC_length, tabI_length, tabB_length, ints_length, plsC_length, trC_length, sqsC_length, strsC_length, boolsC_length, tbB_length, List.length_append, List.length_cons, List.length_nil, List.length_set, List.length_replicate, rep_length]); first | omega | decide) | exact Nat.le_of_ble_eq_true rfl) mpC_setN (Chg.there n_b4_b3.ne Chg.here) rfl ?_)
   refine Ops_nil ?_
   refine thenA_n ?_
   refine wpA_seq ?_
   refine wpA_seq ?_
   refine wpA_region ?_
   refine Ops_quiet _ rfl rfl (QO.assign rfl rfl) ?_
   refine Ops_nil ?_
   refine thenA_n ?_
   refine wpA_block ?_
   obtain ⟨R1, hR, hm⟩ := Option.bind_eq_some_iff.1 hm
   obtain ⟨k1, hk1⟩ := loopV_some hR
   clear hR
   refine wpA_mono (Q := fun e s' h' => match (generalizing := false) R1 with | .stop x id => e = .exit id ∧ ∃ (x1 : Int) (x2 : Mp) (x3 : Mp), (x1, x2, x3) = x ∧ Sub s' [(3, .int .i64 a3), (4, .int .i64 a4), (5, .pointer (some ⟨b1, 0, none⟩)), (6, .pointer (some ⟨b2, 0, none⟩)), (7, .pointer (some ⟨b3, 0, none⟩)), (10, .pointer (some ⟨b4, 0, none⟩)), (12, .int .i64 x1)] ∧ Le (upd (upd (upd (upd (h) b1 (.own 28 (sqC a0) 101)) b2 (.own 28 (sqC a1) 101)) b3 (.own 81 (mpC x2) 21)) b4 (.own 81 (mpC x3) 21)) h' | .ret r => e = .ret ∧ Sub s' [(10, .pointer (some ⟨b4, 0, none⟩)), (11, .bool r.2)] ∧ Le (upd (h) b4 (.own 81 (mpC r.1) 21)) h' | .next _ => False) ?_ ?_
   ·refine wpA_loop (fun k s' h' => ∃ (x1 : Int) (x2 : Mp) (x3 : Mp), loopW (m_spec_l02Close_l0 a0 a1 a3 a4 rec) k (x1, x2, x3) = some R1 ∧ Sub s' [(3, .int .i64 a3), (4, .int .i64 a4), (5, .pointer (some ⟨b1, 0, none⟩)), (6, .pointer (some ⟨b2, 0, none⟩)), (7, .pointer (some ⟨b3, 0, none⟩)), (10, .pointer (some ⟨b4, 0, none⟩)), (12, .int .i64 x1)] ∧ Le (upd (upd (upd (upd (h) b1 (.own 28 (sqC a0) 101)) b2 (.own 28 (sqC a1) 101)) b3 (.own 81 (mpC x2) 21)) b4 (.own 81 (mpC x3) 21)) h') (m := k1) ⟨0, (⟨((⟨((⟨(fset a2.a (a3).toNat a4), a2.b, a2.n⟩ : Mp)).a, (fset ((⟨(fset a2.a (a3).toNat a4), a2.b, a2.n⟩ : Mp)).b (a4).toNat 1), ((⟨(fset a2.a (a3).toNat a4), a2.b, a2.n⟩ : Mp)).n⟩ : Mp)).a, ((⟨((⟨(fset a2.a (a3).toNat a4), a2.b, a2.n⟩ : Mp)).a, (fset ((⟨(fset a2.a (a3).toNat a4), a2.b, a2.n⟩ : Mp)).b (a4).toNat 1), ((⟨(fset a2.a (a3).toNat a4), a2.b, a2.n⟩ : Mp)).n⟩ : Mp)).b, (IntKind.i64.wrap (((⟨((⟨(fset a2.a (a3).toNat a4), a2.b, a2.n⟩ : Mp)).a, (fset ((⟨(fset a2.a (a3).toNat a4), a2.b, a2.n⟩ : Mp)).b (a4).toNat 1), ((⟨(fset a2.a (a3).toNat a4), a2.b, a2.n⟩ : Mp)).n⟩ : Mp)).n + 1))⟩ : Mp), mp0, hk1, (Sub.cons rfl (Sub.cons rfl (Sub.cons rfl (Sub.cons rfl (Sub.cons rfl (Sub.cons rfl (Sub.cons rfl Sub.nil))))))), (Le.upd_left (Le.upd_left (Le.upd_left (Le.upd_left (Le.under (Le.under (Le.under (Le.under (Le.refl _) hb1) hb2) hb3) hb4) ((upd_ne _ _ n_b4_b1.ne.symm).trans ((upd_ne _ _ n_b3_b1.ne.symm).trans ((upd_ne _ _ n_b2_b1.ne.symm).trans (upd_same _ _ _)))) (by first | rfl | (simp; done))) ((upd_ne _ _ n_b4_b2.ne.symm).trans ((upd_ne _ _ n_b3_b2.ne.symm).trans (upd_same _ _ _))) (by first | rfl | (simp; done))) ((upd_ne _ _ n_b4_b3.ne.symm).trans (upd_same _ _ _)) (by first | rfl | (simp; done))) (upd_same _ _ _) (by first | rfl | (simp; done)))⟩ ?_
    rintro k1 s' h' ⟨x1, x2, x3, hk1, hsub, hle⟩
    refine wpA_weaken hsub.ok hle ?_
    clear hsub hle s' h'
    cases k1 with
    | zero => exact absurd hk1 (by simp [loopW])
    | succ k1 =>
     obtain ⟨o1, ho1, hk1⟩ := loopW_succ hk1
     unfold m_spec_l02Close_l0 at ho1
     try dsimp only at ho1
     refine wpA_seq ?_
     refine wpA_seq ?_
     refine wpA_region ?_
     refine Ops_quiet _ rfl rfl (QO.move rfl rfl) ?_
     refine Ops_quiet _ rfl rfl (QO.fieldAt (fo := 0) rfl sz28 rfl rfl sz2 rfl rfl) ?_
     refine Ops_quiet _ rfl rfl (QO.load rfl sz2 rfl rfl (by (refine (rd_own ((upd_ne _ _ n_b4_b1.ne.symm).trans ((upd_ne _ _ n_b3_b1.ne.symm).trans ((upd_ne _ _ n_b2_b1.ne.symm).trans (upd_same _ _ _)))) _).trans ?_); exact rfl)) ?_
     refine Ops_quiet _ rfl rfl (QO.bin rfl rfl rfl rfl) ?_
     refine Ops_nil ?_
     refine thenA_n ?_
     refine wpA_cond rfl (fun g3 => ?_) (fun g3 => ?_)
     ·replace ho1 := cond_t ho1 g3
      refine wpA_skip ?_
      refine thenA_n ?_
      refine wpA_seq ?_
      refine wpA_block ?_
      refine wpA_seq ?_
      refine wpA_seq ?_
      refine wpA_region ?_
      refine Ops_quiet _ rfl rfl (QO.move rfl rfl) ?_
      refine Ops_quiet _ rfl rfl (QO.fieldAt (fo := 0) rfl sz81 rfl rfl sz79 rfl rfl) ?_
      have hq := chk ho1; clear ho1; obtain ⟨ck7, ho1⟩ := hq
      refine Ops_quiet _ rfl rfl (QO.idxArr rfl sz79 sz2 rfl rfl (by omega) (by omega)) ?_
      refine Ops_quiet _ rfl rfl (QO.load rfl sz2 rfl rfl (by (refine (rd_own ((upd_ne _ _ n_b4_b3.ne.symm).trans (upd_same _ _ _)) _).trans ?_); exact mpC_a (by omega))) ?_
      refine Ops_quiet _ rfl rfl (QO.bin rfl rfl rfl rfl) ?_
      refine Ops_nil ?_
      refine thenA_n ?_
      refine wpA_cond rfl (fun g4 => ?_) (fun g4 => ?_)
      ·replace ho1 := cond_t ho1 g4
       refine wpA_exit ?_
       refine thenA_e ?_
       refine blockA_s ?_
       refine thenA_n ?_
       refine wpA_region ?_
       refine Ops_quiet _ rfl rfl (QO.move rfl rfl) ?_
       refine Ops_quiet _ rfl rfl (QO.bin rfl rfl rfl rfl) ?_
       refine Ops_quiet _ rfl rfl (QO.assign rfl rfl) ?_
       refine Ops_nil ?_
       obtain rfl := Option.some.inj ho1
       dsimp only at hk1
       exact thenA_n ⟨k1, Nat.lt_succ_self _, _, _, _, hk1, (Sub.cons rfl (Sub.cons rfl (Sub.cons rfl (Sub.cons rfl (Sub.cons rfl (Sub.cons rfl (Sub.cons rfl Sub.nil))))))), (Le.upd_left (Le.upd_left (Le.upd_left (Le.upd_left (Le.under (Le.under (Le.under (Le.under (Le.refl _) hb1) hb2) hb3) hb4) ((upd_ne _ _ n_b4_b1.ne.symm).trans ((upd_ne _ _ n_b3_b1.ne.symm).trans ((upd_ne _ _ n_b2_b1.ne.symm).trans (upd_same _ _ _)))) (by first | rfl | (simp; done))) ((upd_ne _ _ n_b4_b2.ne.symm).trans ((upd_ne _ _ n_b3_b2.ne.symm).trans (upd_same _ _ _))) (by first | rfl | (simp; done))) ((upd_ne _ _ n_b4_b3.ne.symm).trans (upd_same _ _ _)) (by first | rfl | (simp; done))) (upd_same _ _ _) (by first | rfl | (simp; done)))⟩
      ·replace ho1 := cond_f ho1 g4
       refine wpA_skip ?_
       refine thenA_n ?_
       refine wpA_seq ?_
       refine wpA_any (upd (upd (upd (upd (h) b1 (.own 28 (sqC a0) 101)) b2 (.own 28 (sqC a1) 101)) b3 (.own 81 (mpC x2) 21)) b4 (.own 81 (mpC x3) 21)) [24, 25] [] (by kernel_rfl) (by kernel_rfl) (DW.start ?_)
       refine DW.readK' 0 _ rfl (by kernel_rfl) rfl (Le.upd_left (Le.upd_left (Le.upd_left (Le.upd_left (Le.under (Le.under (Le.under (Le.under (Le.refl _) hb1) hb2) hb3) hb4) ((upd_ne _ _ n_b4_b1.ne.symm).trans ((upd_ne _ _ n_b3_b1.ne.symm).trans ((upd_ne _ _ n_b2_b1.ne.symm).trans (upd_same _ _ _)))) (by first | rfl | (simp; done))) ((upd_ne _ _ n_b4_b2.ne.symm).trans ((upd_ne _ _ n_b3_b2.ne.symm).trans (upd_same _ _ _))) (by first | rfl | (simp; done))) ((upd_ne _ _ n_b4_b3.ne.symm).trans (upd_same _ _ _)) (by first | rfl | (simp; done))) (upd_same _ _ _) (by first | rfl | (simp; done))) (QO.loadRow (cs := sqC a0) (hr := (rdAll ((upd_ne _ _ n_b4_b1.ne.symm).trans ((upd_ne _ _ n_b3_b1.ne.symm).trans ((upd_ne _ _ n_b2_b1.ne.symm).trans (upd_same _ _ _)))))) rfl sz28 rfl rfl (sqC_length _)) ?_
       refine DW.readK' 1 _ rfl (by kernel_rfl) rfl (Le.upd_left (Le.upd_left (Le.upd_left (Le.upd_left (Le.under (Le.under (Le.under (Le.under (Le.refl _) hb1) hb2) hb3) hb4) ((upd_ne _ _ n_b4_b1.ne.symm).trans ((upd_ne _ _ n_b3_b1.ne.symm).trans ((upd_ne _ _ n_b2_b1.ne.symm).trans (upd_same _ _ _)))) (by first | rfl | (simp; done))) ((upd_ne _ _ n_b4_b2.ne.symm).trans ((upd_ne _ _ n_b3_b2.ne.symm).trans (upd_same _ _ _))) (by first | rfl | (simp; done))) ((upd_ne _ _ n_b4_b3.ne.symm).trans (upd_same _ _ _)) (by first | rfl | (simp; done))) (upd_same _ _ _) (by first | rfl | (simp; done))) (QO.loadRow (cs := sqC a1) (hr := (rdAll ((upd_ne _ _ n_b4_b2.ne.symm).trans ((upd_ne _ _ n_b3_b2.ne.symm).trans (upd_same _ _ _))))) rfl sz28 rfl rfl (sqC_length _)) ?_
       refine DW.readK' 2 _ rfl (by kernel_rfl) rfl (Le.upd_left (Le.upd_left (Le.upd_left (Le.upd_left (Le.under (Le.under (Le.under (Le.under (Le.refl _) hb1) hb2) hb3) hb4) ((upd_ne _ _ n_b4_b1.ne.symm).trans ((upd_ne _ _ n_b3_b1.ne.symm).trans ((upd_ne _ _ n_b2_b1.ne.symm).trans (upd_same _ _ _)))) (by first | rfl | (simp; done))) ((upd_ne _ _ n_b4_b2.ne.symm).trans ((upd_ne _ _ n_b3_b2.ne.symm).trans (upd_same _ _ _))) (by first | rfl | (simp; done))) ((upd_ne _ _ n_b4_b3.ne.symm).trans (upd_same _ _ _)) (by first | rfl | (simp; done))) (upd_same _ _ _) (by first | rfl | (simp; done))) (QO.loadRow (cs := mpC x2) (hr := (rdAll ((upd_ne _ _ n_b4_b3.ne.symm).trans (upd_same _ _ _)))) rfl sz81 rfl rfl (mpC_length _)) ?_
       refine DW.pure' 3 _ rfl (by kernel_rfl) rfl (fun _ => QO.move rfl rfl) ?_
       refine DW.pure' 4 _ rfl (by kernel_rfl) rfl (fun _ => QO.move rfl rfl) ?_
       refine DW.pure' 5 _ rfl (by kernel_rfl) rfl (fun _ => QO.fieldAt (fo := 1) rfl sz28 rfl rfl sz26 rfl rfl) ?_
       have hq := chk ho1; clear ho1; obtain ⟨ck8, ho1⟩ := hq
       refine DW.pure' 6 _ rfl (by kernel_rfl) rfl (fun _ => QO.idxArr rfl sz26 sz24 rfl rfl (by omega) (by omega)) ?_
       have hq := chk ho1; clear ho1; obtain ⟨ck9, ho1⟩ := hq
       refine DW.pure' 7 _ rfl (by kernel_rfl) rfl (fun _ => QO.idxArr rfl sz24 sz5 rfl rfl (by omega) (by omega)) ?_
       refine DW.readK' 8 _ rfl (by kernel_rfl) rfl (Le.upd_left (Le.upd_left (Le.upd_left (Le.upd_left (Le.under (Le.under (Le.under (Le.under (Le.refl _) hb1) hb2) hb3) hb4) ((upd_ne _ _ n_b4_b1.ne.symm).trans ((upd_ne _ _ n_b3_b1.ne.symm).trans ((upd_ne _ _ n_b2_b1.ne.symm).trans (upd_same _ _ _)))) (by first | rfl | (simp; done))) ((upd_ne _ _ n_b4_b2.ne.symm).trans ((upd_ne _ _ n_b3_b2.ne.symm).trans (upd_same _ _ _))) (by first | rfl | (simp; done))) ((upd_ne _ _ n_b4_b3.ne.symm).trans (upd_same _ _ _)) (by first | rfl | (simp; done))) (upd_same _ _ _) (by first | rfl | (simp; done))) (QO.load rfl sz5 rfl rfl (by (refine (rd_own ((upd_ne _ _ n_b4_b1.ne.symm).trans ((upd_ne _ _ n_b3_b1.ne.symm).trans ((upd_ne _ _ n_b2_b1.ne.symm).trans (upd_same _ _ _)))) _).trans ?_); exact sqC_get (by omega) (by omega))) ?_
       refine DW.pure' 9 _ rfl (by kernel_rfl) rfl (fun _ => QO.conv rfl sz5 sz2 rfl) ?_
       refine DW.pure' 10 _ rfl (by kernel_rfl) rfl (fun _ => QO.move rfl rfl) ?_
       refine DW.pure' 11 _ rfl (by kernel_rfl) rfl (fun _ => QO.move rfl rfl) ?_
       refine DW.pure' 12 _ rfl (by kernel_rfl) rfl (fun _ => QO.fieldAt (fo := 0) rfl sz81 rfl rfl sz79 rfl rfl) ?_
       have hq := chk ho1; clear ho1; obtain ⟨ck10, ho1⟩ := hq
       refine DW.pure' 13 _ rfl (by kernel_rfl) rfl (fun _ => QO.idxArr rfl sz79 sz2 rfl rfl (by omega) (by omega)) ?_
       refine DW.readK' 14 _ rfl (by kernel_rfl) rfl (Le.upd_left (Le.upd_left (Le.upd_left (Le.upd_left (Le.under (Le.under (Le.under (Le.under (Le.refl _) hb1) hb2) hb3) hb4) ((upd_ne _ _ n_b4_b1.ne.symm).trans ((upd_ne _ _ n_b3_b1.ne.symm).trans ((upd_ne _ _ n_b2_b1.ne.symm).trans (upd_same _ _ _)))) (by first | rfl | (simp; done))) ((upd_ne _ _ n_b4_b2.ne.symm).trans ((upd_ne _ _ n_b3_b2.ne.symm).trans (upd_same _ _ _))) (by first | rfl | (simp; done))) ((upd_ne _ _ n_b4_b3.ne.symm).trans (upd_same _ _ _)) (by first | rfl | (simp; done))) (upd_same _ _ _) (by first | rfl | (simp; done))) (QO.load rfl sz2 rfl rfl (by (refine (rd_own ((upd_ne _ _ n_b4_b3.ne.symm).trans (upd_same _ _ _)) _).trans ?_); exact mpC_a (by omega))) ?_
       refine DW.pure' 15 _ rfl (by kernel_rfl) rfl (fun _ => QO.fieldAt (fo := 1) rfl sz28 rfl rfl sz26 rfl rfl) ?_
       have hq := chk ho1; clear ho1; obtain ⟨ck11, ho1⟩ := hq
       refine DW.pure' 16 _ rfl (by kernel_rfl) rfl (fun _ => QO.idxArr rfl sz26 sz24 rfl rfl (by omega) (by omega)) ?_
       have hq := chk ho1; clear ho1; obtain ⟨ck12, ho1⟩ := hq
       refine DW.pure' 17 _ rfl (by kernel_rfl) rfl (fun _ => QO.idxArr rfl sz24 sz5 rfl rfl (by omega) (by omega)) ?_
       refine DW.readK' 18 _ rfl (by kernel_rfl) rfl (Le.upd_left (Le.upd_left (Le.upd_left (Le.upd_left (Le.under (Le.under (Le.under (Le.under (Le.refl _) hb1) hb2) hb3) hb4) ((upd_ne _ _ n_b4_b1.ne.symm).trans ((upd_ne _ _ n_b3_b1.ne.symm).trans ((upd_ne _ _ n_b2_b1.ne.symm).trans (upd_same _ _ _)))) (by first | rfl | (simp; done))) ((upd_ne _ _ n_b4_b2.ne.symm).trans ((upd_ne _ _ n_b3_b2.ne.symm).trans (upd_same _ _ _))) (by first | rfl | (simp; done))) ((upd_ne _ _ n_b4_b3.ne.symm).trans (upd_same _ _ _)) (by first | rfl | (simp; done))) (upd_same _ _ _) (by first | rfl | (simp; done))) (QO.load rfl sz5 rfl rfl (by (refine (rd_own ((upd_ne _ _ n_b4_b2.ne.symm).trans ((upd_ne _ _ n_b3_b2.ne.symm).trans (upd_same _ _ _))) _).trans ?_); exact sqC_get (by omega) (by omega))) ?_
       refine DW.pure' 19 _ rfl (by kernel_rfl) rfl (fun _ => QO.conv rfl sz5 sz2 rfl) ?_
       have hq := Option.bind_eq_some_iff.1 ho1; clear ho1; obtain ⟨r1, hr1, ho1⟩ := hq
       refine DW.qcallK' 20 _ _ _ rfl (by kernel_rfl) rfl (Le.upd_left (Le.upd_left (Le.upd_left (Le.upd_left (Le.under (Le.under (Le.under (Le.under (Le.refl _) hb1) hb2) hb3) hb4) ((upd_ne _ _ n_b4_b1.ne.symm).trans ((upd_ne _ _ n_b3_b1.ne.symm).trans ((upd_ne _ _ n_b2_b1.ne.symm).trans (upd_same _ _ _)))) (by first | rfl | (simp; done))) ((upd_ne _ _ n_b4_b2.ne.symm).trans ((upd_ne _ _ n_b3_b2.ne.symm).trans (upd_same _ _ _))) (by first | rfl | (simp; done))) ((upd_ne _ _ n_b4_b3.ne.symm).trans (upd_same _ _ _)) (by first | rfl | (simp; done))) (upd_same _ _ _) (by first | rfl | (simp; done))) (EO.fn rfl Try.func76 rfl rfl (Evs.cons rfl (Evs.cons rfl (Evs.cons rfl (Evs.cons rfl (Evs.cons rfl Evs.nil)))))) (hrec hr1 ) ?_
       refine DW.pure' 21 _ rfl (by kernel_rfl) rfl (fun _ => QO.move rfl rfl) ?_
       refine DW.pure' 22 _ rfl (by kernel_rfl) rfl (fun _ => QO.extract rfl rfl rfl) ?_
       refine DW.pure' 23 _ rfl (by kernel_rfl) rfl (fun _ => QO.extract rfl rfl rfl) ?_
       refine DW.loud 24 rfl (by kernel_rfl) rfl rfl (LO.alloc rfl zr81 rfl (fun b5 hb5 => ?_))
       simp only [upd_noneA] at hb5
       obtain ⟨n_b5_b4, n_b5_b3, n_b5_b2, n_b5_b1, hb5⟩ := hb5
       refine ⟨(fun _ => (Le.upd_left (Le.upd_left (Le.upd_left (Le.upd_left (Le.under (Le.under (Le.under (Le.under (Le.under (Le.refl _) hb1) hb2) hb3) hb4) hb5) ((upd_ne _ _ n_b5_b1.ne.symm).trans ((upd_ne _ _ n_b4_b1.ne.symm).trans ((upd_ne _ _ n_b3_b1.ne.symm).trans ((upd_ne _ _ n_b2_b1.ne.symm).trans (upd_same _ _ _))))) (by first | rfl | (simp; done))) ((upd_ne _ _ n_b5_b2.ne.symm).trans ((upd_ne _ _ n_b4_b2.ne.symm).trans ((upd_ne _ _ n_b3_b2.ne.symm).trans (upd_same _ _ _)))) (by first | rfl | (simp; done))) ((upd_ne _ _ n_b5_b3.ne.symm).trans ((upd_ne _ _ n_b4_b3.ne.symm).trans (upd_same _ _ _))) (by first | rfl | (simp; done))) ((upd_ne _ _ n_b5_b4.ne.symm).trans (upd_same _ _ _)) (by first | rfl | (simp; done)))), ?_⟩
       refine DW.loud 25 rfl (by kernel_rfl) rfl rfl (LO.storeAll (cs := mpC r1.1) rfl sz81 rfl rfl (mpC_one _) (mpC_length _) (upd_same _ _ _) (mpC_length _) Chg.here rfl ?_)
       refine ⟨(fun _ => (Le.upd_left (Le.upd_left (Le.upd_left (Le.upd_left (Le.under (Le.under (Le.under (Le.under (Le.under (Le.refl _) hb1) hb2) hb3) hb4) hb5) ((upd_ne _ _ n_b5_b1.ne.symm).trans ((upd_ne _ _ n_b4_b1.ne.symm).trans ((upd_ne _ _ n_b3_b1.ne.symm).trans ((upd_ne _ _ n_b2_b1.ne.symm).trans (upd_same _ _ _))))) (by first | rfl | (simp; done))) ((upd_ne _ _ n_b5_b2.ne.symm).trans ((upd_ne _ _ n_b4_b2.ne.symm).trans ((upd_ne _ _ n_b3_b2.ne.symm).trans (upd_same _ _ _)))) (by first | rfl | (simp; done))) ((upd_ne _ _ n_b5_b3.ne.symm).trans ((upd_ne _ _ n_b4_b3.ne.symm).trans (upd_same _ _ _))) (by first | rfl | (simp; done))) ((upd_ne _ _ n_b5_b4.ne.symm).trans (upd_same _ _ _)) (by first | rfl | (simp; done)))), ?_⟩
       refine DW.pure' 26 _ rfl (by kernel_rfl) rfl (fun _ => QO.assign rfl rfl) ?_
       refine DW.done (by kernel_rfl) ?_ _
       refine thenA_n ?_
       refine wpA_seq ?_
       refine wpA_seq ?_
       refine wpA_region ?_
       refine Ops_quiet _ rfl rfl (QO.move rfl rfl) ?_
       refine Ops_quiet _ rfl rfl (QO.not rfl rfl) ?_
       refine Ops_nil ?_
       refine thenA_n ?_
       refine wpA_cond rfl (fun g5 => ?_) (fun g5 => ?_)
       ·replace ho1 := cond_t ho1 g5
        refine wpA_seq ?_
        refine wpA_region ?_
        refine Ops_quiet _ rfl rfl (QO.loadRow (cs := mpC r1.1) (hr := (rdAll (upd_same _ _ _))) rfl sz81 rfl rfl (mpC_length _)) ?_
        refine Ops_loud rfl (LO.storeAll (cs := mpC r1.1) rfl sz81 rfl rfl (mpC_one _) (mpC_length _) ((upd_ne _ _ n_b5_b4.ne.symm).trans (upd_same _ _ _)) (mpC_length _) (Chg.there n_b5_b4.ne Chg.here) rfl ?_)
        refine Ops_quiet _ rfl rfl (QO.assign rfl rfl) ?_
        refine Ops_nil ?_
        refine thenA_n ?_
        refine wpA_ret ?_
        refine thenA_r ?_
        refine blockA_r ?_
        refine thenA_r ?_
        refine thenA_r ?_
        obtain rfl := Option.some.inj ho1
        obtain rfl := Option.some.inj hk1
        exact ⟨rfl, (Sub.cons rfl (Sub.cons rfl Sub.nil)), (Le.upd_left (Le.under (Le.under (Le.under (Le.under (Le.under (Le.refl _) hb1) hb2) hb3) hb4) hb5) ((upd_ne _ _ n_b5_b4.ne.symm).trans (upd_same _ _ _)) (by first | rfl | (simp; done)))⟩
       ·replace ho1 := cond_f ho1 g5
        refine wpA_skip ?_
        refine thenA_n ?_
        refine wpA_seq ?_
        refine wpA_any (upd (upd (upd (upd (upd (h) b1 (.own 28 (sqC a0) 101)) b2 (.own 28 (sqC a1) 101)) b3 (.own 81 (mpC x2) 21)) b4 (.own 81 (mpC x3) 21)) b5 (.own 81 (mpC r1.1) 21)) [24, 25] [] (by kernel_rfl) (by kernel_rfl) (DW.start ?_)
        refine DW.readK' 0 _ rfl (by kernel_rfl) rfl (Le.upd_left (Le.upd_left (Le.upd_left (Le.upd_left (Le.upd_left (Le.under (Le.under (Le.under (Le.under (Le.under (Le.refl _) hb1) hb2) hb3) hb4) hb5) ((upd_ne _ _ n_b5_b1.ne.symm).trans ((upd_ne _ _ n_b4_b1.ne.symm).trans ((upd_ne _ _ n_b3_b1.ne.symm).trans ((upd_ne _ _ n_b2_b1.ne.symm).trans (upd_same _ _ _))))) (by first | rfl | (simp; done))) ((upd_ne _ _ n_b5_b2.ne.symm).trans ((upd_ne _ _ n_b4_b2.ne.symm).trans ((upd_ne _ _ n_b3_b2.ne.symm).trans (upd_same _ _ _)))) (by first | rfl | (simp; done))) ((upd_ne _ _ n_b5_b3.ne.symm).trans ((upd_ne _ _ n_b4_b3.ne.symm).trans (upd_same _ _ _))) (by first | rfl | (simp; done))) ((upd_ne _ _ n_b5_b4.ne.symm).trans (upd_same _ _ _)) (by first | rfl | (simp; done))) (upd_same _ _ _) (by first | rfl | (simp; done))) (QO.loadRow (cs := sqC a0) (hr := (rdAll ((upd_ne _ _ n_b5_b1.ne.symm).trans ((upd_ne _ _ n_b4_b1.ne.symm).trans ((upd_ne _ _ n_b3_b1.ne.symm).trans ((upd_ne _ _ n_b2_b1.ne.symm).trans (upd_same _ _ _))))))) rfl sz28 rfl rfl (sqC_length _)) ?_
        refine DW.readK' 1 _ rfl (by kernel_rfl) rfl (Le.upd_left (Le.upd_left (Le.upd_left (Le.upd_left (Le.upd_left (Le.under (Le.under (Le.under (Le.under (Le.under (Le.refl _) hb1) hb2) hb3) hb4) hb5) ((upd_ne _ _ n_b5_b1.ne.symm).trans ((upd_ne _ _ n_b4_b1.ne.symm).trans ((upd_ne _ _ n_b3_b1.ne.symm).trans ((upd_ne _ _ n_b2_b1.ne.symm).trans (upd_same _ _ _))))) (by first | rfl | (simp; done))) ((upd_ne _ _ n_b5_b2.ne.symm).trans ((upd_ne _ _ n_b4_b2.ne.symm).trans ((upd_ne _ _ n_b3_b2.ne.symm).trans (upd_same _ _ _)))) (by first | rfl | (simp; done))) ((upd_ne _ _ n_b5_b3.ne.symm).trans ((upd_ne _ _ n_b4_b3.ne.symm).trans (upd_same _ _ _))) (by first | rfl | (simp; done))) ((upd_ne _ _ n_b5_b4.ne.symm).trans (upd_same _ _ _)) (by first | rfl | (simp; done))) (upd_same _ _ _) (by first | rfl | (simp; done))) (QO.loadRow (cs := sqC a1) (hr := (rdAll ((upd_ne _ _ n_b5_b2.ne.symm).trans ((upd_ne _ _ n_b4_b2.ne.symm).trans ((upd_ne _ _ n_b3_b2.ne.symm).trans (upd_same _ _ _)))))) rfl sz28 rfl rfl (sqC_length _)) ?_
        refine DW.readK' 2 _ rfl (by kernel_rfl) rfl (Le.upd_left (Le.upd_left (Le.upd_left (Le.upd_left (Le.upd_left (Le.under (Le.under (Le.under (Le.under (Le.under (Le.refl _) hb1) hb2) hb3) hb4) hb5) ((upd_ne _ _ n_b5_b1.ne.symm).trans ((upd_ne _ _ n_b4_b1.ne.symm).trans ((upd_ne _ _ n_b3_b1.ne.symm).trans ((upd_ne _ _ n_b2_b1.ne.symm).trans (upd_same _ _ _))))) (by first | rfl | (simp; done))) ((upd_ne _ _ n_b5_b2.ne.symm).trans ((upd_ne _ _ n_b4_b2.ne.symm).trans ((upd_ne _ _ n_b3_b2.ne.symm).trans (upd_same _ _ _)))) (by first | rfl | (simp; done))) ((upd_ne _ _ n_b5_b3.ne.symm).trans ((upd_ne _ _ n_b4_b3.ne.symm).trans (upd_same _ _ _))) (by first | rfl | (simp; done))) ((upd_ne _ _ n_b5_b4.ne.symm).trans (upd_same _ _ _)) (by first | rfl | (simp; done))) (upd_same _ _ _) (by first | rfl | (simp; done))) (QO.loadRow (cs := mpC r1.1) (hr := (rdAll (upd_same _ _ _))) rfl sz81 rfl rfl (mpC_length _)) ?_
        refine DW.pure' 3 _ rfl (by kernel_rfl) rfl (fun _ => QO.move rfl rfl) ?_
        refine DW.pure' 4 _ rfl (by kernel_rfl) rfl (fun _ => QO.move rfl rfl) ?_
        refine DW.pure' 5 _ rfl (by kernel_rfl) rfl (fun _ => QO.fieldAt (fo := 1) rfl sz28 rfl rfl sz26 rfl rfl) ?_
        have hq := chk ho1; clear ho1; obtain ⟨ck13, ho1⟩ := hq
        refine DW.pure' 6 _ rfl (by kernel_rfl) rfl (fun _ => QO.idxArr rfl sz26 sz24 rfl rfl (by omega) (by omega)) ?_
        have hq := chk ho1; clear ho1; obtain ⟨ck14, ho1⟩ := hq
        refine DW.pure' 7 _ rfl (by kernel_rfl) rfl (fun _ => QO.idxArr rfl sz24 sz5 rfl rfl (by omega) (by omega)) ?_
        refine DW.readK' 8 _ rfl (by kernel_rfl) rfl (Le.upd_left (Le.upd_left (Le.upd_left (Le.upd_left (Le.upd_left (Le.under (Le.under (Le.under (Le.under (Le.under (Le.refl _) hb1) hb2) hb3) hb4) hb5) ((upd_ne _ _ n_b5_b1.ne.symm).trans ((upd_ne _ _ n_b4_b1.ne.symm).trans ((upd_ne _ _ n_b3_b1.ne.symm).trans ((upd_ne _ _ n_b2_b1.ne.symm).trans (upd_same _ _ _))))) (by first | rfl | (simp; done))) ((upd_ne _ _ n_b5_b2.ne.symm).trans ((upd_ne _ _ n_b4_b2.ne.symm).trans ((upd_ne _ _ n_b3_b2.ne.symm).trans (upd_same _ _ _)))) (by first | rfl | (simp; done))) ((upd_ne _ _ n_b5_b3.ne.symm).trans ((upd_ne _ _ n_b4_b3.ne.symm).trans (upd_same _ _ _))) (by first | rfl | (simp; done))) ((upd_ne _ _ n_b5_b4.ne.symm).trans (upd_same _ _ _)) (by first | rfl | (simp; done))) (upd_same _ _ _) (by first | rfl | (simp; done))) (QO.load rfl sz5 rfl rfl (by (refine (rd_own ((upd_ne _ _ n_b5_b1.ne.symm).trans ((upd_ne _ _ n_b4_b1.ne.symm).trans ((upd_ne _ _ n_b3_b1.ne.symm).trans ((upd_ne _ _ n_b2_b1.ne.symm).trans (upd_same _ _ _))))) _).trans ?_); exact sqC_get (by omega) (by omega))) ?_
        refine DW.pure' 9 _ rfl (by kernel_rfl) rfl (fun _ => QO.conv rfl sz5 sz2 rfl) ?_
        refine DW.pure' 10 _ rfl (by kernel_rfl) rfl (fun _ => QO.move rfl rfl) ?_
        refine DW.pure' 11 _ rfl (by kernel_rfl) rfl (fun _ => QO.fieldAt (fo := 0) rfl sz81 rfl rfl sz79 rfl rfl) ?_
        have hq := chk ho1; clear ho1; obtain ⟨ck15, ho1⟩ := hq
        refine DW.pure' 12 _ rfl (by kernel_rfl) rfl (fun _ => QO.idxArr rfl sz79 sz2 rfl rfl (by omega) (by omega)) ?_
        refine DW.readK' 13 _ rfl (by kernel_rfl) rfl (Le.upd_left (Le.upd_left (Le.upd_left (Le.upd_left (Le.upd_left (Le.under (Le.under (Le.under (Le.under (Le.under (Le.refl _) hb1) hb2) hb3) hb4) hb5) ((upd_ne _ _ n_b5_b1.ne.symm).trans ((upd_ne _ _ n_b4_b1.ne.symm).trans ((upd_ne _ _ n_b3_b1.ne.symm).trans ((upd_ne _ _ n_b2_b1.ne.symm).trans (upd_same _ _ _))))) (by first | rfl | (simp; done))) ((upd_ne _ _ n_b5_b2.ne.symm).trans ((upd_ne _ _ n_b4_b2.ne.symm).trans ((upd_ne _ _ n_b3_b2.ne.symm).trans (upd_same _ _ _)))) (by first | rfl | (simp; done))) ((upd_ne _ _ n_b5_b3.ne.symm).trans ((upd_ne _ _ n_b4_b3.ne.symm).trans (upd_same _ _ _))) (by first | rfl | (simp; done))) ((upd_ne _ _ n_b5_b4.ne.symm).trans (upd_same _ _ _)) (by first | rfl | (simp; done))) (upd_same _ _ _) (by first | rfl | (simp; done))) (QO.load rfl sz2 rfl rfl (by (refine (rd_own ((upd_ne _ _ n_b5_b3.ne.symm).trans ((upd_ne _ _ n_b4_b3.ne.symm).trans (upd_same _ _ _))) _).trans ?_); exact mpC_a (by omega))) ?_
        refine DW.pure' 14 _ rfl (by kernel_rfl) rfl (fun _ => QO.move rfl rfl) ?_
        refine DW.pure' 15 _ rfl (by kernel_rfl) rfl (fun _ => QO.fieldAt (fo := 1) rfl sz28 rfl rfl sz26 rfl rfl) ?_
        have hq := chk ho1; clear ho1; obtain ⟨ck16, ho1⟩ := hq
        refine DW.pure' 16 _ rfl (by kernel_rfl) rfl (fun _ => QO.idxArr rfl sz26 sz24 rfl rfl (by omega) (by omega)) ?_
        have hq := chk ho1; clear ho1; obtain ⟨ck17, ho1⟩ := hq
        refine DW.pure' 17 _ rfl (by kernel_rfl) rfl (fun _ => QO.idxArr rfl sz24 sz5 rfl rfl (by omega) (by omega)) ?_
        refine DW.readK' 18 _ rfl (by kernel_rfl) rfl (Le.upd_left (Le.upd_left (Le.upd_left (Le.upd_left (Le.upd_left (Le.under (Le.under (Le.under (Le.under (Le.under (Le.refl _) hb1) hb2) hb3) hb4) hb5) ((upd_ne _ _ n_b5_b1.ne.symm).trans ((upd_ne _ _ n_b4_b1.ne.symm).trans ((upd_ne _ _ n_b3_b1.ne.symm).trans ((upd_ne _ _ n_b2_b1.ne.symm).trans (upd_same _ _ _))))) (by first | rfl | (simp; done))) ((upd_ne _ _ n_b5_b2.ne.symm).trans ((upd_ne _ _ n_b4_b2.ne.symm).trans ((upd_ne _ _ n_b3_b2.ne.symm).trans (upd_same _ _ _)))) (by first | rfl | (simp; done))) ((upd_ne _ _ n_b5_b3.ne.symm).trans ((upd_ne _ _ n_b4_b3.ne.symm).trans (upd_same _ _ _))) (by first | rfl | (simp; done))) ((upd_ne _ _ n_b5_b4.ne.symm).trans (upd_same _ _ _)) (by first | rfl | (simp; done))) (upd_same _ _ _) (by first | rfl | (simp; done))) (QO.load rfl sz5 rfl rfl (by (refine (rd_own ((upd_ne _ _ n_b5_b2.ne.symm).trans ((upd_ne _ _ n_b4_b2.ne.symm).trans ((upd_ne _ _ n_b3_b2.ne.symm).trans (upd_same _ _ _)))) _).trans ?_); exact sqC_get (by omega) (by omega))) ?_
        refine DW.pure' 19 _ rfl (by kernel_rfl) rfl (fun _ => QO.conv rfl sz5 sz2 rfl) ?_
        have hq := Option.bind_eq_some_iff.1 ho1; clear ho1; obtain ⟨r2, hr2, ho1⟩ := hq
        refine DW.qcallK' 20 _ _ _ rfl (by kernel_rfl) rfl (Le.upd_left (Le.upd_left (Le.upd_left (Le.upd_left (Le.upd_left (Le.under (Le.under (Le.under (Le.under (Le.under (Le.refl _) hb1) hb2) hb3) hb4) hb5) ((upd_ne _ _ n_b5_b1.ne.symm).trans ((upd_ne _ _ n_b4_b1.ne.symm).trans ((upd_ne _ _ n_b3_b1.ne.symm).trans ((upd_ne _ _ n_b2_b1.ne.symm).trans (upd_same _ _ _))))) (by first | rfl | (simp; done))) ((upd_ne _ _ n_b5_b2.ne.symm).trans ((upd_ne _ _ n_b4_b2.ne.symm).trans ((upd_ne _ _ n_b3_b2.ne.symm).trans (upd_same _ _ _)))) (by first | rfl | (simp; done))) ((upd_ne _ _ n_b5_b3.ne.symm).trans ((upd_ne _ _ n_b4_b3.ne.symm).trans (upd_same _ _ _))) (by first | rfl | (simp; done))) ((upd_ne _ _ n_b5_b4.ne.symm).trans (upd_same _ _ _)) (by first | rfl | (simp; done))) (upd_same _ _ _) (by first | rfl | (simp; done))) (EO.fn rfl Try.func76 rfl rfl (Evs.cons rfl (Evs.cons rfl (Evs.cons rfl (Evs.cons rfl (Evs.cons rfl Evs.nil)))))) (hrec hr2 ) ?_
        refine DW.pure' 21 _ rfl (by kernel_rfl) rfl (fun _ => QO.move rfl rfl) ?_
        refine DW.pure' 22 _ rfl (by kernel_rfl) rfl (fun _ => QO.extract rfl rfl rfl) ?_
        refine DW.pure' 23 _ rfl (by kernel_rfl) rfl (fun _ => QO.extract rfl rfl rfl) ?_
        refine DW.loud 24 rfl (by kernel_rfl) rfl rfl (LO.alloc rfl zr81 rfl (fun b6 hb6 => ?_))
        simp only [upd_noneA] at hb6
        obtain ⟨n_b6_b5, n_b6_b4, n_b6_b3, n_b6_b2, n_b6_b1, hb6⟩ := hb6
        refine ⟨(fun _ => (Le.upd_left (Le.upd_left (Le.upd_left (Le.upd_left (Le.upd_left (Le.under (Le.under (Le.under (Le.under (Le.under (Le.under (Le.refl _) hb1) hb2) hb3) hb4) hb5) hb6) ((upd_ne _ _ n_b6_b1.ne.symm).trans ((upd_ne _ _ n_b5_b1.ne.symm).trans ((upd_ne _ _ n_b4_b1.ne.symm).trans ((upd_ne _ _ n_b3_b1.ne.symm).trans ((upd_ne _ _ n_b2_b1.ne.symm).trans (upd_same _ _ _)))))) (by first | rfl | (simp; done))) ((upd_ne _ _ n_b6_b2.ne.symm).trans ((upd_ne _ _ n_b5_b2.ne.symm).trans ((upd_ne _ _ n_b4_b2.ne.symm).trans ((upd_ne _ _ n_b3_b2.ne.symm).trans (upd_same _ _ _))))) (by first | rfl | (simp; done))) ((upd_ne _ _ n_b6_b3.ne.symm).trans ((upd_ne _ _ n_b5_b3.ne.symm).trans ((upd_ne _ _ n_b4_b3.ne.symm).trans (upd_same _ _ _)))) (by first | rfl | (simp; done))) ((upd_ne _ _ n_b6_b4.ne.symm).trans ((upd_ne _ _ n_b5_b4.ne.symm).trans (upd_same _ _ _))) (by first | rfl | (simp; done))) ((upd_ne _ _ n_b6_b5.ne.symm).trans (upd_same _ _ _)) (by first | rfl | (simp; done)))), ?_⟩
        refine DW.loud 25 rfl (by kernel_rfl) rfl rfl (LO.storeAll (cs := mpC r2.1) rfl sz81 rfl rfl (mpC_one _) (mpC_length _) (upd_same _ _ _) (mpC_length _) Chg.here rfl ?_)
        refine ⟨(fun _ => (Le.upd_left (Le.upd_left (Le.upd_left (Le.upd_left (Le.upd_left (Le.under (Le.under (Le.under (Le.under (Le.under (Le.under (Le.refl _) hb1) hb2) hb3) hb4) hb5) hb6) ((upd_ne _ _ n_b6_b1.ne.symm).trans ((upd_ne _ _ n_b5_b1.ne.symm).trans ((upd_ne _ _ n_b4_b1.ne.symm).trans ((upd_ne _ _ n_b3_b1.ne.symm).trans ((upd_ne _ _ n_b2_b1.ne.symm).trans (upd_same _ _ _)))))) (by first | rfl | (simp; done))) ((upd_ne _ _ n_b6_b2.ne.symm).trans ((upd_ne _ _ n_b5_b2.ne.symm).trans ((upd_ne _ _ n_b4_b2.ne.symm).trans ((upd_ne _ _ n_b3_b2.ne.symm).trans (upd_same _ _ _))))) (by first | rfl | (simp; done))) ((upd_ne _ _ n_b6_b3.ne.symm).trans ((upd_ne _ _ n_b5_b3.ne.symm).trans ((upd_ne _ _ n_b4_b3.ne.symm).trans (upd_same _ _ _)))) (by first | rfl | (simp; done))) ((upd_ne _ _ n_b6_b4.ne.symm).trans ((upd_ne _ _ n_b5_b4.ne.symm).trans (upd_same _ _ _))) (by first | rfl | (simp; done))) ((upd_ne _ _ n_b6_b5.ne.symm).trans (upd_same _ _ _)) (by first | rfl | (simp; done)))), ?_⟩
        refine DW.pure' 26 _ rfl (by kernel_rfl) rfl (fun _ => QO.assign rfl rfl) ?_
        refine DW.done (by kernel_rfl) ?_ _
        refine thenA_n ?_
        refine wpA_weaken (show Abs.Sub _ [(3, .int .i64 a3), (4, .int .i64 a4), (5, .pointer (some ⟨b1, 0, none⟩)), (6, .pointer (some ⟨b2, 0, none⟩)), (7, .pointer (some ⟨b3, 0, none⟩)), (10, .pointer (some ⟨b4, 0, none⟩)), (12, .int .i64 x1), (15, .pointer (some ⟨b6, 0, none⟩)), (16, .bool r2.2)] from (Sub.cons rfl (Sub.cons rfl (Sub.cons rfl (Sub.cons rfl (Sub.cons rfl (Sub.cons rfl (Sub.cons rfl (Sub.cons rfl (Sub.cons rfl (Sub.nil))))))))))).ok (Le.refl _) ?_
        refine wpA_seq ?_
        refine wpA_seq ?_
        refine wpA_region ?_
        refine Ops_quiet _ rfl rfl (QO.move rfl rfl) ?_
        refine Ops_quiet _ rfl rfl (QO.not rfl rfl) ?_
        refine Ops_nil ?_
        refine thenA_n ?_
        refine wpA_cond rfl (fun g6 => ?_) (fun g6 => ?_)
        ·replace ho1 := cond_t ho1 g6
         refine wpA_seq ?_
         refine wpA_region ?_
         refine Ops_quiet _ rfl rfl (QO.loadRow (cs := mpC r2.1) (hr := (rdAll (upd_same _ _ _))) rfl sz81 rfl rfl (mpC_length _)) ?_
         refine Ops_loud rfl (LO.storeAll (cs := mpC r2.1) rfl sz81 rfl rfl (mpC_one _) (mpC_length _) ((upd_ne _ _ n_b6_b4.ne.symm).trans ((upd_ne _ _ n_b5_b4.ne.symm).trans (upd_same _ _ _))) (mpC_length _) (Chg.there n_b6_b4.ne (Chg.there n_b5_b4.ne Chg.here)) rfl ?_)
         refine Ops_quiet _ rfl rfl (QO.assign rfl rfl) ?_
         refine Ops_nil ?_
         refine thenA_n ?_
         refine wpA_ret ?_
         refine thenA_r ?_
         refine blockA_r ?_
         refine thenA_r ?_
         refine thenA_r ?_
         obtain rfl := Option.some.inj ho1
         obtain rfl := Option.some.inj hk1
         exact ⟨rfl, (Sub.cons rfl (Sub.cons rfl Sub.nil)), (Le.upd_left (Le.under (Le.under (Le.under (Le.under (Le.under (Le.under (Le.refl _) hb1) hb2) hb3) hb4) hb5) hb6) ((upd_ne _ _ n_b6_b4.ne.symm).trans ((upd_ne _ _ n_b5_b4.ne.symm).trans (upd_same _ _ _))) (by first | rfl | (simp; done)))⟩
        ·replace ho1 := cond_f ho1 g6
         refine wpA_skip ?_
         refine thenA_n ?_
         refine wpA_region ?_
         refine Ops_quiet _ rfl rfl (QO.loadRow (cs := mpC r2.1) (hr := (rdAll (upd_same _ _ _))) rfl sz81 rfl rfl (mpC_length _)) ?_
         refine Ops_loud rfl (LO.storeAll (cs := mpC r2.1) rfl sz81 rfl rfl (mpC_one _) (mpC_length _) ((upd_ne _ _ n_b6_b3.ne.symm).trans ((upd_ne _ _ n_b5_b3.ne.symm).trans ((upd_ne _ _ n_b4_b3.ne.symm).trans (upd_same _ _ _)))) (mpC_length _) (Chg.there n_b6_b3.ne (Chg.there n_b5_b3.ne (Chg.there n_b4_b3.ne Chg.here))) rfl ?_)
         refine Ops_nil ?_
         refine blockA_n ?_
         refine thenA_n ?_
         refine wpA_region ?_
         refine Ops_quiet _ rfl rfl (QO.move rfl rfl) ?_
         refine Ops_quiet _ rfl rfl (QO.bin rfl rfl rfl rfl) ?_
         refine Ops_quiet _ rfl rfl (QO.assign rfl rfl) ?_
         refine Ops_nil ?_
         obtain rfl := Option.some.inj ho1
         dsimp only at hk1
         exact thenA_n ⟨k1, Nat.lt_succ_self _, _, _, _, hk1, (Sub.cons rfl (Sub.cons rfl (Sub.cons rfl (Sub.cons rfl (Sub.cons rfl (Sub.cons rfl (Sub.cons rfl Sub.nil))))))), (Le.upd_left (Le.upd_left (Le.upd_left (Le.upd_left (Le.under (Le.under (Le.under (Le.under (Le.under (Le.under (Le.refl _) hb1) hb2) hb3) hb4) hb5) hb6) ((upd_ne _ _ n_b6_b1.ne.symm).trans ((upd_ne _ _ n_b5_b1.ne.symm).trans ((upd_ne _ _ n_b4_b1.ne.symm).trans ((upd_ne _ _ n_b3_b1.ne.symm).trans ((upd_ne _ _ n_b2_b1.ne.symm).trans (upd_same _ _ _)))))) (by first | rfl | (simp; done))) ((upd_ne _ _ n_b6_b2.ne.symm).trans ((upd_ne _ _ n_b5_b2.ne.symm).trans ((upd_ne _ _ n_b4_b2.ne.symm).trans ((upd_ne _ _ n_b3_b2.ne.symm).trans (upd_same _ _ _))))) (by first | rfl | (simp; done))) ((upd_ne _ _ n_b6_b3.ne.symm).trans ((upd_ne _ _ n_b5_b3.ne.symm).trans ((upd_ne _ _ n_b4_b3.ne.symm).trans (upd_same _ _ _)))) (by first | rfl | (simp; done))) ((upd_ne _ _ n_b6_b4.ne.symm).trans ((upd_ne _ _ n_b5_b4.ne.symm).trans (upd_same _ _ _))) (by first | rfl | (simp; done)))⟩
     ·replace ho1 := cond_f ho1 g3
      refine wpA_exit ?_
      refine thenA_e ?_
      refine thenA_e ?_
      obtain rfl := Option.some.inj ho1
      obtain rfl := Option.some.inj hk1
      exact ⟨rfl, _, _, _, rfl, (Sub.cons rfl (Sub.cons rfl (Sub.cons rfl (Sub.cons rfl (Sub.cons rfl (Sub.cons rfl (Sub.cons rfl Sub.nil))))))), (Le.upd_left (Le.upd_left (Le.upd_left (Le.upd_left (Le.under (Le.under (Le.under (Le.under (Le.refl _) hb1) hb2) hb3) hb4) ((upd_ne _ _ n_b4_b1.ne.symm).trans ((upd_ne _ _ n_b3_b1.ne.symm).trans ((upd_ne _ _ n_b2_b1.ne.symm).trans (upd_same _ _ _)))) (by first | rfl | (simp; done))) ((upd_ne _ _ n_b4_b2.ne.symm).trans ((upd_ne _ _ n_b3_b2.ne.symm).trans (upd_same _ _ _))) (by first | rfl | (simp; done))) ((upd_ne _ _ n_b4_b3.ne.symm).trans (upd_same _ _ _)) (by first | rfl | (simp; done))) (upd_same _ _ _) (by first | rfl | (simp; done)))⟩
   ·intro e s' h' hq
    cases R1 with
    | next x => exact hq.elim
    | ret r =>
     obtain ⟨rfl, hsub1, hle1⟩ := hq
     try dsimp only at hm
     refine blockA_r ?_
     refine thenA_r ?_
     obtain rfl := Option.some.inj hm
     refine retA_sub hsub1.ok hle1 ?_
     exact retA_r (h2 := h) (Res.two rfl (res1.row (cs := mpC r.1) (hr := (rdAll (upd_same _ _ _))) sz81 rfl rfl (mpC_length _)) (rfl)) (Le.under (Le.refl _) hb4) ⟨rfl, rfl⟩
    | stop x id =>
     obtain ⟨rfl, x4, x5, x6, rfl, hsub2, hle2⟩ := hq
     try dsimp only at hm
     by_cases hid1 : id = 0
     ·subst hid1
      rw [if_pos rfl] at hm
      refine blockA_s ?_
      refine thenA_n ?_
      refine wpA_weaken hsub2.ok hle2 ?_
      refine wpA_seq ?_
      refine wpA_region ?_
      refine Ops_quiet _ rfl rfl (QO.loadRow (cs := mpC x5) (hr := (rdAll ((upd_ne _ _ n_b4_b3.ne.symm).trans (upd_same _ _ _)))) rfl sz81 rfl rfl (mpC_length _)) ?_
      refine Ops_loud rfl (LO.storeAll (cs := mpC x5) rfl sz81 rfl rfl (mpC_one _) (mpC_length _) (upd_same _ _ _) (mpC_length _) Chg.here rfl ?_)
      refine Ops_quiet _ rfl rfl (QO.assign rfl rfl) ?_
      refine Ops_nil ?_
      refine thenA_n ?_
      refine wpA_ret ?_
      obtain rfl := Option.some.inj hm
      exact retA_r (h2 := h) (Res.two rfl (res1.row (cs := mpC x5) (hr := (rdAll (upd_same _ _ _))) sz81 rfl rfl (mpC_length _)) (rfl)) (Le.under (Le.under (Le.under (Le.under (Le.refl _) hb1) hb2) hb3) hb4) ⟨rfl, rfl⟩
     rw [if_neg hid1] at hm
     exact absurd hm (by simp)
theorem c_spec_l02Close_w (k : Nat) : ∀ {a0 : Sq} {a1 : Sq} {a2 : Mp} {a3 : Int} {a4 : Int} {h : Hp} {r : Mp × Bool} (hm : m_spec_l02Close_w k a0 a1 a2 a3 a4 = some r) , QC Try.prog 76 #[.agg (sqC a0).toArray, .agg (sqC a1).toArray, .agg (mpC a2).toArray, .int .i64 a3, .int .i64 a4] h (.tuple #[.agg (mpC r.1).toArray, .bool r.2]) := by
 induction k with
 | zero => intros; simp [m_spec_l02Close_w] at *
 | succ k ih => exact c_spec_l02Close_b ih
theorem c_spec_l02Close {a0 : Sq} {a1 : Sq} {a2 : Mp} {a3 : Int} {a4 : Int} {h : Hp} {r : Mp × Bool} (hm : m_spec_l02Close a0 a1 a2 a3 a4 = some r)  :
    QC Try.prog 76 #[.agg (sqC a0).toArray, .agg (sqC a1).toArray, .agg (mpC a2).toArray, .int .i64 a3, .int .i64 a4] h (.tuple #[.agg (mpC r.1).toArray, .bool r.2]) := c_spec_l02Close_w 1000 hm 

/-! loop.example/g01195/spec.l02Maps -/
theorem c_spec_l02Maps_b {rec : Sq → Sq → Mp → Int → (List (Nat → Int)) → Option (List (Nat → Int))} (hrec : ∀ {a0 : Sq} {a1 : Sq} {a2 : Mp} {a3 : Int} {l4 : (List (Nat → Int))} {B4 : Option Nat} {c4 : Nat} {h : Hp} {r : (List (Nat → Int))} (hm : rec a0 a1 a2 a3 l4 = some r) (hB4 : FrO h B4) (ho_B4 : OkO B4 l4.length c4), CC Try.prog 61 #[.agg (sqC a0).toArray, .agg (sqC a1).toArray, .agg (mpC a2).toArray, .int .i64 a3, .slice (adO B4) l4.length c4] (updO (h) B4 (.own 29 (plsC l4) (c4 * 10))) (fun v h' => ∃ (b0 : Option Nat) (cap0 : Nat), FrO (h) b0 ∧ OkO b0 r.length cap0 ∧ v = .slice (adO b0) r.length cap0 ∧ h' = updO (h) b0 (.own 29 (plsC r) (cap0 * 10)))) {a0 : Sq} {a1 : Sq} {a2 : Mp} {a3 : Int} {l4 : (List (Nat → Int))} {B4 : Option Nat} {c4 : Nat} {h : Hp} {r : (List (Nat → Int))} (hm : m_spec_l02Maps_b rec a0 a1 a2 a3 l4 = some r) (hB4 : FrO h B4) (ho_B4 : OkO B4 l4.length c4) :
    CC Try.prog 61 #[.agg (sqC a0).toArray, .agg (sqC a1).toArray, .agg (mpC a2).toArray, .int .i64 a3, .slice (adO B4) l4.length c4] (updO (h) B4 (.own 29 (plsC l4) (c4 * 10))) (fun v h' => ∃ (b0 : Option Nat) (cap0 : Nat), FrO (h) b0 ∧ OkO b0 r.length cap0 ∧ v = .slice (adO b0) r.length cap0 ∧ h' = updO (h) b0 (.own 29 (plsC r) (cap0 * 10))) := by
 unfold m_spec_l02Maps_b at hm
 refine CC.enter Try.func61 rfl Try.ntmps61 rfl ?_
 refine wpA_seq ?_
 refine wpA_region ?_
 refine Ops_loud rfl (LO.boxAgg rfl rfl rfl (fun b1 hb1 => ?_))
 simp only [upd_noneA, updO_noneA] at hb1
 obtain ⟨n_b1_B4, hb1⟩ := hb1
 refine Ops_loud rfl (LO.boxAgg rfl rfl rfl (fun b2 hb2 => ?_))
 simp only [upd_noneA, updO_noneA] at hb2
 obtain ⟨n_b2_b1, n_b2_B4, hb2⟩ := hb2
 refine Ops_loud rfl (LO.boxAgg rfl rfl rfl (fun b3 hb3 => ?_))
 simp only [upd_noneA, updO_noneA] at hb3
 obtain ⟨n_b3_b2, n_b3_b1, n_b3_B4, hb3⟩ := hb3
 refine Ops_quiet _ rfl rfl (QO.assign rfl rfl) ?_
 refine Ops_nil ?_
 refine thenA_n ?_
 refine wpA_seq ?_
 refine wpA_seq ?_
 refine wpA_region ?_
 refine Ops_quiet _ rfl rfl (QO.fieldAt (fo := 20) rfl sz81 rfl rfl sz2 rfl rfl) ?_
 refine Ops_quiet _ rfl rfl (QO.load rfl sz2 rfl rfl (by (refine (rd_own (upd_same _ _ _) _).trans ?_); exact mpC_n)) ?_
 refine Ops_quiet _ rfl rfl (QO.fieldAt (fo := 0) rfl sz28 rfl rfl sz2 rfl rfl) ?_
 refine Ops_quiet _ rfl rfl (QO.load rfl sz2 rfl rfl (by (refine (rd_own ((upd_ne _ _ n_b3_b1.ne.symm).trans ((upd_ne _ _ n_b2_b1.ne.symm).trans (upd_same _ _ _))) _).trans ?_); exact rfl)) ?_
 refine Ops_quiet _ rfl rfl (QO.bin rfl rfl rfl rfl) ?_
 refine Ops_nil ?_
 refine thenA_n ?_
 refine wpA_cond rfl (fun g1 => ?_) (fun g1 => ?_)
 ·replace hm := cond_t hm g1
  refine wpA_seq ?_
  refine wpA_region ?_
  refine Ops_quiet _ rfl rfl (QO.move rfl rfl) ?_
  refine Ops_quiet _ rfl rfl (QO.loadRow (cs := mpC a2) (hr := (rdAll (upd_same _ _ _))) rfl sz81 rfl rfl (mpC_length _)) ?_
  refine Ops_quiet _ rfl rfl (QO.fieldAt (fo := 0) rfl sz28 rfl rfl sz2 rfl rfl) ?_
  refine Ops_quiet _ rfl rfl (QO.load rfl sz2 rfl rfl (by (refine (rd_own ((upd_ne _ _ n_b3_b1.ne.symm).trans ((upd_ne _ _ n_b2_b1.ne.symm).trans (upd_same _ _ _))) _).trans ?_); exact rfl)) ?_
  have hq := Option.bind_eq_some_iff.1 hm; clear hm; obtain ⟨r1, hr1, hm⟩ := hq
  refine Ops_call _ _ rfl rfl (EO.fn rfl Try.func75 rfl rfl (Evs.cons rfl (Evs.cons rfl Evs.nil))) (QC.cc (c_spec_l02Places hr1 ) ?_)
  refine Ops_loud rfl (LO.slice1 (r := plsC [r1]) rfl sz59 sz29 zr29 (by first | rfl | (simp [mpC_length, sqC_length, tbC_length, tabI_length, tabB_length, ints_length, plsC_length, trC_length, sqsC_length, strsC_length, boolsC_length, tbB_length, List.length_append, List.length_cons, List.length_nil, List.length_set, List.length_replicate, rep_length]; done)) (by decide) (by decide) rfl (by simp [plsC, sqsC, Value.cells]) (by first | rfl | (simp [mpC_length, sqC_length, tbC_length, tabI_length, tabB_length, ints_length, plsC_length, trC_length, sqsC_length, strsC_length, boolsC_length, tbB_length, List.length_append, List.length_cons, List.length_nil, List.length_set, List.length_replicate, rep_length]; done)) rfl (fun b4 hb4 => ?_))
  simp only [upd_noneA, updO_noneA] at hb4
  obtain ⟨n_b4_b3, n_b4_b2, n_b4_b1, n_b4_B4, hb4⟩ := hb4
  have hq := chk hm; clear hm; obtain ⟨ck1, hm⟩ := hq
  refine Ops_loud rfl (LO.appendO (xs := plsC l4) (ys := plsC [r1]) (k' := (l4 ++ [r1]).length) (xs' := plsC (l4 ++ [r1])) rfl sz59 el29 rfl rfl (show DelO _ _ (.own 29 (plsC l4) (c4 * 10)) _ from (DelO.drop n_b4_B4 (none_upd n_b4_b3.ne (none_upd n_b4_b2.ne (none_upd n_b4_b1.ne hb4))) (DelO.there n_b3_B4 (DelO.there n_b2_B4 (DelO.there n_b1_B4 (DelO.here hB4)))))) ho_B4 (by first | rfl | (simp [mpC_length, sqC_length, tbC_length, tabI_length, tabB_length, ints_length, plsC_length, trC_length, sqsC_length, strsC_length, boolsC_length, tbB_length, List.length_append, List.length_cons, List.length_nil, List.length_set, List.length_replicate, rep_length]; done) | (simp [mpC_length, sqC_length, tbC_length, tabI_length, tabB_length, ints_length, plsC_length, trC_length, sqsC_length, strsC_length, boolsC_length, tbB_length, List.length_append, List.length_cons, List.length_nil, List.length_set, List.length_replicate, rep_length]; omega)) (by first | rfl | (simp [mpC_length, sqC_length, tbC_length, tabI_length, tabB_length, ints_length, plsC_length, trC_length, sqsC_length, strsC_length, boolsC_length, tbB_length, List.length_append, List.length_cons, List.length_nil, List.length_set, List.length_replicate, rep_length]; done) | (simp [mpC_length, sqC_length, tbC_length, tabI_length, tabB_length, ints_length, plsC_length, trC_length, sqsC_length, strsC_length, boolsC_length, tbB_length, List.length_append, List.length_cons, List.length_nil, List.length_set, List.length_replicate, rep_length]; omega)) (RdS.own (upd_same _ _ _)) (by first | assumption | exact tabI_one _ _ _ | exact tbC_one _ | exact sqC_one _ | exact tabB_one _ _ | exact ints_one _ _ | exact plsC_one _ | exact strsC_one _ | exact srcC_one _ _ _ _ | (intro v hv; simp at hv; subst hv; rfl)) (fun _ => by decide) (by omega) (by decide) (by decide) rfl (by first | rfl | (simp [mpC_length, sqC_length, tbC_length, tabI_length, tabB_length, ints_length, plsC_length, trC_length, sqsC_length, strsC_length, boolsC_length, tbB_length, List.length_append, List.length_cons, List.length_nil, List.length_set, List.length_replicate, rep_length]; done) | (simp [mpC_length, sqC_length, tbC_length, tabI_length, tabB_length, ints_length, plsC_length, trC_length, sqsC_length, strsC_length, boolsC_length, tbB_length, List.length_append, List.length_cons, List.length_nil, List.length_set, List.length_replicate, rep_length]; omega)) (by first | rfl | (simp [ints, plsC, sqsC, boolsC, strsC]; done)) (fun b5 cap_b5 hb5 hk_b5 hc_b5 => ?_))
  simp only [upd_noneA] at hb5
  obtain ⟨n_b5_b3, n_b5_b2, n_b5_b1, hb5⟩ := hb5
  refine Ops_quiet _ rfl rfl (QO.assign rfl rfl) ?_
  refine Ops_nil ?_
  refine thenA_n ?_
  refine wpA_ret ?_
  refine thenA_r ?_
  obtain rfl := Option.some.inj hm
  exact retA_r (h2 := upd (h) b5 (.own 29 (plsC (l4 ++ [r1])) (cap_b5 * 10))) (Res.one rfl (rfl)) (Le.upd_left (Le.under (Le.under (Le.under (Le.under (Le.refl _) hb1) hb2) hb3) hb5) (upd_same _ _ _) (by first | rfl | (simp; done))) ⟨(some b5), cap_b5, (frO_some hb5), (OkO.some (by first | assumption | omega) (by first | assumption | (simp only [maxLen]; omega))), rfl, rfl⟩
 ·replace hm := cond_f hm g1
  refine wpA_skip ?_
  refine thenA_n ?_
  refine wpA_seq ?_
  refine wpA_region ?_
  refine Ops_quiet _ rfl rfl (QO.assign rfl rfl) ?_
  refine Ops_nil ?_
  refine thenA_n ?_
  refine wpA_seq ?_
  refine wpA_block ?_
  obtain ⟨R1, hR, hm⟩ := Option.bind_eq_some_iff.1 hm
  obtain ⟨k1, hk1⟩ := loopV_some hR
  clear hR
  refine wpA_mono (Q := fun e s' h' => match (generalizing := false) R1 with | .stop x id => e = .exit id ∧ ∃ (x1 : Int), x1 = x ∧ Sub s' [(3, .int .i64 a3), (4, .slice (adO B4) l4.length c4), (5, .pointer (some ⟨b1, 0, none⟩)), (6, .pointer (some ⟨b2, 0, none⟩)), (7, .pointer (some ⟨b3, 0, none⟩)), (11, .int .i64 x1)] ∧ Le (upd (upd (upd (updO (h) B4 (.own 29 (plsC l4) (c4 * 10))) b1 (.own 28 (sqC a0) 101)) b2 (.own 28 (sqC a1) 101)) b3 (.own 81 (mpC a2) 21)) h' | .ret r => False | .next _ => False) ?_ ?_
  ·refine wpA_loop (fun k s' h' => ∃ (x1 : Int), loopW (m_spec_l02Maps_l0 a2) k x1 = some R1 ∧ Sub s' [(3, .int .i64 a3), (4, .slice (adO B4) l4.length c4), (5, .pointer (some ⟨b1, 0, none⟩)), (6, .pointer (some ⟨b2, 0, none⟩)), (7, .pointer (some ⟨b3, 0, none⟩)), (11, .int .i64 x1)] ∧ Le (upd (upd (upd (updO (h) B4 (.own 29 (plsC l4) (c4 * 10))) b1 (.own 28 (sqC a0) 101)) b2 (.own 28 (sqC a1) 101)) b3 (.own 81 (mpC a2) 21)) h') (m := k1) ⟨0, hk1, (Sub.cons rfl (Sub.cons rfl (Sub.cons rfl (Sub.cons rfl (Sub.cons rfl (Sub.cons rfl Sub.nil)))))), (Le.upd_left (Le.upd_left (Le.upd_left (Le.upd_leftO (Le.under (Le.under (Le.under (Le.underO (Le.refl _) hB4) hb1) hb2) hb3) (LkO.there n_b3_B4 (LkO.there n_b2_B4 (LkO.there n_b1_B4 LkO.here))) (by first | rfl | (simp; done))) ((upd_ne _ _ n_b3_b1.ne.symm).trans ((upd_ne _ _ n_b2_b1.ne.symm).trans (upd_same _ _ _))) (by first | rfl | (simp; done))) ((upd_ne _ _ n_b3_b2.ne.symm).trans (upd_same _ _ _)) (by first | rfl | (simp; done))) (upd_same _ _ _) (by first | rfl | (simp; done)))⟩ ?_
   rintro k1 s' h' ⟨x1, hk1, hsub, hle⟩
   refine wpA_weaken hsub.ok hle ?_
   clear hsub hle s' h'
   cases k1 with
   | zero => exact absurd hk1 (by simp [loopW])
   | succ k1 =>
    obtain ⟨o1, ho1, hk1⟩ := loopW_succ hk1
    unfold m_spec_l02Maps_l0 at ho1
    try dsimp only at ho1
    refine wpA_seq ?_
    refine wpA_seq ?_
    refine wpA_region ?_
    refine Ops_quiet _ rfl rfl (QO.move rfl rfl) ?_
    refine Ops_quiet _ rfl rfl (QO.fieldAt (fo := 0) rfl sz81 rfl rfl sz79 rfl rfl) ?_
    have hq := chk ho1; clear ho1; obtain ⟨ck2, ho1⟩ := hq
    refine Ops_quiet _ rfl rfl (QO.idxArr rfl sz79 sz2 rfl rfl (by omega) (by omega)) ?_
    refine Ops_quiet _ rfl rfl (QO.load rfl sz2 rfl rfl (by (refine (rd_own (upd_same _ _ _) _).trans ?_); exact mpC_a (by omega))) ?_
    refine Ops_quiet _ rfl rfl (QO.bin rfl rfl rfl rfl) ?_
    refine Ops_nil ?_
    refine thenA_n ?_
    refine wpA_cond rfl (fun g2 => ?_) (fun g2 => ?_)
    ·replace ho1 := cond_t ho1 g2
     refine wpA_skip ?_
     refine thenA_n ?_
     refine wpA_block ?_
     refine wpA_region ?_
     refine Ops_quiet _ rfl rfl (QO.move rfl rfl) ?_
     refine Ops_quiet _ rfl rfl (QO.bin rfl rfl rfl rfl) ?_
     refine Ops_quiet _ rfl rfl (QO.assign rfl rfl) ?_
     refine Ops_nil ?_
     refine blockA_n ?_
     obtain rfl := Option.some.inj ho1
     dsimp only at hk1
     exact thenA_n ⟨k1, Nat.lt_succ_self _, _, hk1, (Sub.cons rfl (Sub.cons rfl (Sub.cons rfl (Sub.cons rfl (Sub.cons rfl (Sub.cons rfl Sub.nil)))))), (Le.upd_left (Le.upd_left (Le.upd_left (Le.upd_leftO (Le.under (Le.under (Le.under (Le.underO (Le.refl _) hB4) hb1) hb2) hb3) (LkO.there n_b3_B4 (LkO.there n_b2_B4 (LkO.there n_b1_B4 LkO.here))) (by first | rfl | (simp; done))) ((upd_ne _ _ n_b3_b1.ne.symm).trans ((upd_ne _ _ n_b2_b1.ne.symm).trans (upd_same _ _ _))) (by first | rfl | (simp; done))) ((upd_ne _ _ n_b3_b2.ne.symm).trans (upd_same _ _ _)) (by first | rfl | (simp; done))) (upd_same _ _ _) (by first | rfl | (simp; done)))⟩
    ·replace ho1 := cond_f ho1 g2
     refine wpA_exit ?_
     refine thenA_e ?_
     refine thenA_e ?_
     obtain rfl := Option.some.inj ho1
     obtain rfl := Option.some.inj hk1
     exact ⟨rfl, _, rfl, (Sub.cons rfl (Sub.cons rfl (Sub.cons rfl (Sub.cons rfl (Sub.cons rfl (Sub.cons rfl Sub.nil)))))), (Le.upd_left (Le.upd_left (Le.upd_left (Le.upd_leftO (Le.under (Le.under (Le.under (Le.underO (Le.refl _) hB4) hb1) hb2) hb3) (LkO.there n_b3_B4 (LkO.there n_b2_B4 (LkO.there n_b1_B4 LkO.here))) (by first | rfl | (simp; done))) ((upd_ne _ _ n_b3_b1.ne.symm).trans ((upd_ne _ _ n_b2_b1.ne.symm).trans (upd_same _ _ _))) (by first | rfl | (simp; done))) ((upd_ne _ _ n_b3_b2.ne.symm).trans (upd_same _ _ _)) (by first | rfl | (simp; done))) (upd_same _ _ _) (by first | rfl | (simp; done)))⟩
  ·intro e s' h' hq
   cases R1 with
   | next x => exact hq.elim
   | ret r => exact hq.elim
   | stop x id =>
    obtain ⟨rfl, x2, rfl, hsub1, hle1⟩ := hq
    try dsimp only at hm
    by_cases hid1 : id = 0
    ·subst hid1
     rw [if_pos rfl] at hm
     refine blockA_s ?_
     refine thenA_n ?_
     refine wpA_weaken hsub1.ok hle1 ?_
     refine wpA_seq ?_
     refine wpA_seq ?_
     refine wpA_region ?_
     refine Ops_quiet _ rfl rfl (QO.assign rfl rfl) ?_
     refine Ops_nil ?_
     refine thenA_n ?_
     refine wpA_block ?_
     obtain ⟨R2, hR, hm⟩ := Option.bind_eq_some_iff.1 hm
     obtain ⟨k2, hk2⟩ := loopV_some hR
     clear hR
     refine wpA_mono (Q := fun e s' h' => match (generalizing := false) R2 with | .stop x id => e = .exit id ∧ ∃ (x3 : (List (Nat → Int))) (x4 : Int) (b6 : Option Nat) (cap_b6 : Nat), (x3, x4) = x ∧ FrO (upd (upd (upd (h) b1 (.own 28 (sqC a0) 101)) b2 (.own 28 (sqC a1) 101)) b3 (.own 81 (mpC a2) 21)) b6 ∧ OkO b6 x3.length cap_b6 ∧ Sub s' [(3, .int .i64 a3), (4, .slice (adO b6) x3.length cap_b6), (5, .pointer (some ⟨b1, 0, none⟩)), (6, .pointer (some ⟨b2, 0, none⟩)), (7, .pointer (some ⟨b3, 0, none⟩)), (11, .int .i64 x2), (12, .int .i64 x4)] ∧ Le (updO (upd (upd (upd (h) b1 (.own 28 (sqC a0) 101)) b2 (.own 28 (sqC a1) 101)) b3 (.own 81 (mpC a2) 21)) b6 (.own 29 (plsC x3) (cap_b6 * 10))) h' | .ret r => False | .next _ => False) ?_ ?_
     ·refine wpA_loop (fun k s' h' => ∃ (x3 : (List (Nat → Int))) (x4 : Int) (b6 : Option Nat) (cap_b6 : Nat), loopW (m_spec_l02Maps_l1 a0 a1 a2 a3 rec x2) k (x3, x4) = some R2 ∧ FrO (upd (upd (upd (h) b1 (.own 28 (sqC a0) 101)) b2 (.own 28 (sqC a1) 101)) b3 (.own 81 (mpC a2) 21)) b6 ∧ OkO b6 x3.length cap_b6 ∧ Sub s' [(3, .int .i64 a3), (4, .slice (adO b6) x3.length cap_b6), (5, .pointer (some ⟨b1, 0, none⟩)), (6, .pointer (some ⟨b2, 0, none⟩)), (7, .pointer (some ⟨b3, 0, none⟩)), (11, .int .i64 x2), (12, .int .i64 x4)] ∧ Le (updO (upd (upd (upd (h) b1 (.own 28 (sqC a0) 101)) b2 (.own 28 (sqC a1) 101)) b3 (.own 81 (mpC a2) 21)) b6 (.own 29 (plsC x3) (cap_b6 * 10))) h') (m := k2) ⟨l4, 0, B4, c4, hk2, (frO_upd n_b3_B4 (frO_upd n_b2_B4 (frO_upd n_b1_B4 hB4))), ho_B4, (Sub.cons rfl (Sub.cons rfl (Sub.cons rfl (Sub.cons rfl (Sub.cons rfl (Sub.cons rfl (Sub.cons rfl Sub.nil))))))), (Le.upd_leftO (Le.upd_left (Le.upd_left (Le.upd_left (Le.under (Le.under (Le.under (Le.underO (Le.refl _) hB4) hb1) hb2) hb3) ((upd_ne _ _ n_b3_b1.ne.symm).trans ((upd_ne _ _ n_b2_b1.ne.symm).trans (upd_same _ _ _))) (by first | rfl | (simp; done))) ((upd_ne _ _ n_b3_b2.ne.symm).trans (upd_same _ _ _)) (by first | rfl | (simp; done))) (upd_same _ _ _) (by first | rfl | (simp; done))) (LkO.there n_b3_B4 (LkO.there n_b2_B4 (LkO.there n_b1_B4 LkO.here))) (by first | rfl | (simp; done)))⟩ ?_
      rintro k2 s' h' ⟨x3, x4, b6, cap_b6, hk2, hb6, ho_b6, hsub, hle⟩
      refine wpA_weaken hsub.ok hle ?_
      clear hsub hle s' h'
      simp only [frO_updA, frO_updOA] at hb6
      obtain ⟨n_b6_b3, n_b6_b2, n_b6_b1, hb6⟩ := hb6
      cases k2 with
      | zero => exact absurd hk2 (by simp [loopW])
      | succ k2 =>
       obtain ⟨o2, ho2, hk2⟩ := loopW_succ hk2
       unfold m_spec_l02Maps_l1 at ho2
       try dsimp only at ho2
       refine wpA_seq ?_
       refine wpA_seq ?_
       refine wpA_region ?_
       refine Ops_quiet _ rfl rfl (QO.move rfl rfl) ?_
       refine Ops_quiet _ rfl rfl (QO.fieldAt (fo := 0) rfl sz28 rfl rfl sz2 rfl rfl) ?_
       refine Ops_quiet _ rfl rfl (QO.load rfl sz2 rfl rfl (by (refine (rd_own ((updO_ne n_b6_b1).trans ((upd_ne _ _ n_b3_b1.ne.symm).trans ((upd_ne _ _ n_b2_b1.ne.symm).trans (upd_same _ _ _)))) _).trans ?_); exact rfl)) ?_
       refine Ops_quiet _ rfl rfl (QO.bin rfl rfl rfl rfl) ?_
       refine Ops_quiet _ rfl rfl (QO.move rfl rfl) ?_
       refine Ops_case 38 rfl (fun g3 => ?_) (fun g3 => ?_)
       ·replace ho2 := cond_t ho2 g3
        refine Ops_quiet _ rfl rfl (QO.move rfl rfl) ?_
        refine Ops_quiet _ rfl rfl (QO.lenSl rfl sz59 rfl) ?_
        refine Ops_quiet _ rfl rfl (QO.move rfl rfl) ?_
        refine Ops_quiet _ rfl rfl (QO.bin rfl rfl rfl rfl) ?_
        refine Ops_quiet _ rfl rfl (QO.pick_t rfl rfl rfl) ?_
        refine Ops_nil ?_
        refine thenA_n ?_
        refine wpA_cond rfl (fun g4 => ?_) (fun g4 => ?_)
        ·replace ho2 := cond_t ho2 g4
         refine wpA_skip ?_
         refine thenA_n ?_
         refine wpA_seq ?_
         refine wpA_block ?_
         refine wpA_seq ?_
         refine wpA_seq ?_
         refine wpA_region ?_
         refine Ops_quiet _ rfl rfl (QO.move rfl rfl) ?_
         refine Ops_quiet _ rfl rfl (QO.fieldAt (fo := 10) rfl sz81 rfl rfl sz79 rfl rfl) ?_
         have hq := chk ho2; clear ho2; obtain ⟨ck3, ho2⟩ := hq
         refine Ops_quiet _ rfl rfl (QO.idxArr rfl sz79 sz2 rfl rfl (by omega) (by omega)) ?_
         refine Ops_quiet _ rfl rfl (QO.load rfl sz2 rfl rfl (by (refine (rd_own ((updO_ne n_b6_b3).trans (upd_same _ _ _)) _).trans ?_); exact mpC_b (by omega))) ?_
         refine Ops_quiet _ rfl rfl (QO.bin rfl rfl rfl rfl) ?_
         refine Ops_nil ?_
         refine thenA_n ?_
         refine wpA_cond rfl (fun g5 => ?_) (fun g5 => ?_)
         ·replace ho2 := cond_t ho2 g5
          refine wpA_exit ?_
          refine thenA_e ?_
          refine blockA_s ?_
          refine thenA_n ?_
          refine wpA_region ?_
          refine Ops_quiet _ rfl rfl (QO.move rfl rfl) ?_
          refine Ops_quiet _ rfl rfl (QO.bin rfl rfl rfl rfl) ?_
          refine Ops_quiet _ rfl rfl (QO.assign rfl rfl) ?_
          refine Ops_nil ?_
          obtain rfl := Option.some.inj ho2
          dsimp only at hk2
          exact thenA_n ⟨k2, Nat.lt_succ_self _, _, _, b6, cap_b6, hk2, (frO_upd n_b6_b3 (frO_upd n_b6_b2 (frO_upd n_b6_b1 hb6))), ho_b6, (Sub.cons rfl (Sub.cons rfl (Sub.cons rfl (Sub.cons rfl (Sub.cons rfl (Sub.cons rfl (Sub.cons rfl Sub.nil))))))), (Le.upd_leftO (Le.upd_left (Le.upd_left (Le.upd_left (Le.underO (Le.under (Le.under (Le.under (Le.refl _) hb1) hb2) hb3) hb6) ((updO_ne n_b6_b1).trans ((upd_ne _ _ n_b3_b1.ne.symm).trans ((upd_ne _ _ n_b2_b1.ne.symm).trans (upd_same _ _ _)))) (by first | rfl | (simp; done))) ((updO_ne n_b6_b2).trans ((upd_ne _ _ n_b3_b2.ne.symm).trans (upd_same _ _ _))) (by first | rfl | (simp; done))) ((updO_ne n_b6_b3).trans (upd_same _ _ _)) (by first | rfl | (simp; done))) LkO.here (by first | rfl | (simp; done)))⟩
         ·replace ho2 := cond_f ho2 g5
          refine wpA_skip ?_
          refine thenA_n ?_
          refine wpA_seq ?_
          refine wpA_region ?_
          refine Ops_quiet _ rfl rfl (QO.loadRow (cs := sqC a0) (hr := (rdAll ((updO_ne n_b6_b1).trans ((upd_ne _ _ n_b3_b1.ne.symm).trans ((upd_ne _ _ n_b2_b1.ne.symm).trans (upd_same _ _ _)))))) rfl sz28 rfl rfl (sqC_length _)) ?_
          refine Ops_quiet _ rfl rfl (QO.loadRow (cs := sqC a1) (hr := (rdAll ((updO_ne n_b6_b2).trans ((upd_ne _ _ n_b3_b2.ne.symm).trans (upd_same _ _ _))))) rfl sz28 rfl rfl (sqC_length _)) ?_
          refine Ops_quiet _ rfl rfl (QO.loadRow (cs := mpC a2) (hr := (rdAll ((updO_ne n_b6_b3).trans (upd_same _ _ _)))) rfl sz81 rfl rfl (mpC_length _)) ?_
          refine Ops_quiet _ rfl rfl (QO.move rfl rfl) ?_
          refine Ops_quiet _ rfl rfl (QO.move rfl rfl) ?_
          have hq := Option.bind_eq_some_iff.1 ho2; clear ho2; obtain ⟨r2, hr2, ho2⟩ := hq
          refine Ops_call _ _ rfl rfl (EO.fn rfl Try.func76 rfl rfl (Evs.cons rfl (Evs.cons rfl (Evs.cons rfl (Evs.cons rfl (Evs.cons rfl Evs.nil)))))) (QC.cc (c_spec_l02Close hr2 ) ?_)
          refine Ops_quiet _ rfl rfl (QO.move rfl rfl) ?_
          refine Ops_quiet _ rfl rfl (QO.extract rfl rfl rfl) ?_
          refine Ops_quiet _ rfl rfl (QO.extract rfl rfl rfl) ?_
          refine Ops_loud rfl (LO.alloc rfl zr81 rfl (fun b7 hb7 => ?_))
          simp only [upd_noneA, updO_noneA] at hb7
          obtain ⟨n_b7_b6, n_b7_b3, n_b7_b2, n_b7_b1, hb7⟩ := hb7
          refine Ops_loud rfl (LO.storeAll (cs := mpC r2.1) rfl sz81 rfl rfl (mpC_one _) (mpC_length _) (upd_same _ _ _) (mpC_length _) Chg.here rfl ?_)
          refine Ops_quiet _ rfl rfl (QO.assign rfl rfl) ?_
          refine Ops_nil ?_
          refine thenA_n ?_
          refine wpA_seq ?_
          refine wpA_region ?_
          refine Ops_quiet _ rfl rfl (QO.move rfl rfl) ?_
          refine Ops_nil ?_
          refine thenA_n ?_
          refine wpA_cond rfl (fun g6 => ?_) (fun g6 => ?_)
          ·replace ho2 := cond_t ho2 g6
           refine wpA_region ?_
           refine Ops_quiet _ rfl rfl (QO.loadRow (cs := sqC a0) (hr := (rdAll ((upd_ne _ _ n_b7_b1.ne.symm).trans ((updO_ne n_b6_b1).trans ((upd_ne _ _ n_b3_b1.ne.symm).trans ((upd_ne _ _ n_b2_b1.ne.symm).trans (upd_same _ _ _))))))) rfl sz28 rfl rfl (sqC_length _)) ?_
           refine Ops_quiet _ rfl rfl (QO.loadRow (cs := sqC a1) (hr := (rdAll ((upd_ne _ _ n_b7_b2.ne.symm).trans ((updO_ne n_b6_b2).trans ((upd_ne _ _ n_b3_b2.ne.symm).trans (upd_same _ _ _)))))) rfl sz28 rfl rfl (sqC_length _)) ?_
           refine Ops_quiet _ rfl rfl (QO.loadRow (cs := mpC r2.1) (hr := (rdAll (upd_same _ _ _))) rfl sz81 rfl rfl (mpC_length _)) ?_
           refine Ops_quiet _ rfl rfl (QO.move rfl rfl) ?_
           refine Ops_quiet _ rfl rfl (QO.move rfl rfl) ?_
           have hd1 : DelO (upd (updO (upd (upd (upd (h) b1 (.own 28 (sqC a0) 101)) b2 (.own 28 (sqC a1) 101)) b3 (.own 81 (mpC a2) 21)) b6 (.own 29 (plsC x3) (cap_b6 * 10))) b7 (.own 81 (mpC r2.1) 21)) b6 (.own 29 (plsC x3) (cap_b6 * 10)) (upd (upd (upd (upd (h) b1 (.own 28 (sqC a0) 101)) b2 (.own 28 (sqC a1) 101)) b3 (.own 81 (mpC a2) 21)) b7 (.own 81 (mpC r2.1) 21)) := (DelO.there n_b7_b6 (DelO.here (frO_upd n_b6_b3 (frO_upd n_b6_b2 (frO_upd n_b6_b1 hb6)))))
           have hq := Option.bind_eq_some_iff.1 ho2; clear ho2; obtain ⟨r3, hr3, ho2⟩ := hq
           refine Ops_call _ _ rfl rfl (EO.fn rfl Try.func61 rfl rfl (Evs.cons rfl (Evs.cons rfl (Evs.cons rfl (Evs.cons rfl (Evs.cons rfl Evs.nil)))))) (CC.mono (CC.atLe (hrec (h := upd (upd (upd (upd (h) b1 (.own 28 (sqC a0) 101)) b2 (.own 28 (sqC a1) 101)) b3 (.own 81 (mpC a2) 21)) b7 (.own 81 (mpC r2.1) 21)) (l4 := x3) (B4 := b6) (c4 := cap_b6) hr3 hd1.fr ho_b6) hd1.le) ?_)
           rintro _ _ ⟨b8, cap_b8, hb8, ho_b8, rfl, rfl⟩
           simp only [frO_updA, frO_updOA] at hb8
           obtain ⟨n_b8_b7, n_b8_b3, n_b8_b2, n_b8_b1, hb8⟩ := hb8
           refine Ops_quiet _ rfl rfl (QO.assign rfl rfl) ?_
           refine Ops_nil ?_
           refine blockA_n ?_
           refine thenA_n ?_
           refine wpA_region ?_
           refine Ops_quiet _ rfl rfl (QO.move rfl rfl) ?_
           refine Ops_quiet _ rfl rfl (QO.bin rfl rfl rfl rfl) ?_
           refine Ops_quiet _ rfl rfl (QO.assign rfl rfl) ?_
           refine Ops_nil ?_
           obtain rfl := Option.some.inj ho2
           dsimp only at hk2
           exact thenA_n ⟨k2, Nat.lt_succ_self _, _, _, b8, cap_b8, hk2, (frO_upd n_b8_b3 (frO_upd n_b8_b2 (frO_upd n_b8_b1 hb8))), ho_b8, (Sub.cons rfl (Sub.cons rfl (Sub.cons rfl (Sub.cons rfl (Sub.cons rfl (Sub.cons rfl (Sub.cons rfl Sub.nil))))))), (Le.upd_leftO (Le.upd_left (Le.upd_left (Le.upd_left (Le.underO (Le.under (Le.under (Le.under (Le.under (Le.refl _) hb1) hb2) hb3) hb7) hb8) ((updO_ne n_b8_b1).trans ((upd_ne _ _ n_b7_b1.ne.symm).trans ((upd_ne _ _ n_b3_b1.ne.symm).trans ((upd_ne _ _ n_b2_b1.ne.symm).trans (upd_same _ _ _))))) (by first | rfl | (simp; done))) ((updO_ne n_b8_b2).trans ((upd_ne _ _ n_b7_b2.ne.symm).trans ((upd_ne _ _ n_b3_b2.ne.symm).trans (upd_same _ _ _)))) (by first | rfl | (simp; done))) ((updO_ne n_b8_b3).trans ((upd_ne _ _ n_b7_b3.ne.symm).trans (upd_same _ _ _))) (by first | rfl | (simp; done))) LkO.here (by first | rfl | (simp; done)))⟩
          ·replace ho2 := cond_f ho2 g6
           refine wpA_skip ?_
           refine blockA_n ?_
           refine thenA_n ?_
           refine wpA_region ?_
           refine Ops_quiet _ rfl rfl (QO.move rfl rfl) ?_
           refine Ops_quiet _ rfl rfl (QO.bin rfl rfl rfl rfl) ?_
           refine Ops_quiet _ rfl rfl (QO.assign rfl rfl) ?_
           refine Ops_nil ?_
           obtain rfl := Option.some.inj ho2
           dsimp only at hk2
           exact thenA_n ⟨k2, Nat.lt_succ_self _, _, _, b6, cap_b6, hk2, (frO_upd n_b6_b3 (frO_upd n_b6_b2 (frO_upd n_b6_b1 hb6))), ho_b6, (Sub.cons rfl (Sub.cons rfl (Sub.cons rfl (Sub.cons rfl (Sub.cons rfl (Sub.cons rfl (Sub.cons rfl Sub.nil))))))), (Le.upd_leftO (Le.upd_left (Le.upd_left (Le.upd_left (Le.under (Le.underO (Le.under (Le.under (Le.under (Le.refl _) hb1) hb2) hb3) hb6) hb7) ((upd_ne _ _ n_b7_b1.ne.symm).trans ((updO_ne n_b6_b1).trans ((upd_ne _ _ n_b3_b1.ne.symm).trans ((upd_ne _ _ n_b2_b1.ne.symm).trans (upd_same _ _ _))))) (by first | rfl | (simp; done))) ((upd_ne _ _ n_b7_b2.ne.symm).trans ((updO_ne n_b6_b2).trans ((upd_ne _ _ n_b3_b2.ne.symm).trans (upd_same _ _ _)))) (by first | rfl | (simp; done))) ((upd_ne _ _ n_b7_b3.ne.symm).trans ((updO_ne n_b6_b3).trans (upd_same _ _ _))) (by first | rfl | (simp; done))) (LkO.there n_b7_b6 LkO.here) (by first | rfl | (simp; done)))⟩
        ·replace ho2 := cond_f ho2 g4
         refine wpA_exit ?_
         refine thenA_e ?_
         refine thenA_e ?_
         obtain rfl := Option.some.inj ho2
         obtain rfl := Option.some.inj hk2
         exact ⟨rfl, _, _, b6, cap_b6, rfl, (frO_upd n_b6_b3 (frO_upd n_b6_b2 (frO_upd n_b6_b1 hb6))), ho_b6, (Sub.cons rfl (Sub.cons rfl (Sub.cons rfl (Sub.cons rfl (Sub.cons rfl (Sub.cons rfl (Sub.cons rfl Sub.nil))))))), (Le.upd_leftO (Le.upd_left (Le.upd_left (Le.upd_left (Le.underO (Le.under (Le.under (Le.under (Le.refl _) hb1) hb2) hb3) hb6) ((updO_ne n_b6_b1).trans ((upd_ne _ _ n_b3_b1.ne.symm).trans ((upd_ne _ _ n_b2_b1.ne.symm).trans (upd_same _ _ _)))) (by first | rfl | (simp; done))) ((updO_ne n_b6_b2).trans ((upd_ne _ _ n_b3_b2.ne.symm).trans (upd_same _ _ _))) (by first | rfl | (simp; done))) ((updO_ne n_b6_b3).trans (upd_same _ _ _)) (by first | rfl | (simp; done))) LkO.here (by first | rfl | (simp; done)))⟩
       ·replace ho2 := cond_f ho2 g3
        refine Ops_skip rfl rfl ?_
        refine Ops_skip rfl rfl ?_
        refine Ops_skip rfl rfl ?_
        refine Ops_skip rfl rfl ?_
        refine Ops_quiet _ rfl rfl (QO.pick_f rfl rfl rfl) ?_
        refine Ops_nil ?_
        refine thenA_n ?_
        refine wpA_cond_f rfl ?_
        refine wpA_exit ?_
        refine thenA_e ?_
        refine thenA_e ?_
        obtain rfl := Option.some.inj ho2
        obtain rfl := Option.some.inj hk2
        exact ⟨rfl, _, _, b6, cap_b6, rfl, (frO_upd n_b6_b3 (frO_upd n_b6_b2 (frO_upd n_b6_b1 hb6))), ho_b6, (Sub.cons rfl (Sub.cons rfl (Sub.cons rfl (Sub.cons rfl (Sub.cons rfl (Sub.cons rfl (Sub.cons rfl Sub.nil))))))), (Le.upd_leftO (Le.upd_left (Le.upd_left (Le.upd_left (Le.underO (Le.under (Le.under (Le.under (Le.refl _) hb1) hb2) hb3) hb6) ((updO_ne n_b6_b1).trans ((upd_ne _ _ n_b3_b1.ne.symm).trans ((upd_ne _ _ n_b2_b1.ne.symm).trans (upd_same _ _ _)))) (by first | rfl | (simp; done))) ((updO_ne n_b6_b2).trans ((upd_ne _ _ n_b3_b2.ne.symm).trans (upd_same _ _ _))) (by first | rfl | (simp; done))) ((updO_ne n_b6_b3).trans (upd_same _ _ _)) (by first | rfl | (simp; done))) LkO.here (by first | rfl | (simp; done)))⟩
     ·intro e s' h' hq
      cases R2 with
      | next x => exact hq.elim
      | ret r => exact hq.elim
      | stop x id =>
       obtain ⟨rfl, x5, x6, b9, cap_b9, rfl, hb9, ho_b9, hsub2, hle2⟩ := hq
       try dsimp only at hm
       simp only [frO_updA, frO_updOA] at hb9
       obtain ⟨n_b9_b3, n_b9_b2, n_b9_b1, hb9⟩ := hb9
       by_cases hid2 : id = 2
       ·subst hid2
        rw [if_pos rfl] at hm
        refine blockA_s ?_
        refine thenA_n ?_
        refine wpA_weaken hsub2.ok hle2 ?_
        refine wpA_seq ?_
        refine wpA_region ?_
        refine Ops_quiet _ rfl rfl (QO.move rfl rfl) ?_
        refine Ops_quiet _ rfl rfl (QO.assign rfl rfl) ?_
        refine Ops_nil ?_
        refine thenA_n ?_
        refine wpA_ret ?_
        obtain rfl := Option.some.inj hm
        exact retA_r (h2 := updO (h) b9 (.own 29 (plsC x5) (cap_b9 * 10))) (Res.one rfl (rfl)) (Le.upd_leftO (Le.underO (Le.under (Le.under (Le.under (Le.refl _) hb1) hb2) hb3) hb9) LkO.here (by first | rfl | (simp; done))) ⟨b9, cap_b9, hb9, ho_b9, rfl, rfl⟩
       rw [if_neg hid2] at hm
       exact absurd hm (by simp)
    rw [if_neg hid1] at hm
    exact absurd hm (by simp)
theorem c_spec_l02Maps_w (k : Nat) : ∀ {a0 : Sq} {a1 : Sq} {a2 : Mp} {a3 : Int} {l4 : (List (Nat → Int))} {B4 : Option Nat} {c4 : Nat} {h : Hp} {r : (List (Nat → Int))} (hm : m_spec_l02Maps_w k a0 a1 a2 a3 l4 = some r) (hB4 : FrO h B4) (ho_B4 : OkO B4 l4.length c4), CC Try.prog 61 #[.agg (sqC a0).toArray, .agg (sqC a1).toArray, .agg (mpC a2).toArray, .int .i64 a3, .slice (adO B4) l4.length c4] (updO (h) B4 (.own 29 (plsC l4) (c4 * 10))) (fun v h' => ∃ (b0 : Option Nat) (cap0 : Nat), FrO (h) b0 ∧ OkO b0 r.length cap0 ∧ v = .slice (adO b0) r.length cap0 ∧ h' = updO (h) b0 (.own 29 (plsC r) (cap0 * 10))) := by
 induction k with
 | zero => intros; simp [m_spec_l02Maps_w] at *
 | succ k ih => exact c_spec_l02Maps_b ih
theorem c_spec_l02Maps {a0 : Sq} {a1 : Sq} {a2 : Mp} {a3 : Int} {l4 : (List (Nat → Int))} {B4 : Option Nat} {c4 : Nat} {h : Hp} {r : (List (Nat → Int))} (hm : m_spec_l02Maps a0 a1 a2 a3 l4 = some r) (hB4 : FrO h B4) (ho_B4 : OkO B4 l4.length c4) :
    CC Try.prog 61 #[.agg (sqC a0).toArray, .agg (sqC a1).toArray, .agg (mpC a2).toArray, .int .i64 a3, .slice (adO B4) l4.length c4] (updO (h) B4 (.own 29 (plsC l4) (c4 * 10))) (fun v h' => ∃ (b0 : Option Nat) (cap0 : Nat), FrO (h) b0 ∧ OkO b0 r.length cap0 ∧ v = .slice (adO b0) r.length cap0 ∧ h' = updO (h) b0 (.own 29 (plsC r) (cap0 * 10))) := c_spec_l02Maps_w 1000 hm hB4 ho_B4

/-! loop.example/g01195/spec.l02All -/
theorem c_spec_l02All {a0 : Sq} {a1 : Sq} {a2 : Int} {h : Hp} {r : (List (Nat → Int))} (hm : m_spec_l02All a0 a1 a2 = some r)  :
    CC Try.prog 39 #[.agg (sqC a0).toArray, .agg (sqC a1).toArray, .int .i64 a2] (h) (fun v h' => ∃ (b0 : Option Nat) (cap0 : Nat), FrO (h) b0 ∧ OkO b0 r.length cap0 ∧ v = .slice (adO b0) r.length cap0 ∧ h' = updO (h) b0 (.own 29 (plsC r) (cap0 * 10))) := by
 unfold m_spec_l02All at hm
 refine CC.enter Try.func39 rfl Try.ntmps39 rfl ?_
 refine wpA_seq ?_
 refine wpA_region ?_
 refine Ops_loud rfl (LO.boxAgg rfl rfl rfl (fun b1 hb1 => ?_))
 refine Ops_loud rfl (LO.boxAgg rfl rfl rfl (fun b2 hb2 => ?_))
 simp only [upd_noneA] at hb2
 obtain ⟨n_b2_b1, hb2⟩ := hb2
 refine Ops_quiet _ rfl rfl (QO.assign rfl rfl) ?_
 refine Ops_nil ?_
 refine thenA_n ?_
 refine wpA_seq ?_
 refine wpA_seq ?_
 refine wpA_region ?_
 refine Ops_quiet _ rfl rfl (QO.fieldAt (fo := 0) rfl sz28 rfl rfl sz2 rfl rfl) ?_
 refine Ops_quiet _ rfl rfl (QO.load rfl sz2 rfl rfl (by (refine (rd_own ((upd_ne _ _ n_b2_b1.ne.symm).trans (upd_same _ _ _)) _).trans ?_); exact rfl)) ?_
 refine Ops_quiet _ rfl rfl (QO.fieldAt (fo := 0) rfl sz28 rfl rfl sz2 rfl rfl) ?_
 refine Ops_quiet _ rfl rfl (QO.load rfl sz2 rfl rfl (by (refine (rd_own (upd_same _ _ _) _).trans ?_); exact rfl)) ?_
 refine Ops_quiet _ rfl rfl (QO.bin rfl rfl rfl rfl) ?_
 refine Ops_nil ?_
 refine thenA_n ?_
 refine wpA_cond rfl (fun g1 => ?_) (fun g1 => ?_)
 ·replace hm := cond_t hm g1
  refine wpA_seq ?_
  refine wpA_region ?_
  refine Ops_quiet _ rfl rfl (QO.assign rfl rfl) ?_
  refine Ops_nil ?_
  refine thenA_n ?_
  refine wpA_ret ?_
  refine thenA_r ?_
  obtain rfl := Option.some.inj hm
  exact retA_r (h2 := h) (Res.one rfl (rfl)) (Le.under (Le.under (Le.refl _) hb1) hb2) ⟨none, 0, frO_none, OkO.none, rfl, rfl⟩
 ·replace hm := cond_f hm g1
  refine wpA_skip ?_
  refine thenA_n ?_
  refine wpA_seq ?_
  refine wpA_any (upd (upd (h) b1 (.own 28 (sqC a0) 101)) b2 (.own 28 (sqC a1) 101)) [4] [] (by kernel_rfl) (by kernel_rfl) (DW.start ?_)
  refine DW.read' 0 _ rfl (by kernel_rfl) rfl (QO.loadRow (cs := sqC a0) (hr := (rdAll ((upd_ne _ _ n_b2_b1.ne.symm).trans (upd_same _ _ _)))) rfl sz28 rfl rfl (sqC_length _)) ?_
  refine DW.read' 1 _ rfl (by kernel_rfl) rfl (QO.loadRow (cs := sqC a1) (hr := (rdAll (upd_same _ _ _))) rfl sz28 rfl rfl (sqC_length _)) ?_
  have hq := Option.bind_eq_some_iff.1 hm; clear hm; obtain ⟨r1, hr1, hm⟩ := hq
  refine DW.qcall' 2 _ _ _ rfl (by kernel_rfl) rfl (EO.fn rfl Try.func62 rfl rfl Evs.nil) (c_spec_l02Start hr1 ) ?_
  refine DW.pure' 3 _ rfl (by kernel_rfl) rfl (fun _ => QO.move rfl rfl) ?_
  have hd1 : DelO (upd (upd (h) b1 (.own 28 (sqC a0) 101)) b2 (.own 28 (sqC a1) 101)) none (.own 29 (plsC []) (0 * 10)) (upd (upd (h) b1 (.own 28 (sqC a0) 101)) b2 (.own 28 (sqC a1) 101)) := DelO.nil
  have hq := Option.bind_eq_some_iff.1 hm; clear hm; obtain ⟨r2, hr2, hm⟩ := hq
  refine DW.call 4 _ _ rfl (by kernel_rfl) rfl rfl (EO.fn rfl Try.func61 rfl rfl (Evs.cons rfl (Evs.cons rfl (Evs.cons rfl (Evs.cons rfl (Evs.cons rfl Evs.nil)))))) (CC.mono (CC.atLe (c_spec_l02Maps (h := upd (upd (h) b1 (.own 28 (sqC a0) 101)) b2 (.own 28 (sqC a1) 101)) (l4 := []) (B4 := none) (c4 := 0) hr2 hd1.fr OkO.none) hd1.le) ?_)
  rintro _ _ ⟨b3, cap_b3, hb3, ho_b3, rfl, rfl⟩
  simp only [frO_updA, frO_updOA] at hb3
  obtain ⟨n_b3_b2, n_b3_b1, hb3⟩ := hb3
  refine ⟨(fun _ => (Le.upd_left (Le.upd_left (Le.underO (Le.under (Le.under (Le.refl _) hb1) hb2) hb3) ((updO_ne n_b3_b1).trans ((upd_ne _ _ n_b2_b1.ne.symm).trans (upd_same _ _ _))) (by first | rfl | (simp; done))) ((updO_ne n_b3_b2).trans (upd_same _ _ _)) (by first | rfl | (simp; done)))), ?_⟩
  refine DW.pure' 5 _ rfl (by kernel_rfl) rfl (fun _ => QO.assign rfl rfl) ?_
  refine DW.done (by kernel_rfl) ?_ _
  refine thenA_n ?_
  refine wpA_ret ?_
  obtain rfl := Option.some.inj hm
  exact retA_r (h2 := updO (h) b3 (.own 29 (plsC r2) (cap_b3 * 10))) (Res.one rfl (rfl)) (Le.upd_leftO (Le.underO (Le.under (Le.under (Le.refl _) hb1) hb2) hb3) LkO.here (by first | rfl | (simp; done))) ⟨b3, cap_b3, hb3, ho_b3, rfl, rfl⟩

/-! loop.example/g01195/spec.DrawIsAutotopism -/
theorem c_spec_DrawIsAutotopism {l0 : (List Int)} {A0 : Option Addr} {c0 : Nat} {h : Hp} {r : Sq × Tr} (hm : m_spec_DrawIsAutotopism l0 = some r) (hs0 : RdS h A0 (ints .u8 l0)) :
    QC Try.prog 16 #[.slice A0 l0.length c0] h (.tuple #[.agg (sqC r.1).toArray, .agg (trC r.2).toArray]) := by
 unfold m_spec_DrawIsAutotopism at hm
 refine CC.enter Try.func16 rfl Try.ntmps16 rfl ?_
 refine wpA_seq ?_
 refine wpA_region ?_
 refine Ops_loud rfl (LO.alloc rfl zr28 rfl (fun b1 hb1 => ?_))
 refine Ops_loud rfl (LO.alloc rfl zr31 rfl (fun b2 hb2 => ?_))
 simp only [upd_noneA] at hb2
 obtain ⟨n_b2_b1, hb2⟩ := hb2
 refine Ops_nil ?_
 refine thenA_n ?_
 refine wpA_seq ?_
 refine wpA_region ?_
 refine Ops_quiet _ rfl rfl (QO.move rfl rfl) ?_
 have hq := Option.bind_eq_some_iff.1 hm; clear hm; obtain ⟨r1, hr1, hm⟩ := hq
 refine Ops_call _ _ rfl rfl (EO.fn rfl Try.func24 rfl rfl (Evs.cons rfl Evs.nil)) (CC.mono (c_spec_l01From (l0 := l0) (A0 := A0) (c0 := c0) hr1 (RdS.le hs0 (Le.under (Le.under (Le.refl _) hb1) hb2))) ?_)
 rintro _ _ ⟨b3, hb3, rfl, rfl⟩
 simp only [upd_noneA] at hb3
 obtain ⟨n_b3_b2, n_b3_b1, hb3⟩ := hb3
 refine Ops_quiet _ rfl rfl (QO.assign rfl rfl) ?_
 refine Ops_nil ?_
 refine thenA_n ?_
 refine wpA_seq ?_
 refine wpA_region ?_
 refine Ops_quiet _ rfl rfl (QO.move rfl rfl) ?_
 have hq := Option.bind_eq_some_iff.1 hm; clear hm; obtain ⟨r2, hr2, hm⟩ := hq
 have hd1 : Del (upd (upd (upd (h) b1 (.own 28 (sqC sq0) 101)) b2 (.own 31 (trC tr0) 30)) b3 (.own 68 (srcC A0 l0.length c0 r1) 3)) b3 (.own 68 (srcC A0 l0.length c0 r1) 3) (upd (upd (h) b1 (.own 28 (sqC sq0) 101)) b2 (.own 31 (trC tr0) 30)) := (Del.here (none_upd n_b3_b2.ne (none_upd n_b3_b1.ne hb3)))
 refine Ops_call _ _ rfl rfl (EO.fn rfl Try.func25 rfl rfl (Evs.cons rfl Evs.nil)) (CC.mono (CC.atLe (c_spec_l01Spoil (h := upd (upd (h) b1 (.own 28 (sqC sq0) 101)) b2 (.own 31 (trC tr0) 30)) hr2 (RdS.le hs0 (Le.under (Le.under (Le.refl _) hb1) hb2)) hd1.none) hd1.le) ?_)
 rintro _ _ ⟨rfl, rfl⟩
 refine Ops_loud rfl (LO.alloc rfl zr28 rfl (fun b4 hb4 => ?_))
 simp only [upd_noneA] at hb4
 obtain ⟨n_b4_b3, n_b4_b2, n_b4_b1, hb4⟩ := hb4
 refine Ops_loud rfl (LO.storeAll (cs := sqC r2.1) rfl sz28 rfl rfl (sqC_one _) (sqC_length _) (upd_same _ _ _) (sqC_length _) Chg.here rfl ?_)
 refine Ops_nil ?_
 refine thenA_n ?_
 refine wpA_seq ?_
 refine wpA_seq ?_
 refine wpA_region ?_
 refine Ops_quiet _ rfl rfl (QO.loadRow (cs := sqC r2.1) (hr := (rdAll (upd_same _ _ _))) rfl sz28 rfl rfl (sqC_length _)) ?_
 have hq := Option.bind_eq_some_iff.1 hm; clear hm; obtain ⟨r3, hr3, hm⟩ := hq
 refine Ops_call _ _ rfl rfl (EO.fn rfl Try.func38 rfl rfl (Evs.cons rfl Evs.nil)) (QC.cc (c_spec_l01Is hr3 ) ?_)
 refine Ops_quiet _ rfl rfl (QO.not rfl rfl) ?_
 refine Ops_nil ?_
 refine thenA_n ?_
 refine wpA_cond rfl (fun g1 => ?_) (fun g1 => ?_)
 ·replace hm := cond_t hm g1
  refine wpA_seq ?_
  refine wpA_any (upd (upd (h) b2 (.own 31 (trC tr0) 30)) b4 (.own 28 (sqC r2.1) 101)) [2, 3, 4] [4] (by kernel_rfl) (by kernel_rfl) (DW.start ?_)
  refine DW.readK' 0 _ rfl (by kernel_rfl) rfl (Le.upd_left (Le.upd_left (Le.under (Le.under (Le.under (Le.under (Le.refl _) hb1) hb2) hb3) hb4) ((upd_ne _ _ n_b4_b2.ne.symm).trans ((upd_ne _ _ n_b3_b2.ne.symm).trans (upd_same _ _ _))) (by first | rfl | (simp; done))) (upd_same _ _ _) (by first | rfl | (simp; done))) (QO.loadRow (cs := sqC r2.1) (hr := (rdAll (upd_same _ _ _))) rfl sz28 rfl rfl (sqC_length _)) ?_
  refine DW.pure' 1 _ rfl (by kernel_rfl) rfl (fun _ => QO.move rfl rfl) ?_
  have hq := Option.bind_eq_some_iff.1 hm; clear hm; obtain ⟨r4, hr4, hm⟩ := hq
  have hd2 : Del (upd (upd (upd (upd (h) b1 (.own 28 (sqC sq0) 101)) b2 (.own 31 (trC tr0) 30)) b3 (.own 68 (srcC A0 l0.length c0 r2.2) 3)) b4 (.own 28 (sqC r2.1) 101)) b3 (.own 68 (srcC A0 l0.length c0 r2.2) 3) (upd (upd (upd (h) b1 (.own 28 (sqC sq0) 101)) b2 (.own 31 (trC tr0) 30)) b4 (.own 28 (sqC r2.1) 101)) := (Del.there n_b4_b3.ne.symm (Del.here (none_upd n_b3_b2.ne (none_upd n_b3_b1.ne hb3))))
  refine DW.call 2 _ _ rfl (by kernel_rfl) rfl rfl (EO.fn rfl Try.func26 rfl rfl (Evs.cons rfl (Evs.cons rfl Evs.nil))) (CC.mono (CC.atLe (c_spec_l02Draw (h := upd (upd (upd (h) b1 (.own 28 (sqC sq0) 101)) b2 (.own 31 (trC tr0) 30)) b4 (.own 28 (sqC r2.1) 101)) hr4 (RdS.le hs0 (Le.under (Le.under (Le.under (Le.refl _) hb1) hb2) hb4)) hd2.none) hd2.le) ?_)
  rintro _ _ ⟨rfl, rfl⟩
  refine ⟨(fun _ => (Le.upd_left (Le.upd_left (Le.under (Le.under (Le.under (Le.under (Le.refl _) hb1) hb2) hb4) hb3) ((upd_ne _ _ n_b3_b2.ne.symm).trans ((upd_ne _ _ n_b4_b2.ne.symm).trans (upd_same _ _ _))) (by first | rfl | (simp; done))) ((upd_ne _ _ n_b4_b3.ne).trans (upd_same _ _ _)) (by first | rfl | (simp; done)))), ?_⟩
  refine DW.loud 3 rfl (by kernel_rfl) rfl rfl (LO.storeAll (cs := sqC r2.1) rfl sz28 rfl rfl (sqC_one _) (sqC_length _) ((upd_ne _ _ n_b3_b1.ne.symm).trans ((upd_ne _ _ n_b4_b1.ne.symm).trans ((upd_ne _ _ n_b2_b1.ne.symm).trans (upd_same _ _ _)))) (sqC_length _) (Chg.there n_b3_b1.ne (Chg.there n_b4_b1.ne (Chg.there n_b2_b1.ne Chg.here))) rfl ?_)
  refine ⟨(fun _ => (Le.upd_left (Le.upd_left (Le.under (Le.under (Le.under (Le.under (Le.refl _) hb1) hb2) hb4) hb3) ((upd_ne _ _ n_b3_b2.ne.symm).trans ((upd_ne _ _ n_b4_b2.ne.symm).trans (upd_same _ _ _))) (by first | rfl | (simp; done))) ((upd_ne _ _ n_b4_b3.ne).trans (upd_same _ _ _)) (by first | rfl | (simp; done)))), ?_⟩
  refine DW.loud 4 rfl (by kernel_rfl) rfl rfl (LO.storeAll (cs := trC r4.1) rfl sz31 rfl rfl (trC_one _) (trC_length _) ((upd_ne _ _ n_b3_b2.ne.symm).trans ((upd_ne _ _ n_b4_b2.ne.symm).trans (upd_same _ _ _))) (trC_length _) (Chg.there n_b3_b2.ne (Chg.there n_b4_b2.ne Chg.here)) rfl ?_)
  refine ⟨(fun e => absurd e (by decide)), ?_⟩
  refine DW.done (by kernel_rfl) ?_ _
  refine thenA_n ?_
  refine wpA_ret ?_
  refine thenA_r ?_
  obtain rfl := Option.some.inj hm
  exact retA_r (h2 := h) (Res.two rfl (res1.row (cs := sqC r2.1) (hr := (rdAll ((upd_ne _ _ n_b3_b1.ne.symm).trans ((upd_ne _ _ n_b4_b1.ne.symm).trans ((upd_ne _ _ n_b2_b1.ne.symm).trans (upd_same _ _ _)))))) sz28 rfl rfl (sqC_length _)) (res1.row (cs := trC r4.1) (hr := (rdAll ((upd_ne _ _ n_b3_b2.ne.symm).trans ((upd_ne _ _ n_b4_b2.ne.symm).trans (upd_same _ _ _))))) sz31 rfl rfl (trC_length _))) (Le.under (Le.under (Le.under (Le.under (Le.refl _) hb1) hb2) hb4) hb3) ⟨rfl, rfl⟩
 ·replace hm := cond_f hm g1
  refine wpA_skip ?_
  refine thenA_n ?_
  refine wpA_seq ?_
  refine wpA_region ?_
  refine Ops_quiet _ rfl rfl (QO.loadRow (cs := sqC r2.1) (hr := (rdAll (upd_same _ _ _))) rfl sz28 rfl rfl (sqC_length _)) ?_
  refine Ops_quiet _ rfl rfl (QO.loadRow (cs := sqC r2.1) (hr := (rdAll (upd_same _ _ _))) rfl sz28 rfl rfl (sqC_length _)) ?_
  have hq := Option.bind_eq_some_iff.1 hm; clear hm; obtain ⟨r5, hr5, hm⟩ := hq
  refine Ops_call _ _ rfl rfl (EO.fn rfl Try.func39 rfl rfl (Evs.cons rfl (Evs.cons rfl (Evs.cons rfl Evs.nil)))) (CC.mono (c_spec_l02All hr5 ) ?_)
  rintro _ _ ⟨b5, cap_b5, hb5, ho_b5, rfl, rfl⟩
  simp only [frO_updA, frO_updOA] at hb5
  obtain ⟨n_b5_b4, n_b5_b3, n_b5_b2, n_b5_b1, hb5⟩ := hb5
  refine Ops_quiet _ rfl rfl (QO.assign rfl rfl) ?_
  refine Ops_nil ?_
  refine thenA_n ?_
  refine wpA_seq ?_
  refine wpA_seq ?_
  refine wpA_region ?_
  refine Ops_quiet _ rfl rfl (QO.move rfl rfl) ?_
  have hq := Option.bind_eq_some_iff.1 hm; clear hm; obtain ⟨r6, hr6, hm⟩ := hq
  have hd3 : Del (updO (upd (upd (upd (upd (h) b1 (.own 28 (sqC sq0) 101)) b2 (.own 31 (trC tr0) 30)) b3 (.own 68 (srcC A0 l0.length c0 r2.2) 3)) b4 (.own 28 (sqC r2.1) 101)) b5 (.own 29 (plsC r5) (cap_b5 * 10))) b3 (.own 68 (srcC A0 l0.length c0 r2.2) 3) (updO (upd (upd (upd (h) b1 (.own 28 (sqC sq0) 101)) b2 (.own 31 (trC tr0) 30)) b4 (.own 28 (sqC r2.1) 101)) b5 (.own 29 (plsC r5) (cap_b5 * 10))) := (Del.thereO n_b5_b3 (Del.there n_b4_b3.ne.symm (Del.here (none_upd n_b3_b2.ne (none_upd n_b3_b1.ne hb3)))))
  refine Ops_call _ _ rfl rfl (EO.fn rfl Try.func40 rfl rfl (Evs.cons rfl (Evs.cons rfl Evs.nil))) (CC.mono (CC.atLe (c_spec_l01Next (h := updO (upd (upd (upd (h) b1 (.own 28 (sqC sq0) 101)) b2 (.own 31 (trC tr0) 30)) b4 (.own 28 (sqC r2.1) 101)) b5 (.own 29 (plsC r5) (cap_b5 * 10))) hr6 (RdS.le hs0 (Le.underO (Le.under (Le.under (Le.under (Le.refl _) hb1) hb2) hb4) hb5)) hd3.none) hd3.le) ?_)
  rintro _ _ ⟨rfl, rfl⟩
  refine Ops_quiet _ rfl rfl (QO.bin rfl rfl rfl rfl) ?_
  refine Ops_quiet _ rfl rfl (QO.move rfl rfl) ?_
  refine Ops_case 24 rfl (fun g2 => ?_) (fun g2 => ?_)
  ·replace hm := cond_t hm g2
   refine Ops_quiet _ rfl rfl (QO.move rfl rfl) ?_
   refine Ops_quiet _ rfl rfl (QO.lenSl rfl sz59 rfl) ?_
   refine Ops_quiet _ rfl rfl (QO.bin rfl rfl rfl rfl) ?_
   refine Ops_quiet _ rfl rfl (QO.pick_t rfl rfl rfl) ?_
   refine Ops_nil ?_
   refine thenA_n ?_
   refine wpA_cond rfl (fun g3 => ?_) (fun g3 => ?_)
   ·replace hm := cond_t hm g3
    refine wpA_seq ?_
    refine wpA_region ?_
    refine Ops_quiet _ rfl rfl (QO.move rfl rfl) ?_
    refine Ops_quiet _ rfl rfl (QO.move rfl rfl) ?_
    refine Ops_quiet _ rfl rfl (QO.move rfl rfl) ?_
    refine Ops_quiet _ rfl rfl (QO.lenSl rfl sz59 rfl) ?_
    have hq := Option.bind_eq_some_iff.1 hm; clear hm; obtain ⟨r7, hr7, hm⟩ := hq
    have hd4 : Del (upd (updO (upd (upd (upd (h) b1 (.own 28 (sqC sq0) 101)) b2 (.own 31 (trC tr0) 30)) b4 (.own 28 (sqC r2.1) 101)) b5 (.own 29 (plsC r5) (cap_b5 * 10))) b3 (.own 68 (srcC A0 l0.length c0 r6.2) 3)) b3 (.own 68 (srcC A0 l0.length c0 r6.2) 3) (updO (upd (upd (upd (h) b1 (.own 28 (sqC sq0) 101)) b2 (.own 31 (trC tr0) 30)) b4 (.own 28 (sqC r2.1) 101)) b5 (.own 29 (plsC r5) (cap_b5 * 10))) := (Del.here (none_updO n_b5_b3 (none_upd n_b4_b3.ne.symm (none_upd n_b3_b2.ne (none_upd n_b3_b1.ne hb3)))))
    refine Ops_call _ _ rfl rfl (EO.fn rfl Try.func40 rfl rfl (Evs.cons rfl (Evs.cons rfl Evs.nil))) (CC.mono (CC.atLe (c_spec_l01Next (h := updO (upd (upd (upd (h) b1 (.own 28 (sqC sq0) 101)) b2 (.own 31 (trC tr0) 30)) b4 (.own 28 (sqC r2.1) 101)) b5 (.own 29 (plsC r5) (cap_b5 * 10))) hr7 (RdS.le hs0 (Le.underO (Le.under (Le.under (Le.under (Le.refl _) hb1) hb2) hb4) hb5)) hd4.none) hd4.le) ?_)
    rintro _ _ ⟨rfl, rfl⟩
    have hq := chk hm; clear hm; obtain ⟨ck1, hm⟩ := hq
    obtain ⟨b6, rfl⟩ := ho_b5.ex (by omega)
    have n_b6_b1 := n_b5_b1.ap'
    have n_b6_b2 := n_b5_b2.ap'
    have n_b6_b4 := n_b5_b4.ap'
    have n_b6_b3 := n_b5_b3.ap'
    have hb6 := hb5.of
    have hk_b6 := ho_b5.le; have hc_b6 := ho_b5.mx
    refine Ops_quiet _ rfl rfl (QO.idxSl rfl sz59 sz29 rfl rfl (by omega) (by omega)) ?_
    refine Ops_quiet _ rfl rfl (QO.loadRow (cs := tabI .u8 (r5.getD (r7.1).toNat pl0) 10) (hr := (by first | exact rdAll ((upd_ne _ _ n_b6_b3.ne).trans (upd_same _ _ _)) | exact rdSqRow ((upd_ne _ _ n_b6_b3.ne).trans (upd_same _ _ _)) (by omega) | exact rdSqTab ((upd_ne _ _ n_b6_b3.ne).trans (upd_same _ _ _)) | exact rdTbRow ((upd_ne _ _ n_b6_b3.ne).trans (upd_same _ _ _)) (by omega) | exact rdPlAt ((upd_ne _ _ n_b6_b3.ne).trans (upd_same _ _ _)) (by omega) | exact rdSqAt ((upd_ne _ _ n_b6_b3.ne).trans (upd_same _ _ _)) (by omega) | exact rdTrA ((upd_ne _ _ n_b6_b3.ne).trans (upd_same _ _ _)) | exact rdTrB ((upd_ne _ _ n_b6_b3.ne).trans (upd_same _ _ _)) | exact rdTrC ((upd_ne _ _ n_b6_b3.ne).trans (upd_same _ _ _)))) rfl sz29 rfl rfl (tabI_length _ _ _)) ?_
    refine Ops_loud rfl (LO.alloc rfl zr29 rfl (fun b7 hb7 => ?_))
    simp only [updO_some, upd_noneA] at hb7
    obtain ⟨n_b7_b3, n_b7_b6, n_b7_b4, n_b7_b2, n_b7_b1, hb7⟩ := hb7
    refine Ops_loud rfl (LO.storeAll (cs := tabI .u8 (r5.getD (r7.1).toNat pl0) 10) rfl sz29 rfl rfl (tabI_one _ _ _) (tabI_length _ _ _) (upd_same _ _ _) (tabI_length _ _ _) Chg.here rfl ?_)
    refine Ops_nil ?_
    refine thenA_n ?_
    refine wpA_seq ?_
    refine wpA_any (upd (upd (upd (upd (upd (h) b2 (.own 31 (trC tr0) 30)) b4 (.own 28 (sqC r2.1) 101)) b6 (.own 29 (plsC r5) (cap_b5 * 10))) b3 (.own 68 (srcC A0 l0.length c0 r7.2) 3)) b7 (.own 29 (tabI .u8 (r5.getD (r7.1).toNat pl0) 10) 10)) [5, 6] [6] (by kernel_rfl) (by kernel_rfl) (DW.start ?_)
    refine DW.read' 0 _ rfl (by kernel_rfl) rfl (QO.loadRow (cs := sqC r2.1) (hr := (rdAll ((upd_ne _ _ n_b7_b4.ne.symm).trans ((upd_ne _ _ n_b4_b3.ne).trans ((upd_ne _ _ n_b6_b4.ne.symm).trans (upd_same _ _ _)))))) rfl sz28 rfl rfl (sqC_length _)) ?_
    refine DW.readK' 1 _ rfl (by kernel_rfl) rfl (Le.upd_left (Le.upd_left (Le.upd_left (Le.upd_left (Le.upd_left (Le.under (Le.under (Le.under (Le.under (Le.under (Le.under (Le.refl _) hb1) hb2) hb4) hb6) hb3) hb7) ((upd_ne _ _ n_b7_b2.ne.symm).trans ((upd_ne _ _ n_b3_b2.ne.symm).trans ((upd_ne _ _ n_b6_b2.ne.symm).trans ((upd_ne _ _ n_b4_b2.ne.symm).trans (upd_same _ _ _))))) (by first | rfl | (simp; done))) ((upd_ne _ _ n_b7_b4.ne.symm).trans ((upd_ne _ _ n_b4_b3.ne).trans ((upd_ne _ _ n_b6_b4.ne.symm).trans (upd_same _ _ _)))) (by first | rfl | (simp; done))) ((upd_ne _ _ n_b7_b6.ne.symm).trans ((upd_ne _ _ n_b6_b3.ne).trans (upd_same _ _ _))) (by first | rfl | (simp; done))) ((upd_ne _ _ n_b7_b3.ne.symm).trans (upd_same _ _ _)) (by first | rfl | (simp; done))) (upd_same _ _ _) (by first | rfl | (simp; done))) (QO.loadRow (cs := tabI .u8 (r5.getD (r7.1).toNat pl0) 10) (hr := (rdAll (upd_same _ _ _))) rfl sz29 rfl rfl (tabI_length _ _ _)) ?_
    refine DW.readK' 2 _ rfl (by kernel_rfl) rfl (Le.upd_left (Le.upd_left (Le.upd_left (Le.upd_left (Le.upd_left (Le.under (Le.under (Le.under (Le.under (Le.under (Le.under (Le.refl _) hb1) hb2) hb4) hb6) hb3) hb7) ((upd_ne _ _ n_b7_b2.ne.symm).trans ((upd_ne _ _ n_b3_b2.ne.symm).trans ((upd_ne _ _ n_b6_b2.ne.symm).trans ((upd_ne _ _ n_b4_b2.ne.symm).trans (upd_same _ _ _))))) (by first | rfl | (simp; done))) ((upd_ne _ _ n_b7_b4.ne.symm).trans ((upd_ne _ _ n_b4_b3.ne).trans ((upd_ne _ _ n_b6_b4.ne.symm).trans (upd_same _ _ _)))) (by first | rfl | (simp; done))) ((upd_ne _ _ n_b7_b6.ne.symm).trans ((upd_ne _ _ n_b6_b3.ne).trans (upd_same _ _ _))) (by first | rfl | (simp; done))) ((upd_ne _ _ n_b7_b3.ne.symm).trans (upd_same _ _ _)) (by first | rfl | (simp; done))) (upd_same _ _ _) (by first | rfl | (simp; done))) (QO.loadRow (cs := tabI .u8 (r5.getD (r7.1).toNat pl0) 10) (hr := (rdAll (upd_same _ _ _))) rfl sz29 rfl rfl (tabI_length _ _ _)) ?_
    refine DW.readK' 3 _ rfl (by kernel_rfl) rfl (Le.upd_left (Le.upd_left (Le.upd_left (Le.upd_left (Le.upd_left (Le.under (Le.under (Le.under (Le.under (Le.under (Le.under (Le.refl _) hb1) hb2) hb4) hb6) hb3) hb7) ((upd_ne _ _ n_b7_b2.ne.symm).trans ((upd_ne _ _ n_b3_b2.ne.symm).trans ((upd_ne _ _ n_b6_b2.ne.symm).trans ((upd_ne _ _ n_b4_b2.ne.symm).trans (upd_same _ _ _))))) (by first | rfl | (simp; done))) ((upd_ne _ _ n_b7_b4.ne.symm).trans ((upd_ne _ _ n_b4_b3.ne).trans ((upd_ne _ _ n_b6_b4.ne.symm).trans (upd_same _ _ _)))) (by first | rfl | (simp; done))) ((upd_ne _ _ n_b7_b6.ne.symm).trans ((upd_ne _ _ n_b6_b3.ne).trans (upd_same _ _ _))) (by first | rfl | (simp; done))) ((upd_ne _ _ n_b7_b3.ne.symm).trans (upd_same _ _ _)) (by first | rfl | (simp; done))) (upd_same _ _ _) (by first | rfl | (simp; done))) (QO.loadRow (cs := tabI .u8 (r5.getD (r7.1).toNat pl0) 10) (hr := (rdAll (upd_same _ _ _))) rfl sz29 rfl rfl (tabI_length _ _ _)) ?_
    refine DW.pure' 4 _ rfl (by kernel_rfl) rfl (fun _ => QO.build3 rfl rfl rfl rfl (bd31_0_1_2 (r5.getD (r7.1).toNat pl0) (r5.getD (r7.1).toNat pl0) (r5.getD (r7.1).toNat pl0))) ?_
    refine DW.loud 5 rfl (by kernel_rfl) rfl rfl (LO.storeAll (cs := sqC r2.1) rfl sz28 rfl rfl (sqC_one _) (sqC_length _) ((upd_ne _ _ n_b7_b1.ne.symm).trans ((upd_ne _ _ n_b3_b1.ne.symm).trans ((upd_ne _ _ n_b6_b1.ne.symm).trans ((upd_ne _ _ n_b4_b1.ne.symm).trans ((upd_ne _ _ n_b2_b1.ne.symm).trans (upd_same _ _ _)))))) (sqC_length _) (Chg.there n_b7_b1.ne (Chg.there n_b3_b1.ne (Chg.there n_b6_b1.ne (Chg.there n_b4_b1.ne (Chg.there n_b2_b1.ne Chg.here))))) rfl ?_)
    refine ⟨(fun _ => (Le.upd_left (Le.upd_left (Le.upd_left (Le.upd_left (Le.upd_left (Le.under (Le.under (Le.under (Le.under (Le.under (Le.under (Le.refl _) hb1) hb2) hb4) hb6) hb3) hb7) ((upd_ne _ _ n_b7_b2.ne.symm).trans ((upd_ne _ _ n_b3_b2.ne.symm).trans ((upd_ne _ _ n_b6_b2.ne.symm).trans ((upd_ne _ _ n_b4_b2.ne.symm).trans (upd_same _ _ _))))) (by first | rfl | (simp; done))) ((upd_ne _ _ n_b7_b4.ne.symm).trans ((upd_ne _ _ n_b4_b3.ne).trans ((upd_ne _ _ n_b6_b4.ne.symm).trans (upd_same _ _ _)))) (by first | rfl | (simp; done))) ((upd_ne _ _ n_b7_b6.ne.symm).trans ((upd_ne _ _ n_b6_b3.ne).trans (upd_same _ _ _))) (by first | rfl | (simp; done))) ((upd_ne _ _ n_b7_b3.ne.symm).trans (upd_same _ _ _)) (by first | rfl | (simp; done))) (upd_same _ _ _) (by first | rfl | (simp; done)))), ?_⟩
    refine DW.loud 6 rfl (by kernel_rfl) rfl rfl (LO.storeAll (cs := trC (⟨(r5.getD (r7.1).toNat pl0), (r5.getD (r7.1).toNat pl0), (r5.getD (r7.1).toNat pl0)⟩ : Tr)) rfl sz31 rfl rfl (trC_one _) (trC_length _) ((upd_ne _ _ n_b7_b2.ne.symm).trans ((upd_ne _ _ n_b3_b2.ne.symm).trans ((upd_ne _ _ n_b6_b2.ne.symm).trans ((upd_ne _ _ n_b4_b2.ne.symm).trans (upd_same _ _ _))))) (trC_length _) (Chg.there n_b7_b2.ne (Chg.there n_b3_b2.ne (Chg.there n_b6_b2.ne (Chg.there n_b4_b2.ne Chg.here)))) rfl ?_)
    refine ⟨(fun e => absurd e (by decide)), ?_⟩
    refine DW.done (by kernel_rfl) ?_ _
    refine thenA_n ?_
    refine wpA_ret ?_
    refine thenA_r ?_
    obtain rfl := Option.some.inj hm
    exact retA_r (h2 := h) (Res.two rfl (res1.row (cs := sqC r2.1) (hr := (rdAll ((upd_ne _ _ n_b7_b1.ne.symm).trans ((upd_ne _ _ n_b3_b1.ne.symm).trans ((upd_ne _ _ n_b6_b1.ne.symm).trans ((upd_ne _ _ n_b4_b1.ne.symm).trans ((upd_ne _ _ n_b2_b1.ne.symm).trans (upd_same _ _ _)))))))) sz28 rfl rfl (sqC_length _)) (res1.row (cs := trC (⟨(r5.getD (r7.1).toNat pl0), (r5.getD (r7.1).toNat pl0), (r5.getD (r7.1).toNat pl0)⟩ : Tr)) (hr := (rdAll ((upd_ne _ _ n_b7_b2.ne.symm).trans ((upd_ne _ _ n_b3_b2.ne.symm).trans ((upd_ne _ _ n_b6_b2.ne.symm).trans ((upd_ne _ _ n_b4_b2.ne.symm).trans (upd_same _ _ _))))))) sz31 rfl rfl (trC_length _))) (Le.under (Le.under (Le.under (Le.under (Le.under (Le.under (Le.refl _) hb1) hb2) hb4) hb6) hb3) hb7) ⟨rfl, rfl⟩
   ·replace hm := cond_f hm g3
    refine wpA_skip ?_
    refine thenA_n ?_
    refine wpA_seq ?_
    refine wpA_any (updO (upd (upd (h) b2 (.own 31 (trC tr0) 30)) b4 (.own 28 (sqC r2.1) 101)) b5 (.own 29 (plsC r5) (cap_b5 * 10))) [4, 5, 6] [6] (by kernel_rfl) (by kernel_rfl) (DW.start ?_)
    refine DW.readK' 0 _ rfl (by kernel_rfl) rfl (Le.upd_leftO (Le.upd_left (Le.upd_left (Le.under (Le.underO (Le.under (Le.under (Le.under (Le.refl _) hb1) hb2) hb4) hb5) hb3) ((upd_ne _ _ n_b3_b2.ne.symm).trans ((updO_ne n_b5_b2).trans ((upd_ne _ _ n_b4_b2.ne.symm).trans (upd_same _ _ _)))) (by first | rfl | (simp; done))) ((upd_ne _ _ n_b4_b3.ne).trans ((updO_ne n_b5_b4).trans (upd_same _ _ _))) (by first | rfl | (simp; done))) (LkO.there n_b5_b3 LkO.here) (by first | rfl | (simp; done))) (QO.loadRow (cs := sqC r2.1) (hr := (rdAll ((updO_ne n_b5_b4).trans (upd_same _ _ _)))) rfl sz28 rfl rfl (sqC_length _)) ?_
    refine DW.pure' 1 _ rfl (by kernel_rfl) rfl (fun _ => QO.move rfl rfl) ?_
    refine DW.pure' 2 _ rfl (by kernel_rfl) rfl (fun _ => QO.fieldAt (fo := 0) rfl sz28 rfl rfl sz2 rfl rfl) ?_
    refine DW.read' 3 _ rfl (by kernel_rfl) rfl (QO.load rfl sz2 rfl rfl (by (refine (rd_own ((upd_ne _ _ n_b4_b3.ne).trans ((updO_ne n_b5_b4).trans (upd_same _ _ _))) _).trans ?_); exact rfl)) ?_
    have hq := Option.bind_eq_some_iff.1 hm; clear hm; obtain ⟨r8, hr8, hm⟩ := hq
    have hd5 : Del (upd (updO (upd (upd (upd (h) b1 (.own 28 (sqC sq0) 101)) b2 (.own 31 (trC tr0) 30)) b4 (.own 28 (sqC r2.1) 101)) b5 (.own 29 (plsC r5) (cap_b5 * 10))) b3 (.own 68 (srcC A0 l0.length c0 r6.2) 3)) b3 (.own 68 (srcC A0 l0.length c0 r6.2) 3) (updO (upd (upd (upd (h) b1 (.own 28 (sqC sq0) 101)) b2 (.own 31 (trC tr0) 30)) b4 (.own 28 (sqC r2.1) 101)) b5 (.own 29 (plsC r5) (cap_b5 * 10))) := (Del.here (none_updO n_b5_b3 (none_upd n_b4_b3.ne.symm (none_upd n_b3_b2.ne (none_upd n_b3_b1.ne hb3)))))
    refine DW.call 4 _ _ rfl (by kernel_rfl) rfl rfl (EO.fn rfl Try.func26 rfl rfl (Evs.cons rfl (Evs.cons rfl Evs.nil))) (CC.mono (CC.atLe (c_spec_l02Draw (h := updO (upd (upd (upd (h) b1 (.own 28 (sqC sq0) 101)) b2 (.own 31 (trC tr0) 30)) b4 (.own 28 (sqC r2.1) 101)) b5 (.own 29 (plsC r5) (cap_b5 * 10))) hr8 (RdS.le hs0 (Le.underO (Le.under (Le.under (Le.under (Le.refl _) hb1) hb2) hb4) hb5)) hd5.none) hd5.le) ?_)
    rintro _ _ ⟨rfl, rfl⟩
    refine ⟨(fun _ => (Le.upd_leftO (Le.upd_left (Le.upd_left (Le.under (Le.underO (Le.under (Le.under (Le.under (Le.refl _) hb1) hb2) hb4) hb5) hb3) ((upd_ne _ _ n_b3_b2.ne.symm).trans ((updO_ne n_b5_b2).trans ((upd_ne _ _ n_b4_b2.ne.symm).trans (upd_same _ _ _)))) (by first | rfl | (simp; done))) ((upd_ne _ _ n_b4_b3.ne).trans ((updO_ne n_b5_b4).trans (upd_same _ _ _))) (by first | rfl | (simp; done))) (LkO.there n_b5_b3 LkO.here) (by first | rfl | (simp; done)))), ?_⟩
    refine DW.loud 5 rfl (by kernel_rfl) rfl rfl (LO.storeAll (cs := sqC r2.1) rfl sz28 rfl rfl (sqC_one _) (sqC_length _) ((upd_ne _ _ n_b3_b1.ne.symm).trans ((updO_ne n_b5_b1).trans ((upd_ne _ _ n_b4_b1.ne.symm).trans ((upd_ne _ _ n_b2_b1.ne.symm).trans (upd_same _ _ _))))) (sqC_length _) (Chg.there n_b3_b1.ne (Chg.thereO n_b5_b1 (Chg.there n_b4_b1.ne (Chg.there n_b2_b1.ne Chg.here)))) rfl ?_)
    refine ⟨(fun _ => (Le.upd_leftO (Le.upd_left (Le.upd_left (Le.under (Le.underO (Le.under (Le.under (Le.under (Le.refl _) hb1) hb2) hb4) hb5) hb3) ((upd_ne _ _ n_b3_b2.ne.symm).trans ((updO_ne n_b5_b2).trans ((upd_ne _ _ n_b4_b2.ne.symm).trans (upd_same _ _ _)))) (by first | rfl | (simp; done))) ((upd_ne _ _ n_b4_b3.ne).trans ((updO_ne n_b5_b4).trans (upd_same _ _ _))) (by first | rfl | (simp; done))) (LkO.there n_b5_b3 LkO.here) (by first | rfl | (simp; done)))), ?_⟩
    refine DW.loud 6 rfl (by kernel_rfl) rfl rfl (LO.storeAll (cs := trC r8.1) rfl sz31 rfl rfl (trC_one _) (trC_length _) ((upd_ne _ _ n_b3_b2.ne.symm).trans ((updO_ne n_b5_b2).trans ((upd_ne _ _ n_b4_b2.ne.symm).trans (upd_same _ _ _)))) (trC_length _) (Chg.there n_b3_b2.ne (Chg.thereO n_b5_b2 (Chg.there n_b4_b2.ne Chg.here))) rfl ?_)
    refine ⟨(fun e => absurd e (by decide)), ?_⟩
    refine DW.done (by kernel_rfl) ?_ _
    refine thenA_n ?_
    refine wpA_ret ?_
    obtain rfl := Option.some.inj hm
    exact retA_r (h2 := h) (Res.two rfl (res1.row (cs := sqC r2.1) (hr := (rdAll ((upd_ne _ _ n_b3_b1.ne.symm).trans ((updO_ne n_b5_b1).trans ((upd_ne _ _ n_b4_b1.ne.symm).trans ((upd_ne _ _ n_b2_b1.ne.symm).trans (upd_same _ _ _))))))) sz28 rfl rfl (sqC_length _)) (res1.row (cs := trC r8.1) (hr := (rdAll ((upd_ne _ _ n_b3_b2.ne.symm).trans ((updO_ne n_b5_b2).trans ((upd_ne _ _ n_b4_b2.ne.symm).trans (upd_same _ _ _)))))) sz31 rfl rfl (trC_length _))) (Le.under (Le.underO (Le.under (Le.under (Le.under (Le.refl _) hb1) hb2) hb4) hb5) hb3) ⟨rfl, rfl⟩
  ·replace hm := cond_f hm g2
   refine Ops_skip rfl rfl ?_
   refine Ops_skip rfl rfl ?_
   refine Ops_skip rfl rfl ?_
   refine Ops_quiet _ rfl rfl (QO.pick_f rfl rfl rfl) ?_
   refine Ops_nil ?_
   refine thenA_n ?_
   refine wpA_cond_f rfl ?_
   refine wpA_skip ?_
   refine thenA_n ?_
   refine wpA_seq ?_
   refine wpA_any (updO (upd (upd (h) b2 (.own 31 (trC tr0) 30)) b4 (.own 28 (sqC r2.1) 101)) b5 (.own 29 (plsC r5) (cap_b5 * 10))) [4, 5, 6] [6] (by kernel_rfl) (by kernel_rfl) (DW.start ?_)
   refine DW.readK' 0 _ rfl (by kernel_rfl) rfl (Le.upd_leftO (Le.upd_left (Le.upd_left (Le.under (Le.underO (Le.under (Le.under (Le.under (Le.refl _) hb1) hb2) hb4) hb5) hb3) ((upd_ne _ _ n_b3_b2.ne.symm).trans ((updO_ne n_b5_b2).trans ((upd_ne _ _ n_b4_b2.ne.symm).trans (upd_same _ _ _)))) (by first | rfl | (simp; done))) ((upd_ne _ _ n_b4_b3.ne).trans ((updO_ne n_b5_b4).trans (upd_same _ _ _))) (by first | rfl | (simp; done))) (LkO.there n_b5_b3 LkO.here) (by first | rfl | (simp; done))) (QO.loadRow (cs := sqC r2.1) (hr := (rdAll ((updO_ne n_b5_b4).trans (upd_same _ _ _)))) rfl sz28 rfl rfl (sqC_length _)) ?_
   refine DW.pure' 1 _ rfl (by kernel_rfl) rfl (fun _ => QO.move rfl rfl) ?_
   refine DW.pure' 2 _ rfl (by kernel_rfl) rfl (fun _ => QO.fieldAt (fo := 0) rfl sz28 rfl rfl sz2 rfl rfl) ?_
   refine DW.read' 3 _ rfl (by kernel_rfl) rfl (QO.load rfl sz2 rfl rfl (by (refine (rd_own ((upd_ne _ _ n_b4_b3.ne).trans ((updO_ne n_b5_b4).trans (upd_same _ _ _))) _).trans ?_); exact rfl)) ?_
   have hq := Option.bind_eq_some_iff.1 hm; clear hm; obtain ⟨r9, hr9, hm⟩ := hq
   have hd6 : Del (upd (updO (upd (upd (upd (h) b1 (.own 28 (sqC sq0) 101)) b2 (.own 31 (trC tr0) 30)) b4 (.own 28 (sqC r2.1) 101)) b5 (.own 29 (plsC r5) (cap_b5 * 10))) b3 (.own 68 (srcC A0 l0.length c0 r6.2) 3)) b3 (.own 68 (srcC A0 l0.length c0 r6.2) 3) (updO (upd (upd (upd (h) b1 (.own 28 (sqC sq0) 101)) b2 (.own 31 (trC tr0) 30)) b4 (.own 28 (sqC r2.1) 101)) b5 (.own 29 (plsC r5) (cap_b5 * 10))) := (Del.here (none_updO n_b5_b3 (none_upd n_b4_b3.ne.symm (none_upd n_b3_b2.ne (none_upd n_b3_b1.ne hb3)))))
   refine DW.call 4 _ _ rfl (by kernel_rfl) rfl rfl (EO.fn rfl Try.func26 rfl rfl (Evs.cons rfl (Evs.cons rfl Evs.nil))) (CC.mono (CC.atLe (c_spec_l02Draw (h := updO (upd (upd (upd (h) b1 (.own 28 (sqC sq0) 101)) b2 (.own 31 (trC tr0) 30)) b4 (.own 28 (sqC r2.1) 101)) b5 (.own 29 (plsC r5) (cap_b5 * 10))) hr9 (RdS.le hs0 (Le.underO (Le.under (Le.under (Le.under (Le.refl _) hb1) hb2) hb4) hb5)) hd6.none) hd6.le) ?_)
   rintro _ _ ⟨rfl, rfl⟩
   refine ⟨(fun _ => (Le.upd_leftO (Le.upd_left (Le.upd_left (Le.under (Le.underO (Le.under (Le.under (Le.under (Le.refl _) hb1) hb2) hb4) hb5) hb3) ((upd_ne _ _ n_b3_b2.ne.symm).trans ((updO_ne n_b5_b2).trans ((upd_ne _ _ n_b4_b2.ne.symm).trans (upd_same _ _ _)))) (by first | rfl | (simp; done))) ((upd_ne _ _ n_b4_b3.ne).trans ((updO_ne n_b5_b4).trans (upd_same _ _ _))) (by first | rfl | (simp; done))) (LkO.there n_b5_b3 LkO.here) (by first | rfl | (simp; done)))), ?_⟩
   refine DW.loud 5 rfl (by kernel_rfl) rfl rfl (LO.storeAll (cs := sqC r2.1) rfl sz28 rfl rfl (sqC_one _) (sqC_length _) ((upd_ne _ _ n_b3_b1.ne.symm).trans ((updO_ne n_b5_b1).trans ((upd_ne _ _ n_b4_b1.ne.symm).trans ((upd_ne _ _ n_b2_b1.ne.symm).trans (upd_same _ _ _))))) (sqC_length _) (Chg.there n_b3_b1.ne (Chg.thereO n_b5_b1 (Chg.there n_b4_b1.ne (Chg.there n_b2_b1.ne Chg.here)))) rfl ?_)
   refine ⟨(fun _ => (Le.upd_leftO (Le.upd_left (Le.upd_left (Le.under (Le.underO (Le.under (Le.under (Le.under (Le.refl _) hb1) hb2) hb4) hb5) hb3) ((upd_ne _ _ n_b3_b2.ne.symm).trans ((updO_ne n_b5_b2).trans ((upd_ne _ _ n_b4_b2.ne.symm).trans (upd_same _ _ _)))) (by first | rfl | (simp; done))) ((upd_ne _ _ n_b4_b3.ne).trans ((updO_ne n_b5_b4).trans (upd_same _ _ _))) (by first | rfl | (simp; done))) (LkO.there n_b5_b3 LkO.here) (by first | rfl | (simp; done)))), ?_⟩
   refine DW.loud 6 rfl (by kernel_rfl) rfl rfl (LO.storeAll (cs := trC r9.1) rfl sz31 rfl rfl (trC_one _) (trC_length _) ((upd_ne _ _ n_b3_b2.ne.symm).trans ((updO_ne n_b5_b2).trans ((upd_ne _ _ n_b4_b2.ne.symm).trans (upd_same _ _ _)))) (trC_length _) (Chg.there n_b3_b2.ne (Chg.thereO n_b5_b2 (Chg.there n_b4_b2.ne Chg.here))) rfl ?_)
   refine ⟨(fun e => absurd e (by decide)), ?_⟩
   refine DW.done (by kernel_rfl) ?_ _
   refine thenA_n ?_
   refine wpA_ret ?_
   obtain rfl := Option.some.inj hm
   exact retA_r (h2 := h) (Res.two rfl (res1.row (cs := sqC r2.1) (hr := (rdAll ((upd_ne _ _ n_b3_b1.ne.symm).trans ((updO_ne n_b5_b1).trans ((upd_ne _ _ n_b4_b1.ne.symm).trans ((upd_ne _ _ n_b2_b1.ne.symm).trans (upd_same _ _ _))))))) sz28 rfl rfl (sqC_length _)) (res1.row (cs := trC r9.1) (hr := (rdAll ((upd_ne _ _ n_b3_b2.ne.symm).trans ((updO_ne n_b5_b2).trans ((upd_ne _ _ n_b4_b2.ne.symm).trans (upd_same _ _ _)))))) sz31 rfl rfl (trC_length _))) (Le.under (Le.underO (Le.under (Le.under (Le.under (Le.refl _) hb1) hb2) hb4) hb5) hb3) ⟨rfl, rfl⟩

/-! loop.example/g01195/impl.IsAutotopism -/
theorem c_impl_IsAutotopism {a0 : Sq} {a1 : Tr} {h : Hp} {r : Bool × Int} (hm : m_impl_IsAutotopism a0 a1 = some r)  :
    QC Try.prog 17 #[.agg (sqC a0).toArray, .agg (trC a1).toArray] h (.tuple #[.bool r.1, .int .i64 r.2]) := by
 unfold m_impl_IsAutotopism at hm
 refine CC.enter Try.func17 rfl Try.ntmps17 rfl ?_
 refine wpA_seq ?_
 refine wpA_region ?_
 refine Ops_loud rfl (LO.boxAgg rfl rfl rfl (fun b1 hb1 => ?_))
 refine Ops_loud rfl (LO.boxAgg rfl rfl rfl (fun b2 hb2 => ?_))
 simp only [upd_noneA] at hb2
 obtain ⟨n_b2_b1, hb2⟩ := hb2
 refine Ops_quiet _ rfl rfl (QO.assign rfl rfl) ?_
 refine Ops_quiet _ rfl rfl (QO.assign rfl rfl) ?_
 refine Ops_nil ?_
 refine thenA_n ?_
 refine wpA_seq ?_
 refine wpA_seq ?_
 refine wpA_region ?_
 refine Ops_quiet _ rfl rfl (QO.loadRow (cs := sqC a0) (hr := (rdAll ((upd_ne _ _ n_b2_b1.ne.symm).trans (upd_same _ _ _)))) rfl sz28 rfl rfl (sqC_length _)) ?_
 have hq := Option.bind_eq_some_iff.1 hm; clear hm; obtain ⟨r1, hr1, hm⟩ := hq
 refine Ops_call _ _ rfl rfl (EO.fn rfl Try.func23 rfl rfl (Evs.cons rfl Evs.nil)) (QC.cc (c_impl_IsSquare hr1 ) ?_)
 refine Ops_quiet _ rfl rfl (QO.not rfl rfl) ?_
 refine Ops_quiet _ rfl rfl (QO.move rfl rfl) ?_
 refine Ops_case 9 rfl (fun g1 => ?_) (fun g1 => ?_)
 ·replace hm := cond_t hm g1
  refine Ops_skip rfl rfl ?_
  refine Ops_skip rfl rfl ?_
  refine Ops_skip rfl rfl ?_
  refine Ops_skip rfl rfl ?_
  refine Ops_skip rfl rfl ?_
  refine Ops_quiet _ rfl rfl (QO.pick_t rfl rfl rfl) ?_
  refine Ops_nil ?_
  refine thenA_n ?_
  refine wpA_cond_t rfl ?_
  refine wpA_seq ?_
  refine wpA_region ?_
  refine Ops_quiet _ rfl rfl (QO.assign rfl rfl) ?_
  refine Ops_quiet _ rfl rfl (QO.assign rfl rfl) ?_
  refine Ops_nil ?_
  refine thenA_n ?_
  refine wpA_ret ?_
  refine thenA_r ?_
  obtain rfl := Option.some.inj hm
  exact retA_r (h2 := h) (Res.two rfl (rfl) (rfl)) (Le.under (Le.under (Le.refl _) hb1) hb2) ⟨rfl, rfl⟩
 ·replace hm := cond_f hm g1
  refine Ops_quiet _ rfl rfl (QO.loadRow (cs := trC a1) (hr := (rdAll (upd_same _ _ _))) rfl sz31 rfl rfl (trC_length _)) ?_
  refine Ops_quiet _ rfl rfl (QO.fieldAt (fo := 0) rfl sz28 rfl rfl sz2 rfl rfl) ?_
  refine Ops_quiet _ rfl rfl (QO.load rfl sz2 rfl rfl (by (refine (rd_own ((upd_ne _ _ n_b2_b1.ne.symm).trans (upd_same _ _ _)) _).trans ?_); exact rfl)) ?_
  have hq := Option.bind_eq_some_iff.1 hm; clear hm; obtain ⟨r2, hr2, hm⟩ := hq
  refine Ops_call _ _ rfl rfl (EO.fn rfl Try.func14 rfl rfl (Evs.cons rfl (Evs.cons rfl Evs.nil))) (QC.cc (c_impl_IsTriple hr2 ) ?_)
  refine Ops_quiet _ rfl rfl (QO.not rfl rfl) ?_
  refine Ops_quiet _ rfl rfl (QO.pick_f rfl rfl rfl) ?_
  refine Ops_nil ?_
  refine thenA_n ?_
  refine wpA_cond rfl (fun g2 => ?_) (fun g2 => ?_)
  ·replace hm := cond_t hm g2
   refine wpA_seq ?_
   refine wpA_region ?_
   refine Ops_quiet _ rfl rfl (QO.assign rfl rfl) ?_
   refine Ops_quiet _ rfl rfl (QO.assign rfl rfl) ?_
   refine Ops_nil ?_
   refine thenA_n ?_
   refine wpA_ret ?_
   refine thenA_r ?_
   obtain rfl := Option.some.inj hm
   exact retA_r (h2 := h) (Res.two rfl (rfl) (rfl)) (Le.under (Le.under (Le.refl _) hb1) hb2) ⟨rfl, rfl⟩
  ·replace hm := cond_f hm g2
   refine wpA_skip ?_
   refine thenA_n ?_
   refine wpA_seq ?_
   refine wpA_drawn (by kernel_rfl) (by kernel_rfl) ?_
   refine QOps.quiet _ rfl rfl (QO.loadRow (cs := sqC a0) (hr := (rdAll ((upd_ne _ _ n_b2_b1.ne.symm).trans (upd_same _ _ _)))) rfl sz28 rfl rfl (sqC_length _)) ?_
   refine QOps.quiet _ rfl rfl (QO.loadRow (cs := trC a1) (hr := (rdAll (upd_same _ _ _))) rfl sz31 rfl rfl (trC_length _)) ?_
   have hq := Option.bind_eq_some_iff.1 hm; clear hm; obtain ⟨r3, hr3, hm⟩ := hq
   refine QOps.call _ _ _ rfl rfl (EO.fn rfl Try.func27 rfl rfl (Evs.cons rfl (Evs.cons rfl Evs.nil))) (c_impl_isotope hr3 ) ?_
   refine QOps.quiet _ rfl rfl (QO.loadRow (cs := sqC a0) (hr := (rdAll ((upd_ne _ _ n_b2_b1.ne.symm).trans (upd_same _ _ _)))) rfl sz28 rfl rfl (sqC_length _)) ?_
   refine QOps.quiet _ rfl rfl (QO.agg_eql rfl rfl rfl eg28 (eqv28 _ _) rfl) ?_
   refine QOps.quiet _ rfl rfl (QO.assign rfl rfl) ?_
   refine QOps.quiet _ rfl rfl (QO.assign rfl rfl) ?_
   refine QOps.nil ?_
   refine thenA_n ?_
   refine wpA_ret ?_
   obtain rfl := Option.some.inj hm
   exact retA_r (h2 := h) (Res.two rfl (rfl) (rfl)) (Le.under (Le.under (Le.refl _) hb1) hb2) ⟨rfl, rfl⟩

/-! loop.example/g01195/spec.IsAutotopism -/
theorem c_spec_IsAutotopism {a0 : Sq} {a1 : Tr} {h : Hp} {r : Bool × Int} (hm : m_spec_IsAutotopism a0 a1 = some r)  :
    QC Try.prog 18 #[.agg (sqC a0).toArray, .agg (trC a1).toArray] h (.tuple #[.bool r.1, .int .i64 r.2]) := by
 unfold m_spec_IsAutotopism at hm
 refine CC.enter Try.func18 rfl Try.ntmps18 rfl ?_
 refine wpA_seq ?_
 refine wpA_region ?_
 refine Ops_loud rfl (LO.boxAgg rfl rfl rfl (fun b1 hb1 => ?_))
 refine Ops_loud rfl (LO.boxAgg rfl rfl rfl (fun b2 hb2 => ?_))
 simp only [upd_noneA] at hb2
 obtain ⟨n_b2_b1, hb2⟩ := hb2
 refine Ops_quiet _ rfl rfl (QO.assign rfl rfl) ?_
 refine Ops_quiet _ rfl rfl (QO.assign rfl rfl) ?_
 refine Ops_nil ?_
 refine thenA_n ?_
 refine wpA_seq ?_
 refine wpA_seq ?_
 refine wpA_region ?_
 refine Ops_quiet _ rfl rfl (QO.loadRow (cs := sqC a0) (hr := (rdAll ((upd_ne _ _ n_b2_b1.ne.symm).trans (upd_same _ _ _)))) rfl sz28 rfl rfl (sqC_length _)) ?_
 refine Ops_quiet _ rfl rfl (QO.loadRow (cs := trC a1) (hr := (rdAll (upd_same _ _ _))) rfl sz31 rfl rfl (trC_length _)) ?_
 have hq := Option.bind_eq_some_iff.1 hm; clear hm; obtain ⟨r1, hr1, hm⟩ := hq
 refine Ops_call _ _ rfl rfl (EO.fn rfl Try.func28 rfl rfl (Evs.cons rfl (Evs.cons rfl Evs.nil))) (QC.cc (c_spec_l02Code hr1 ) ?_)
 refine Ops_quiet _ rfl rfl (QO.assign rfl rfl) ?_
 refine Ops_nil ?_
 refine thenA_n ?_
 refine wpA_seq ?_
 refine wpA_region ?_
 refine Ops_quiet _ rfl rfl (QO.move rfl rfl) ?_
 refine Ops_quiet _ rfl rfl (QO.bin rfl rfl rfl rfl) ?_
 refine Ops_nil ?_
 refine thenA_n ?_
 refine wpA_cond rfl (fun g1 => ?_) (fun g1 => ?_)
 ·replace hm := cond_t hm g1
  refine wpA_seq ?_
  refine wpA_region ?_
  refine Ops_quiet _ rfl rfl (QO.move rfl rfl) ?_
  refine Ops_quiet _ rfl rfl (QO.assign rfl rfl) ?_
  refine Ops_quiet _ rfl rfl (QO.assign rfl rfl) ?_
  refine Ops_nil ?_
  refine thenA_n ?_
  refine wpA_ret ?_
  refine thenA_r ?_
  obtain rfl := Option.some.inj hm
  exact retA_r (h2 := h) (Res.two rfl (rfl) (rfl)) (Le.under (Le.under (Le.refl _) hb1) hb2) ⟨rfl, rfl⟩
 ·replace hm := cond_f hm g1
  refine wpA_skip ?_
  refine thenA_n ?_
  refine wpA_seq ?_
  refine wpA_drawn (by kernel_rfl) (by kernel_rfl) ?_
  refine QOps.quiet _ rfl rfl (QO.loadRow (cs := sqC a0) (hr := (rdAll ((upd_ne _ _ n_b2_b1.ne.symm).trans (upd_same _ _ _)))) rfl sz28 rfl rfl (sqC_length _)) ?_
  refine QOps.quiet _ rfl rfl (QO.loadRow (cs := trC a1) (hr := (rdAll (upd_same _ _ _))) rfl sz31 rfl rfl (trC_length _)) ?_
  have hq := Option.bind_eq_some_iff.1 hm; clear hm; obtain ⟨r2, hr2, hm⟩ := hq
  refine QOps.call _ _ _ rfl rfl (EO.fn rfl Try.func29 rfl rfl (Evs.cons rfl (Evs.cons rfl Evs.nil))) (c_spec_l02Isotope hr2 ) ?_
  refine QOps.quiet _ rfl rfl (QO.loadRow (cs := sqC a0) (hr := (rdAll ((upd_ne _ _ n_b2_b1.ne.symm).trans (upd_same _ _ _)))) rfl sz28 rfl rfl (sqC_length _)) ?_
  refine QOps.quiet _ rfl rfl (QO.agg_eql rfl rfl rfl eg28 (eqv28 _ _) rfl) ?_
  refine QOps.quiet _ rfl rfl (QO.assign rfl rfl) ?_
  refine QOps.quiet _ rfl rfl (QO.assign rfl rfl) ?_
  refine QOps.nil ?_
  refine thenA_n ?_
  refine wpA_ret ?_
  obtain rfl := Option.some.inj hm
  exact retA_r (h2 := h) (Res.two rfl (rfl) (rfl)) (Le.under (Le.under (Le.refl _) hb1) hb2) ⟨rfl, rfl⟩

/-! loop.example/g01195/spec.DrawLoopAt -/
theorem c_spec_DrawLoopAt {l0 : (List Int)} {A0 : Option Addr} {c0 : Nat} {h : Hp} {r : Sq × Int × Int} (hm : m_spec_DrawLoopAt l0 = some r) (hs0 : RdS h A0 (ints .u8 l0)) :
    QC Try.prog 19 #[.slice A0 l0.length c0] h (.tuple #[.agg (sqC r.1).toArray, .int .u8 r.2.1, .int .u8 r.2.2]) := by
 unfold m_spec_DrawLoopAt at hm
 refine CC.enter Try.func19 rfl Try.ntmps19 rfl ?_
 refine wpA_seq ?_
 refine wpA_region ?_
 refine Ops_loud rfl (LO.alloc rfl zr28 rfl (fun b1 hb1 => ?_))
 refine Ops_quiet _ rfl rfl (QO.assign rfl rfl) ?_
 refine Ops_quiet _ rfl rfl (QO.assign rfl rfl) ?_
 refine Ops_nil ?_
 refine thenA_n ?_
 refine wpA_seq ?_
 refine wpA_region ?_
 refine Ops_quiet _ rfl rfl (QO.move rfl rfl) ?_
 have hq := Option.bind_eq_some_iff.1 hm; clear hm; obtain ⟨r1, hr1, hm⟩ := hq
 refine Ops_call _ _ rfl rfl (EO.fn rfl Try.func24 rfl rfl (Evs.cons rfl Evs.nil)) (CC.mono (c_spec_l01From (l0 := l0) (A0 := A0) (c0 := c0) hr1 (RdS.le hs0 (Le.under (Le.refl _) hb1))) ?_)
 rintro _ _ ⟨b2, hb2, rfl, rfl⟩
 simp only [upd_noneA] at hb2
 obtain ⟨n_b2_b1, hb2⟩ := hb2
 refine Ops_quiet _ rfl rfl (QO.assign rfl rfl) ?_
 refine Ops_nil ?_
 refine thenA_n ?_
 refine wpA_seq ?_
 refine wpA_region ?_
 refine Ops_quiet _ rfl rfl (QO.move rfl rfl) ?_
 have hq := Option.bind_eq_some_iff.1 hm; clear hm; obtain ⟨r2, hr2, hm⟩ := hq
 have hd1 : Del (upd (upd (h) b1 (.own 28 (sqC sq0) 101)) b2 (.own 68 (srcC A0 l0.length c0 r1) 3)) b2 (.own 68 (srcC A0 l0.length c0 r1) 3) (upd (h) b1 (.own 28 (sqC sq0) 101)) := (Del.here (none_upd n_b2_b1.ne hb2))
 refine Ops_call _ _ rfl rfl (EO.fn rfl Try.func25 rfl rfl (Evs.cons rfl Evs.nil)) (CC.mono (CC.atLe (c_spec_l01Spoil (h := upd (h) b1 (.own 28 (sqC sq0) 101)) hr2 (RdS.le hs0 (Le.under (Le.refl _) hb1)) hd1.none) hd1.le) ?_)
 rintro _ _ ⟨rfl, rfl⟩
 refine Ops_loud rfl (LO.alloc rfl zr28 rfl (fun b3 hb3 => ?_))
 simp only [upd_noneA] at hb3
 obtain ⟨n_b3_b2, n_b3_b1, hb3⟩ := hb3
 refine Ops_loud rfl (LO.storeAll (cs := sqC r2.1) rfl sz28 rfl rfl (sqC_one _) (sqC_length _) (upd_same _ _ _) (sqC_length _) Chg.here rfl ?_)
 refine Ops_nil ?_
 refine thenA_n ?_
 refine wpA_seq ?_
 refine wpA_region ?_
 refine Ops_quiet _ rfl rfl (QO.fieldAt (fo := 0) rfl sz28 rfl rfl sz2 rfl rfl) ?_
 refine Ops_quiet _ rfl rfl (QO.load rfl sz2 rfl rfl (by (refine (rd_own (upd_same _ _ _) _).trans ?_); exact rfl)) ?_
 refine Ops_quiet _ rfl rfl (QO.max2 rfl rfl rfl) ?_
 refine Ops_quiet _ rfl rfl (QO.assign rfl rfl) ?_
 refine Ops_nil ?_
 refine thenA_n ?_
 refine wpA_seq ?_
 refine wpA_any (upd (h) b3 (.own 28 (sqC r2.1) 101)) [4, 7, 11, 13] [] (by kernel_rfl) (by kernel_rfl) (DW.start ?_)
 refine DW.readK' 0 _ rfl (by kernel_rfl) rfl (Le.upd_left (Le.under (Le.under (Le.under (Le.refl _) hb1) hb2) hb3) (upd_same _ _ _) (by first | rfl | (simp; done))) (QO.loadRow (cs := sqC r2.1) (hr := (rdAll (upd_same _ _ _))) rfl sz28 rfl rfl (sqC_length _)) ?_
 refine DW.pure' 1 _ rfl (by kernel_rfl) rfl (fun _ => QO.move rfl rfl) ?_
 refine DW.pure' 2 _ rfl (by kernel_rfl) rfl (fun _ => QO.move rfl rfl) ?_
 refine DW.pure' 3 _ rfl (by kernel_rfl) rfl (fun _ => QO.move rfl rfl) ?_
 refine DW.pure' 9 _ rfl (by kernel_rfl) rfl (fun _ => QO.move rfl rfl) ?_
 refine DW.pure' 10 _ rfl (by kernel_rfl) rfl (fun _ => QO.move rfl rfl) ?_
 have hq := Option.bind_eq_some_iff.1 hm; clear hm; obtain ⟨r3, hr3, hm⟩ := hq
 have hd2 : Del (upd (upd (upd (h) b1 (.own 28 (sqC sq0) 101)) b2 (.own 68 (srcC A0 l0.length c0 r2.2) 3)) b3 (.own 28 (sqC r2.1) 101)) b2 (.own 68 (srcC A0 l0.length c0 r2.2) 3) (upd (upd (h) b1 (.own 28 (sqC sq0) 101)) b3 (.own 28 (sqC r2.1) 101)) := (Del.there n_b3_b2.ne.symm (Del.here (none_upd n_b2_b1.ne hb2)))
 refine DW.call 4 _ _ rfl (by kernel_rfl) rfl rfl (EO.fn rfl Try.func40 rfl rfl (Evs.cons rfl (Evs.cons rfl Evs.nil))) (CC.mono (CC.atLe (c_spec_l01Next (h := upd (upd (h) b1 (.own 28 (sqC sq0) 101)) b3 (.own 28 (sqC r2.1) 101)) hr3 (RdS.le hs0 (Le.under (Le.under (Le.refl _) hb1) hb3)) hd2.none) hd2.le) ?_)
 rintro _ _ ⟨rfl, rfl⟩
 refine ⟨(fun _ => (Le.upd_left (Le.under (Le.under (Le.under (Le.refl _) hb1) hb3) hb2) ((upd_ne _ _ n_b3_b2.ne).trans (upd_same _ _ _)) (by first | rfl | (simp; done)))), ?_⟩
 refine DW.pure' 5 _ rfl (by kernel_rfl) rfl (fun _ => QO.quo rfl rfl rfl (by decide)) ?_
 refine DW.pure' 6 _ rfl (by kernel_rfl) rfl (fun _ => QO.bin rfl rfl rfl rfl) ?_
 have hq := Option.bind_eq_some_iff.1 hm; clear hm; obtain ⟨r4, hr4, hm⟩ := hq
 have hd3 : Del (upd (upd (upd (h) b1 (.own 28 (sqC sq0) 101)) b3 (.own 28 (sqC r2.1) 101)) b2 (.own 68 (srcC A0 l0.length c0 r3.2) 3)) b2 (.own 68 (srcC A0 l0.length c0 r3.2) 3) (upd (upd (h) b1 (.own 28 (sqC sq0) 101)) b3 (.own 28 (sqC r2.1) 101)) := (Del.here (none_upd n_b3_b2.ne.symm (none_upd n_b2_b1.ne hb2)))
 refine DW.call 7 _ _ rfl (by kernel_rfl) rfl rfl (EO.fn rfl Try.func40 rfl rfl (Evs.cons rfl (Evs.cons rfl Evs.nil))) (CC.mono (CC.atLe (c_spec_l01Next (h := upd (upd (h) b1 (.own 28 (sqC sq0) 101)) b3 (.own 28 (sqC r2.1) 101)) hr4 (RdS.le hs0 (Le.under (Le.under (Le.refl _) hb1) hb3)) hd3.none) hd3.le) ?_)
 rintro _ _ ⟨rfl, rfl⟩
 refine ⟨(fun _ => (Le.upd_left (Le.under (Le.under (Le.under (Le.refl _) hb1) hb3) hb2) ((upd_ne _ _ n_b3_b2.ne).trans (upd_same _ _ _)) (by first | rfl | (simp; done)))), ?_⟩
 refine DW.pure' 8 _ rfl (by kernel_rfl) rfl (fun _ => QO.conv rfl sz2 sz5 rfl) ?_
 have hq := Option.bind_eq_some_iff.1 hm; clear hm; obtain ⟨r5, hr5, hm⟩ := hq
 have hd4 : Del (upd (upd (upd (h) b1 (.own 28 (sqC sq0) 101)) b3 (.own 28 (sqC r2.1) 101)) b2 (.own 68 (srcC A0 l0.length c0 r4.2) 3)) b2 (.own 68 (srcC A0 l0.length c0 r4.2) 3) (upd (upd (h) b1 (.own 28 (sqC sq0) 101)) b3 (.own 28 (sqC r2.1) 101)) := (Del.here (none_upd n_b3_b2.ne.symm (none_upd n_b2_b1.ne hb2)))
 refine DW.call 11 _ _ rfl (by kernel_rfl) rfl rfl (EO.fn rfl Try.func40 rfl rfl (Evs.cons rfl (Evs.cons rfl Evs.nil))) (CC.mono (CC.atLe (c_spec_l01Next (h := upd (upd (h) b1 (.own 28 (sqC sq0) 101)) b3 (.own 28 (sqC r2.1) 101)) hr5 (RdS.le hs0 (Le.under (Le.under (Le.refl _) hb1) hb3)) hd4.none) hd4.le) ?_)
 rintro _ _ ⟨rfl, rfl⟩
 refine ⟨(fun _ => (Le.upd_left (Le.under (Le.under (Le.under (Le.refl _) hb1) hb3) hb2) ((upd_ne _ _ n_b3_b2.ne).trans (upd_same _ _ _)) (by first | rfl | (simp; done)))), ?_⟩
 refine DW.pure' 12 _ rfl (by kernel_rfl) rfl (fun _ => QO.conv rfl sz2 sz5 rfl) ?_
 refine DW.loud 13 rfl (by kernel_rfl) rfl rfl (LO.storeAll (cs := sqC r2.1) rfl sz28 rfl rfl (sqC_one _) (sqC_length _) ((upd_ne _ _ n_b2_b1.ne.symm).trans ((upd_ne _ _ n_b3_b1.ne.symm).trans (upd_same _ _ _))) (sqC_length _) (Chg.there n_b2_b1.ne (Chg.there n_b3_b1.ne Chg.here)) rfl ?_)
 refine ⟨(fun _ => (Le.upd_left (Le.under (Le.under (Le.under (Le.refl _) hb1) hb3) hb2) ((upd_ne _ _ n_b3_b2.ne).trans (upd_same _ _ _)) (by first | rfl | (simp; done)))), ?_⟩
 refine DW.pure' 14 _ rfl (by kernel_rfl) rfl (fun _ => QO.assign rfl rfl) ?_
 refine DW.pure' 15 _ rfl (by kernel_rfl) rfl (fun _ => QO.assign rfl rfl) ?_
 refine DW.done (by kernel_rfl) ?_ _
 refine thenA_n ?_
 refine wpA_ret ?_
 obtain rfl := Option.some.inj hm
 exact retA_r (h2 := h) (Res.three rfl (res1.row (cs := sqC r2.1) (hr := (rdAll ((upd_ne _ _ n_b2_b1.ne.symm).trans ((upd_ne _ _ n_b3_b1.ne.symm).trans (upd_same _ _ _))))) sz28 rfl rfl (sqC_length _)) (rfl) (rfl)) (Le.under (Le.under (Le.under (Le.refl _) hb1) hb3) hb2) ⟨rfl, rfl⟩

/-! (loop.example/g01195/impl.Square).has -/
theorem c_impl_Square_has {a0 : Sq} {l1 : (List Int)} {A1 : Option Addr} {c1 : Nat} {h : Hp} {r : Bool} (hm : m_impl_Square_has a0 l1 = some r) (hs1 : RdS h A1 (ints .u8 l1)) :
    QC Try.prog 63 #[.agg (sqC a0).toArray, .slice A1 l1.length c1] h (.bool r) := by
 unfold m_impl_Square_has at hm
 refine CC.enter Try.func63 rfl Try.ntmps63 rfl ?_
 refine wpA_seq ?_
 refine wpA_region ?_
 refine Ops_loud rfl (LO.boxAgg rfl rfl rfl (fun b1 hb1 => ?_))
 refine Ops_quiet _ rfl rfl (QO.assign rfl rfl) ?_
 refine Ops_nil ?_
 refine thenA_n ?_
 refine wpA_seq ?_
 refine wpA_seq ?_
 refine wpA_region ?_
 refine Ops_quiet _ rfl rfl (QO.move rfl rfl) ?_
 refine Ops_quiet _ rfl rfl (QO.lenSl rfl sz22 rfl) ?_
 refine Ops_quiet _ rfl rfl (QO.move rfl rfl) ?_
 refine Ops_nil ?_
 refine thenA_n ?_
 refine wpA_block ?_
 obtain ⟨R1, hR, hm⟩ := Option.bind_eq_some_iff.1 hm
 obtain ⟨k1, hk1⟩ := loopV_some hR
 clear hR
 refine wpA_mono (Q := fun e s' h' => match (generalizing := false) R1 with | .stop x id => e = .exit id ∧ ∃ (x1 : Int), x1 = x ∧ Sub s' [(2, .pointer (some ⟨b1, 0, none⟩)), (7, .slice A1 l1.length c1), (8, .int .i64 ((l1.length : Nat) : Int)), (9, .int .i64 x1)] ∧ Le (upd (h) b1 (.own 28 (sqC a0) 101)) h' | .ret r => e = .ret ∧ Sub s' [(4, .bool r)] ∧ Le (h) h' | .next _ => False) ?_ ?_
 ·refine wpA_loop (fun k s' h' => ∃ (x1 : Int), loopW (m_impl_Square_has_l0 a0 l1) k x1 = some R1 ∧ Sub s' [(2, .pointer (some ⟨b1, 0, none⟩)), (7, .slice A1 l1.length c1), (8, .int .i64 ((l1.length : Nat) : Int)), (9, .int .i64 x1)] ∧ Le (upd (h) b1 (.own 28 (sqC a0) 101)) h') (m := k1) ⟨0, hk1, (Sub.cons rfl (Sub.cons rfl (Sub.cons rfl (Sub.cons rfl Sub.nil)))), (Le.upd_left (Le.under (Le.refl _) hb1) (upd_same _ _ _) (by first | rfl | (simp; done)))⟩ ?_
  rintro k1 s' h' ⟨x1, hk1, hsub, hle⟩
  refine wpA_weaken hsub.ok hle ?_
  clear hsub hle s' h'
  cases k1 with
  | zero => exact absurd hk1 (by simp [loopW])
  | succ k1 =>
   obtain ⟨o1, ho1, hk1⟩ := loopW_succ hk1
   unfold m_impl_Square_has_l0 at ho1
   try dsimp only at ho1
   refine wpA_seq ?_
   refine wpA_region ?_
   refine Ops_quiet _ rfl rfl (QO.bin rfl rfl rfl rfl) ?_
   refine Ops_nil ?_
   refine thenA_n ?_
   refine wpA_seq ?_
   refine wpA_cond rfl (fun g1 => ?_) (fun g1 => ?_)
   ·replace ho1 := cond_t ho1 g1
    refine wpA_skip ?_
    refine thenA_n ?_
    refine wpA_seq ?_
    refine wpA_block ?_
    refine wpA_seq ?_
    refine wpA_region ?_
    have hq := chk ho1; clear ho1; obtain ⟨ck1, ho1⟩ := hq
    refine Ops_quiet _ rfl rfl (QO.idxRd2 rfl sz22 sz5 rfl rfl (by omega) (by omega) hs1 (by simp [mpC_length, sqC_length, tbC_length, tabI_length, tabB_length, ints_length, plsC_length, trC_length, sqsC_length, strsC_length, boolsC_length, tbB_length, List.length_append, List.length_cons, List.length_nil, List.length_set, List.length_replicate, rep_length]) (by decide)) ?_
    refine Ops_quiet _ rfl rfl (QO.load rfl sz5 rfl rfl (by first | exact (RdS.rd (RdS.le hs1 (Le.under (Le.refl _) hb1)) (by first | rfl | exact sqC_get (by omega) (by omega) | exact tbC_get (by omega) (by omega) | exact tbB_get (by omega) (by omega) | exact tabI_get01 (by omega) | exact tabB_get01 (by omega) | exact ints_get01 (by omega) | exact boolsC_get01 (by omega) | exact tabI_get (by omega) | exact tabB_get (by omega) | exact ints_get1 (by omega) | exact strsC_get01 (by omega) | exact strsC_get1 (by omega) | exact plsC_get (by omega) (by omega) | exact trC_a (by omega) | exact trC_b (by omega) | exact trC_c (by omega) | exact sqsC_ord (by omega) | exact sqsC_get (by omega) (by omega) (by omega))) | exact (RdS.rd2 (RdS.le hs1 (Le.under (Le.refl _) hb1)) (by first | rfl | exact sqC_get (by omega) (by omega) | exact tbC_get (by omega) (by omega) | exact tbB_get (by omega) (by omega) | exact tabI_get01 (by omega) | exact tabB_get01 (by omega) | exact ints_get01 (by omega) | exact boolsC_get01 (by omega) | exact tabI_get (by omega) | exact tabB_get (by omega) | exact ints_get1 (by omega) | exact strsC_get01 (by omega) | exact strsC_get1 (by omega) | exact plsC_get (by omega) (by omega) | exact trC_a (by omega) | exact trC_b (by omega) | exact trC_c (by omega) | exact sqsC_ord (by omega) | exact sqsC_get (by omega) (by omega) (by omega))) | exact (RdS.rd3 (RdS.le hs1 (Le.under (Le.refl _) hb1)) (by first | rfl | exact sqC_get (by omega) (by omega) | exact tbC_get (by omega) (by omega) | exact tbB_get (by omega) (by omega) | exact tabI_get01 (by omega) | exact tabB_get01 (by omega) | exact ints_get01 (by omega) | exact boolsC_get01 (by omega) | exact tabI_get (by omega) | exact tabB_get (by omega) | exact ints_get1 (by omega) | exact strsC_get01 (by omega) | exact strsC_get1 (by omega) | exact plsC_get (by omega) (by omega) | exact trC_a (by omega) | exact trC_b (by omega) | exact trC_c (by omega) | exact sqsC_ord (by omega) | exact sqsC_get (by omega) (by omega) (by omega))))) ?_
    refine Ops_quiet _ rfl rfl (QO.assign rfl rfl) ?_
    refine Ops_nil ?_
    refine thenA_n ?_
    refine wpA_seq ?_
    refine wpA_region ?_
    refine Ops_quiet _ rfl rfl (QO.move rfl rfl) ?_
    refine Ops_quiet _ rfl rfl (QO.conv rfl sz5 sz2 rfl) ?_
    refine Ops_quiet _ rfl rfl (QO.fieldAt (fo := 0) rfl sz28 rfl rfl sz2 rfl rfl) ?_
    refine Ops_quiet _ rfl rfl (QO.load rfl sz2 rfl rfl (by (refine (rd_own (upd_same _ _ _) _).trans ?_); exact rfl)) ?_
    refine Ops_quiet _ rfl rfl (QO.bin rfl rfl rfl rfl) ?_
    refine Ops_nil ?_
    refine thenA_n ?_
    refine wpA_cond rfl (fun g2 => ?_) (fun g2 => ?_)
    ·replace ho1 := cond_t ho1 g2
     refine wpA_seq ?_
     refine wpA_region ?_
     refine Ops_quiet _ rfl rfl (QO.assign rfl rfl) ?_
     refine Ops_nil ?_
     refine thenA_n ?_
     refine wpA_ret ?_
     refine blockA_r ?_
     refine thenA_r ?_
     refine thenA_r ?_
     obtain rfl := Option.some.inj ho1
     obtain rfl := Option.some.inj hk1
     exact ⟨rfl, (Sub.cons rfl Sub.nil), (Le.under (Le.refl _) hb1)⟩
    ·replace ho1 := cond_f ho1 g2
     refine wpA_skip ?_
     refine blockA_n ?_
     refine thenA_n ?_
     refine wpA_region ?_
     refine Ops_quiet _ rfl rfl (QO.bin rfl rfl rfl rfl) ?_
     refine Ops_quiet _ rfl rfl (QO.move rfl rfl) ?_
     refine Ops_nil ?_
     obtain rfl := Option.some.inj ho1
     dsimp only at hk1
     exact thenA_n ⟨k1, Nat.lt_succ_self _, _, hk1, (Sub.cons rfl (Sub.cons rfl (Sub.cons rfl (Sub.cons rfl Sub.nil)))), (Le.upd_left (Le.under (Le.refl _) hb1) (upd_same _ _ _) (by first | rfl | (simp; done)))⟩
   ·replace ho1 := cond_f ho1 g1
    refine wpA_exit ?_
    refine thenA_e ?_
    refine thenA_e ?_
    obtain rfl := Option.some.inj ho1
    obtain rfl := Option.some.inj hk1
    exact ⟨rfl, _, rfl, (Sub.cons rfl (Sub.cons rfl (Sub.cons rfl (Sub.cons rfl Sub.nil)))), (Le.upd_left (Le.under (Le.refl _) hb1) (upd_same _ _ _) (by first | rfl | (simp; done)))⟩
 ·intro e s' h' hq
  cases R1 with
  | next x => exact hq.elim
  | ret r =>
   obtain ⟨rfl, hsub1, hle1⟩ := hq
   try dsimp only at hm
   refine blockA_r ?_
   refine thenA_r ?_
   obtain rfl := Option.some.inj hm
   refine retA_sub hsub1.ok hle1 ?_
   exact retA_r (h2 := h) (Res.one rfl (rfl)) (Le.refl _) ⟨rfl, rfl⟩
  | stop x id =>
   obtain ⟨rfl, x2, rfl, hsub2, hle2⟩ := hq
   try dsimp only at hm
   by_cases hid1 : id = 0
   ·subst hid1
    rw [if_pos rfl] at hm
    refine blockA_s ?_
    refine thenA_n ?_
    refine wpA_weaken hsub2.ok hle2 ?_
    refine wpA_seq ?_
    refine wpA_region ?_
    refine Ops_quiet _ rfl rfl (QO.assign rfl rfl) ?_
    refine Ops_nil ?_
    refine thenA_n ?_
    refine wpA_ret ?_
    obtain rfl := Option.some.inj hm
    exact retA_r (h2 := h) (Res.one rfl (rfl)) (Le.under (Le.refl _) hb1) ⟨rfl, rfl⟩
   rw [if_neg hid1] at hm
   exact absurd hm (by simp)

/-! loop.example/g01195/impl.checked -/
theorem c_impl_checked {a0 : Sq} {l1 : (List Int)} {A1 : Option Addr} {c1 : Nat} {h : Hp} {r : Int} (hm : m_impl_checked a0 l1 = some r) (hs1 : RdS h A1 (ints .u8 l1)) :
    QC Try.prog 41 #[.agg (sqC a0).toArray, .slice A1 l1.length c1] h (.int .i64 r) := by
 unfold m_impl_checked at hm
 refine CC.enter Try.func41 rfl Try.ntmps41 rfl ?_
 refine wpA_seq ?_
 refine wpA_region ?_
 refine Ops_loud rfl (LO.boxAgg rfl rfl rfl (fun b1 hb1 => ?_))
 refine Ops_quiet _ rfl rfl (QO.assign rfl rfl) ?_
 refine Ops_nil ?_
 refine thenA_n ?_
 refine wpA_seq ?_
 refine wpA_block ?_
 refine wpA_seq ?_
 refine wpA_region ?_
 refine Ops_quiet _ rfl rfl (QO.loadRow (cs := sqC a0) (hr := (rdAll (upd_same _ _ _))) rfl sz28 rfl rfl (sqC_length _)) ?_
 have hq := Option.bind_eq_some_iff.1 hm; clear hm; obtain ⟨r1, hr1, hm⟩ := hq
 refine Ops_call _ _ rfl rfl (EO.fn rfl Try.func23 rfl rfl (Evs.cons rfl Evs.nil)) (QC.cc (c_impl_IsSquare hr1 ) ?_)
 refine Ops_quiet _ rfl rfl (QO.not rfl rfl) ?_
 refine Ops_quiet _ rfl rfl (QO.assign rfl rfl) ?_
 refine Ops_nil ?_
 refine thenA_n ?_
 refine wpA_cond rfl (fun g1 => ?_) (fun g1 => ?_)
 ·replace hm := cond_t hm g1
  refine wpA_seq ?_
  refine wpA_region ?_
  refine Ops_quiet _ rfl rfl (QO.assign rfl rfl) ?_
  refine Ops_nil ?_
  refine thenA_n ?_
  refine wpA_ret ?_
  refine blockA_r ?_
  refine thenA_r ?_
  obtain rfl := Option.some.inj hm
  exact retA_r (h2 := h) (Res.one rfl (rfl)) (Le.under (Le.refl _) hb1) ⟨rfl, rfl⟩
 ·replace hm := cond_f hm g1
  refine wpA_seq ?_
  refine wpA_region ?_
  refine Ops_quiet _ rfl rfl (QO.loadRow (cs := sqC a0) (hr := (rdAll (upd_same _ _ _))) rfl sz28 rfl rfl (sqC_length _)) ?_
  refine Ops_quiet _ rfl rfl (QO.move rfl rfl) ?_
  have hq := Option.bind_eq_some_iff.1 hm; clear hm; obtain ⟨r2, hr2, hm⟩ := hq
  refine Ops_call _ _ rfl rfl (EO.fn rfl Try.func63 rfl rfl (Evs.cons rfl (Evs.cons rfl Evs.nil))) (QC.cc (c_impl_Square_has (l1 := l1) (A1 := A1) (c1 := c1) hr2 (RdS.le hs1 (Le.under (Le.refl _) hb1))) ?_)
  refine Ops_quiet _ rfl rfl (QO.not rfl rfl) ?_
  refine Ops_quiet _ rfl rfl (QO.assign rfl rfl) ?_
  refine Ops_nil ?_
  refine thenA_n ?_
  refine wpA_cond rfl (fun g2 => ?_) (fun g2 => ?_)
  ·replace hm := cond_t hm g2
   refine wpA_seq ?_
   refine wpA_region ?_
   refine Ops_quiet _ rfl rfl (QO.assign rfl rfl) ?_
   refine Ops_nil ?_
   refine thenA_n ?_
   refine wpA_ret ?_
   refine blockA_r ?_
   refine thenA_r ?_
   obtain rfl := Option.some.inj hm
   exact retA_r (h2 := h) (Res.one rfl (rfl)) (Le.under (Le.refl _) hb1) ⟨rfl, rfl⟩
  ·replace hm := cond_f hm g2
   refine wpA_skip ?_
   refine blockA_n ?_
   refine thenA_n ?_
   refine wpA_seq ?_
   refine wpA_region ?_
   refine Ops_quiet _ rfl rfl (QO.assign rfl rfl) ?_
   refine Ops_nil ?_
   refine thenA_n ?_
   refine wpA_ret ?_
   obtain rfl := Option.some.inj hm
   exact retA_r (h2 := h) (Res.one rfl (rfl)) (Le.under (Le.refl _) hb1) ⟨rfl, rfl⟩

/-! loop.example/g01195/impl.identity -/
theorem c_impl_identity {a0 : Int} {h : Hp} {r : (Nat → Int)} (hm : m_impl_identity a0 = some r)  :
    QC Try.prog 64 #[.int .i64 a0] h (.agg (tabI .u8 r 10).toArray) := by
 unfold m_impl_identity at hm
 refine CC.enter Try.func64 rfl Try.ntmps64 rfl ?_
 refine wpA_seq ?_
 refine wpA_region ?_
 refine Ops_loud rfl (LO.alloc rfl zr29 rfl (fun b1 hb1 => ?_))
 refine Ops_nil ?_
 refine thenA_n ?_
 refine wpA_seq ?_
 refine wpA_region ?_
 refine Ops_quiet _ rfl rfl (QO.build0 rfl bd29) ?_
 refine Ops_loud rfl (LO.alloc rfl zr29 rfl (fun b2 hb2 => ?_))
 simp only [upd_noneA] at hb2
 obtain ⟨n_b2_b1, hb2⟩ := hb2
 refine Ops_loud rfl (LO.storeAll (cs := tabI .u8 pl0 10) rfl sz29 rfl rfl (tabI_one _ _ _) (tabI_length _ _ _) (upd_same _ _ _) (tabI_length _ _ _) Chg.here rfl ?_)
 refine Ops_nil ?_
 refine thenA_n ?_
 refine wpA_seq ?_
 refine wpA_seq ?_
 refine wpA_region ?_
 refine Ops_quiet _ rfl rfl (QO.move rfl rfl) ?_
 refine Ops_quiet _ rfl rfl (QO.move rfl rfl) ?_
 refine Ops_nil ?_
 refine thenA_n ?_
 refine wpA_block ?_
 obtain ⟨R1, hR, hm⟩ := Option.bind_eq_some_iff.1 hm
 obtain ⟨k1, hk1⟩ := loopV_some hR
 clear hR
 refine wpA_mono (Q := fun e s' h' => match (generalizing := false) R1 with | .stop x id => e = .exit id ∧ ∃ (x1 : Int) (x2 : (Nat → Int)), (x1, x2) = x ∧ Sub s' [(2, .pointer (some ⟨b1, 0, none⟩)), (3, .pointer (some ⟨b2, 0, none⟩)), (6, .int .i64 a0), (7, .int .i64 x1)] ∧ Le (upd (upd (h) b1 (.own 29 (tabI .u8 pl0 10) 10)) b2 (.own 29 (tabI .u8 x2 10) 10)) h' | .ret r => False | .next _ => False) ?_ ?_
 ·refine wpA_loop (fun k s' h' => ∃ (x1 : Int) (x2 : (Nat → Int)), loopW (m_impl_identity_l0 a0) k (x1, x2) = some R1 ∧ Sub s' [(2, .pointer (some ⟨b1, 0, none⟩)), (3, .pointer (some ⟨b2, 0, none⟩)), (6, .int .i64 a0), (7, .int .i64 x1)] ∧ Le (upd (upd (h) b1 (.own 29 (tabI .u8 pl0 10) 10)) b2 (.own 29 (tabI .u8 x2 10) 10)) h') (m := k1) ⟨0, pl0, hk1, (Sub.cons rfl (Sub.cons rfl (Sub.cons rfl (Sub.cons rfl Sub.nil)))), (Le.upd_left (Le.upd_left (Le.under (Le.under (Le.refl _) hb1) hb2) ((upd_ne _ _ n_b2_b1.ne.symm).trans (upd_same _ _ _)) (by first | rfl | (simp; done))) (upd_same _ _ _) (by first | rfl | (simp; done)))⟩ ?_
  rintro k1 s' h' ⟨x1, x2, hk1, hsub, hle⟩
  refine wpA_weaken hsub.ok hle ?_
  clear hsub hle s' h'
  cases k1 with
  | zero => exact absurd hk1 (by simp [loopW])
  | succ k1 =>
   obtain ⟨o1, ho1, hk1⟩ := loopW_succ hk1
   unfold m_impl_identity_l0 at ho1
   try dsimp only at ho1
   refine wpA_seq ?_
   refine wpA_region ?_
   refine Ops_quiet _ rfl rfl (QO.bin rfl rfl rfl rfl) ?_
   refine Ops_nil ?_
   refine thenA_n ?_
   refine wpA_seq ?_
   refine wpA_cond rfl (fun g1 => ?_) (fun g1 => ?_)
   ·replace ho1 := cond_t ho1 g1
    refine wpA_skip ?_
    refine thenA_n ?_
    refine wpA_seq ?_
    refine wpA_block ?_
    refine wpA_seq ?_
    refine wpA_region ?_
    refine Ops_quiet _ rfl rfl (QO.move rfl rfl) ?_
    refine Ops_quiet _ rfl rfl (QO.assign rfl rfl) ?_
    refine Ops_nil ?_
    refine thenA_n ?_
    refine wpA_region ?_
    refine Ops_quiet _ rfl rfl (QO.move rfl rfl) ?_
    refine Ops_quiet _ rfl rfl (QO.move rfl rfl) ?_
    refine Ops_quiet _ rfl rfl (QO.conv rfl sz2 sz5 rfl) ?_
    have hq := chk ho1; clear ho1; obtain ⟨ck1, ho1⟩ := hq
    refine Ops_quiet _ rfl rfl (QO.idxArr rfl sz29 sz5 rfl rfl (by omega) (by omega)) ?_
    refine Ops_loud rfl (LO.store' (xs' := tabI .u8 (fset x2 (x1).toNat (IntKind.u8.wrap x1)) 10) rfl sz5 rfl rfl rfl (upd_same _ _ _) (by first | ((try simp only [mpC_length, sqC_length, tbC_length, tabI_length, tabB_length, ints_length, plsC_length, trC_length, sqsC_length, strsC_length, boolsC_length, tbB_length, List.length_append, List.length_cons, List.length_nil, List.length_set, List.length_replicate, rep_length]); first | omega | decide) | exact Nat.le_of_ble_eq_true rfl) tabI_set01 Chg.here rfl ?_)
    refine Ops_nil ?_
    refine blockA_n ?_
    refine thenA_n ?_
    refine wpA_region ?_
    refine Ops_quiet _ rfl rfl (QO.bin rfl rfl rfl rfl) ?_
    refine Ops_quiet _ rfl rfl (QO.move rfl rfl) ?_
    refine Ops_nil ?_
    obtain rfl := Option.some.inj ho1
    dsimp only at hk1
    exact thenA_n ⟨k1, Nat.lt_succ_self _, _, _, hk1, (Sub.cons rfl (Sub.cons rfl (Sub.cons rfl (Sub.cons rfl Sub.nil)))), (Le.upd_left (Le.upd_left (Le.under (Le.under (Le.refl _) hb1) hb2) ((upd_ne _ _ n_b2_b1.ne.symm).trans (upd_same _ _ _)) (by first | rfl | (simp; done))) (upd_same _ _ _) (by first | rfl | (simp; done)))⟩
   ·replace ho1 := cond_f ho1 g1
    refine wpA_exit ?_
    refine thenA_e ?_
    refine thenA_e ?_
    obtain rfl := Option.some.inj ho1
    obtain rfl := Option.some.inj hk1
    exact ⟨rfl, _, _, rfl, (Sub.cons rfl (Sub.cons rfl (Sub.cons rfl (Sub.cons rfl Sub.nil)))), (Le.upd_left (Le.upd_left (Le.under (Le.under (Le.refl _) hb1) hb2) ((upd_ne _ _ n_b2_b1.ne.symm).trans (upd_same _ _ _)) (by first | rfl | (simp; done))) (upd_same _ _ _) (by first | rfl | (simp; done)))⟩
 ·intro e s' h' hq
  cases R1 with
  | next x => exact hq.elim
  | ret r => exact hq.elim
  | stop x id =>
   obtain ⟨rfl, x3, x4, rfl, hsub1, hle1⟩ := hq
   try dsimp only at hm
   by_cases hid1 : id = 0
   ·subst hid1
    rw [if_pos rfl] at hm
    refine blockA_s ?_
    refine thenA_n ?_
    refine wpA_weaken hsub1.ok hle1 ?_
    refine wpA_seq ?_
    refine wpA_region ?_
    refine Ops_quiet _ rfl rfl (QO.loadRow (cs := tabI .u8 x4 10) (hr := (rdAll (upd_same _ _ _))) rfl sz29 rfl rfl (tabI_length _ _ _)) ?_
    refine Ops_loud rfl (LO.storeAll (cs := tabI .u8 x4 10) rfl sz29 rfl rfl (tabI_one _ _ _) (tabI_length _ _ _) ((upd_ne _ _ n_b2_b1.ne.symm).trans (upd_same _ _ _)) (tabI_length _ _ _) (Chg.there n_b2_b1.ne Chg.here) rfl ?_)
    refine Ops_nil ?_
    refine thenA_n ?_
    refine wpA_ret ?_
    obtain rfl := Option.some.inj hm
    exact retA_r (h2 := h) (Res.one rfl (res1.row (cs := tabI .u8 x4 10) (hr := (rdAll ((upd_ne _ _ n_b2_b1.ne.symm).trans (upd_same _ _ _)))) sz29 rfl rfl (tabI_length _ _ _))) (Le.under (Le.under (Le.refl _) hb1) hb2) ⟨rfl, rfl⟩
   rw [if_neg hid1] at hm
   exact absurd hm (by simp)

/-! (loop.example/g01195/impl.Square).column -/
theorem c_impl_Square_column {a0 : Sq} {a1 : Int} {h : Hp} {r : (Nat → Int)} (hm : m_impl_Square_column a0 a1 = some r)  :
    QC Try.prog 65 #[.agg (sqC a0).toArray, .int .u8 a1] h (.agg (tabI .u8 r 10).toArray) := by
 unfold m_impl_Square_column at hm
 refine CC.enter Try.func65 rfl Try.ntmps65 rfl ?_
 refine wpA_seq ?_
 refine wpA_region ?_
 refine Ops_loud rfl (LO.boxAgg rfl rfl rfl (fun b1 hb1 => ?_))
 refine Ops_loud rfl (LO.alloc rfl zr29 rfl (fun b2 hb2 => ?_))
 simp only [upd_noneA] at hb2
 obtain ⟨n_b2_b1, hb2⟩ := hb2
 refine Ops_nil ?_
 refine thenA_n ?_
 refine wpA_seq ?_
 refine wpA_region ?_
 refine Ops_quiet _ rfl rfl (QO.build0 rfl bd29) ?_
 refine Ops_loud rfl (LO.alloc rfl zr29 rfl (fun b3 hb3 => ?_))
 simp only [upd_noneA] at hb3
 obtain ⟨n_b3_b2, n_b3_b1, hb3⟩ := hb3
 refine Ops_loud rfl (LO.storeAll (cs := tabI .u8 pl0 10) rfl sz29 rfl rfl (tabI_one _ _ _) (tabI_length _ _ _) (upd_same _ _ _) (tabI_length _ _ _) Chg.here rfl ?_)
 refine Ops_nil ?_
 refine thenA_n ?_
 refine wpA_seq ?_
 refine wpA_seq ?_
 refine wpA_region ?_
 refine Ops_quiet _ rfl rfl (QO.move rfl rfl) ?_
 refine Ops_nil ?_
 refine thenA_n ?_
 refine wpA_block ?_
 obtain ⟨R1, hR, hm⟩ := Option.bind_eq_some_iff.1 hm
 obtain ⟨k1, hk1⟩ := loopV_some hR
 clear hR
 refine wpA_mono (Q := fun e s' h' => match (generalizing := false) R1 with | .stop x id => e = .exit id ∧ ∃ (x1 : Int) (x2 : (Nat → Int)), (x1, x2) = x ∧ Sub s' [(1, .int .u8 a1), (2, .pointer (some ⟨b1, 0, none⟩)), (4, .pointer (some ⟨b2, 0, none⟩)), (5, .pointer (some ⟨b3, 0, none⟩)), (8, .int .i64 x1)] ∧ Le (upd (upd (upd (h) b1 (.own 28 (sqC a0) 101)) b2 (.own 29 (tabI .u8 pl0 10) 10)) b3 (.own 29 (tabI .u8 x2 10) 10)) h' | .ret r => False | .next _ => False) ?_ ?_
 ·refine wpA_loop (fun k s' h' => ∃ (x1 : Int) (x2 : (Nat → Int)), loopW (m_impl_Square_column_l0 a0 a1) k (x1, x2) = some R1 ∧ Sub s' [(1, .int .u8 a1), (2, .pointer (some ⟨b1, 0, none⟩)), (4, .pointer (some ⟨b2, 0, none⟩)), (5, .pointer (some ⟨b3, 0, none⟩)), (8, .int .i64 x1)] ∧ Le (upd (upd (upd (h) b1 (.own 28 (sqC a0) 101)) b2 (.own 29 (tabI .u8 pl0 10) 10)) b3 (.own 29 (tabI .u8 x2 10) 10)) h') (m := k1) ⟨0, pl0, hk1, (Sub.cons rfl (Sub.cons rfl (Sub.cons rfl (Sub.cons rfl (Sub.cons rfl Sub.nil))))), (Le.upd_left (Le.upd_left (Le.upd_left (Le.under (Le.under (Le.under (Le.refl _) hb1) hb2) hb3) ((upd_ne _ _ n_b3_b1.ne.symm).trans ((upd_ne _ _ n_b2_b1.ne.symm).trans (upd_same _ _ _))) (by first | rfl | (simp; done))) ((upd_ne _ _ n_b3_b2.ne.symm).trans (upd_same _ _ _)) (by first | rfl | (simp; done))) (upd_same _ _ _) (by first | rfl | (simp; done)))⟩ ?_
  rintro k1 s' h' ⟨x1, x2, hk1, hsub, hle⟩
  refine wpA_weaken hsub.ok hle ?_
  clear hsub hle s' h'
  cases k1 with
  | zero => exact absurd hk1 (by simp [loopW])
  | succ k1 =>
   obtain ⟨o1, ho1, hk1⟩ := loopW_succ hk1
   unfold m_impl_Square_column_l0 at ho1
   try dsimp only at ho1
   refine wpA_seq ?_
   refine wpA_region ?_
   refine Ops_quiet _ rfl rfl (QO.bin rfl rfl rfl rfl) ?_
   refine Ops_nil ?_
   refine thenA_n ?_
   refine wpA_seq ?_
   refine wpA_cond rfl (fun g1 => ?_) (fun g1 => ?_)
   ·replace ho1 := cond_t ho1 g1
    refine wpA_skip ?_
    refine thenA_n ?_
    refine wpA_seq ?_
    refine wpA_block ?_
    refine wpA_seq ?_
    refine wpA_region ?_
    refine Ops_quiet _ rfl rfl (QO.move rfl rfl) ?_
    refine Ops_quiet _ rfl rfl (QO.assign rfl rfl) ?_
    refine Ops_nil ?_
    refine thenA_n ?_
    refine wpA_region ?_
    refine Ops_quiet _ rfl rfl (QO.move rfl rfl) ?_
    refine Ops_quiet _ rfl rfl (QO.move rfl rfl) ?_
    refine Ops_quiet _ rfl rfl (QO.move rfl rfl) ?_
    refine Ops_quiet _ rfl rfl (QO.fieldAt (fo := 1) rfl sz28 rfl rfl sz26 rfl rfl) ?_
    have hq := chk ho1; clear ho1; obtain ⟨ck1, ho1⟩ := hq
    refine Ops_quiet _ rfl rfl (QO.idxArr rfl sz26 sz24 rfl rfl (by omega) (by omega)) ?_
    have hq := chk ho1; clear ho1; obtain ⟨ck2, ho1⟩ := hq
    refine Ops_quiet _ rfl rfl (QO.idxArr rfl sz24 sz5 rfl rfl (by omega) (by omega)) ?_
    refine Ops_quiet _ rfl rfl (QO.load rfl sz5 rfl rfl (by (refine (rd_own ((upd_ne _ _ n_b3_b1.ne.symm).trans ((upd_ne _ _ n_b2_b1.ne.symm).trans (upd_same _ _ _))) _).trans ?_); exact sqC_get (by omega) (by omega))) ?_
    have hq := chk ho1; clear ho1; obtain ⟨ck3, ho1⟩ := hq
    refine Ops_quiet _ rfl rfl (QO.idxArr rfl sz29 sz5 rfl rfl (by omega) (by omega)) ?_
    refine Ops_loud rfl (LO.store' (xs' := tabI .u8 (fset x2 (x1).toNat (a0.t (x1).toNat (a1).toNat)) 10) rfl sz5 rfl rfl rfl (upd_same _ _ _) (by first | ((try simp only [mpC_length, sqC_length, tbC_length, tabI_length, tabB_length, ints_length, plsC_length, trC_length, sqsC_length, strsC_length, boolsC_length, tbB_length, List.length_append, List.length_cons, List.length_nil, List.length_set, List.length_replicate, rep_length]); first | omega | decide) | exact Nat.le_of_ble_eq_true rfl) tabI_set01 Chg.here rfl ?_)
    refine Ops_nil ?_
    refine blockA_n ?_
    refine thenA_n ?_
    refine wpA_region ?_
    refine Ops_quiet _ rfl rfl (QO.bin rfl rfl rfl rfl) ?_
    refine Ops_quiet _ rfl rfl (QO.move rfl rfl) ?_
    refine Ops_nil ?_
    obtain rfl := Option.some.inj ho1
    dsimp only at hk1
    exact thenA_n ⟨k1, Nat.lt_succ_self _, _, _, hk1, (Sub.cons rfl (Sub.cons rfl (Sub.cons rfl (Sub.cons rfl (Sub.cons rfl Sub.nil))))), (Le.upd_left (Le.upd_left (Le.upd_left (Le.under (Le.under (Le.under (Le.refl _) hb1) hb2) hb3) ((upd_ne _ _ n_b3_b1.ne.symm).trans ((upd_ne _ _ n_b2_b1.ne.symm).trans (upd_same _ _ _))) (by first | rfl | (simp; done))) ((upd_ne _ _ n_b3_b2.ne.symm).trans (upd_same _ _ _)) (by first | rfl | (simp; done))) (upd_same _ _ _) (by first | rfl | (simp; done)))⟩
   ·replace ho1 := cond_f ho1 g1
    refine wpA_exit ?_
    refine thenA_e ?_
    refine thenA_e ?_
    obtain rfl := Option.some.inj ho1
    obtain rfl := Option.some.inj hk1
    exact ⟨rfl, _, _, rfl, (Sub.cons rfl (Sub.cons rfl (Sub.cons rfl (Sub.cons rfl (Sub.cons rfl Sub.nil))))), (Le.upd_left (Le.upd_left (Le.upd_left (Le.under (Le.under (Le.under (Le.refl _) hb1) hb2) hb3) ((upd_ne _ _ n_b3_b1.ne.symm).trans ((upd_ne _ _ n_b2_b1.ne.symm).trans (upd_same _ _ _))) (by first | rfl | (simp; done))) ((upd_ne _ _ n_b3_b2.ne.symm).trans (upd_same _ _ _)) (by first | rfl | (simp; done))) (upd_same _ _ _) (by first | rfl | (simp; done)))⟩
 ·intro e s' h' hq
  cases R1 with
  | next x => exact hq.elim
  | ret r => exact hq.elim
  | stop x id =>
   obtain ⟨rfl, x3, x4, rfl, hsub1, hle1⟩ := hq
   try dsimp only at hm
   by_cases hid1 : id = 0
   ·subst hid1
    rw [if_pos rfl] at hm
    refine blockA_s ?_
    refine thenA_n ?_
    refine wpA_weaken hsub1.ok hle1 ?_
    refine wpA_seq ?_
    refine wpA_region ?_
    refine Ops_quiet _ rfl rfl (QO.loadRow (cs := tabI .u8 x4 10) (hr := (rdAll (upd_same _ _ _))) rfl sz29 rfl rfl (tabI_length _ _ _)) ?_
    refine Ops_loud rfl (LO.storeAll (cs := tabI .u8 x4 10) rfl sz29 rfl rfl (tabI_one _ _ _) (tabI_length _ _ _) ((upd_ne _ _ n_b3_b2.ne.symm).trans (upd_same _ _ _)) (tabI_length _ _ _) (Chg.there n_b3_b2.ne Chg.here) rfl ?_)
    refine Ops_nil ?_
    refine thenA_n ?_
    refine wpA_ret ?_
    obtain rfl := Option.some.inj hm
    exact retA_r (h2 := h) (Res.one rfl (res1.row (cs := tabI .u8 x4 10) (hr := (rdAll ((upd_ne _ _ n_b3_b2.ne.symm).trans (upd_same _ _ _)))) sz29 rfl rfl (tabI_length _ _ _))) (Le.under (Le.under (Le.under (Le.refl _) hb1) hb2) hb3) ⟨rfl, rfl⟩
   rw [if_neg hid1] at hm
   exact absurd hm (by simp)

/-! (loop.example/g01195/impl.Square).row -/
theorem c_impl_Square_row {a0 : Sq} {a1 : Int} {h : Hp} {r : (Nat → Int)} (hm : m_impl_Square_row a0 a1 = some r)  :
    QC Try.prog 66 #[.agg (sqC a0).toArray, .int .u8 a1] h (.agg (tabI .u8 r 10).toArray) := by
 unfold m_impl_Square_row at hm
 refine CC.enter Try.func66 rfl Try.ntmps66 rfl ?_
 refine wpA_seq ?_
 refine wpA_region ?_
 refine Ops_loud rfl (LO.boxAgg rfl rfl rfl (fun b1 hb1 => ?_))
 refine Ops_loud rfl (LO.alloc rfl zr29 rfl (fun b2 hb2 => ?_))
 simp only [upd_noneA] at hb2
 obtain ⟨n_b2_b1, hb2⟩ := hb2
 refine Ops_nil ?_
 refine thenA_n ?_
 refine wpA_seq ?_
 refine wpA_region ?_
 refine Ops_quiet _ rfl rfl (QO.move rfl rfl) ?_
 refine Ops_quiet _ rfl rfl (QO.fieldAt (fo := 1) rfl sz28 rfl rfl sz26 rfl rfl) ?_
 have hq := chk hm; clear hm; obtain ⟨ck1, hm⟩ := hq
 refine Ops_quiet _ rfl rfl (QO.idxArr rfl sz26 sz24 rfl rfl (by omega) (by omega)) ?_
 refine Ops_quiet _ rfl rfl (QO.loadRow (cs := tabI .u8 (a0.t (a1).toNat) 10) (hr := (rdSqRow ((upd_ne _ _ n_b2_b1.ne.symm).trans (upd_same _ _ _)) (by omega))) rfl sz24 rfl rfl (tabI_length _ _ _)) ?_
 refine Ops_loud rfl (LO.storeAll (cs := tabI .u8 (a0.t (a1).toNat) 10) rfl sz29 rfl rfl (tabI_one _ _ _) (tabI_length _ _ _) (upd_same _ _ _) (tabI_length _ _ _) Chg.here rfl ?_)
 refine Ops_nil ?_
 refine thenA_n ?_
 refine wpA_ret ?_
 obtain rfl := Option.some.inj hm
 exact retA_r (h2 := h) (Res.one rfl (res1.row (cs := tabI .u8 (a0.t (a1).toNat) 10) (hr := (rdAll (upd_same _ _ _))) sz29 rfl rfl (tabI_length _ _ _))) (Le.under (Le.under (Le.refl _) hb1) hb2) ⟨rfl, rfl⟩

/-! loop.example/g01195/impl.toLoop -/
theorem c_impl_toLoop {a0 : Sq} {a1 : Int} {a2 : Int} {h : Hp} {r : Tr} (hm : m_impl_toLoop a0 a1 a2 = some r)  :
    QC Try.prog 42 #[.agg (sqC a0).toArray, .int .u8 a1, .int .u8 a2] h (.agg (trC r).toArray) := by
 unfold m_impl_toLoop at hm
 refine CC.enter Try.func42 rfl Try.ntmps42 rfl ?_
 refine wpA_seq ?_
 refine wpA_region ?_
 refine Ops_loud rfl (LO.boxAgg rfl rfl rfl (fun b1 hb1 => ?_))
 refine Ops_loud rfl (LO.alloc rfl zr31 rfl (fun b2 hb2 => ?_))
 simp only [upd_noneA] at hb2
 obtain ⟨n_b2_b1, hb2⟩ := hb2
 refine Ops_nil ?_
 refine thenA_n ?_
 refine wpA_seq ?_
 refine wpA_drawn (by kernel_rfl) (by kernel_rfl) ?_
 refine QOps.quiet _ rfl rfl (QO.fieldAt (fo := 0) rfl sz28 rfl rfl sz2 rfl rfl) ?_
 refine QOps.quiet _ rfl rfl (QO.load rfl sz2 rfl rfl (by (refine (rd_own ((upd_ne _ _ n_b2_b1.ne.symm).trans (upd_same _ _ _)) _).trans ?_); exact rfl)) ?_
 refine QOps.quiet _ rfl rfl (QO.move rfl rfl) ?_
 refine QOps.quiet _ rfl rfl (QO.move rfl rfl) ?_
 refine QOps.quiet _ rfl rfl (QO.fieldAt (fo := 1) rfl sz28 rfl rfl sz26 rfl rfl) ?_
 have hq := chk hm; clear hm; obtain ⟨ck1, hm⟩ := hq
 refine QOps.quiet _ rfl rfl (QO.idxArr rfl sz26 sz24 rfl rfl (by omega) (by omega)) ?_
 have hq := chk hm; clear hm; obtain ⟨ck2, hm⟩ := hq
 refine QOps.quiet _ rfl rfl (QO.idxArr rfl sz24 sz5 rfl rfl (by omega) (by omega)) ?_
 refine QOps.quiet _ rfl rfl (QO.load rfl sz5 rfl rfl (by (refine (rd_own ((upd_ne _ _ n_b2_b1.ne.symm).trans (upd_same _ _ _)) _).trans ?_); exact sqC_get (by omega) (by omega))) ?_
 refine QOps.quiet _ rfl rfl (QO.assign rfl rfl) ?_
 refine QOps.quiet _ rfl rfl (QO.assign rfl rfl) ?_
 refine QOps.nil ?_
 refine thenA_n ?_
 refine wpA_seq ?_
 refine wpA_region ?_
 refine Ops_quiet _ rfl rfl (QO.move rfl rfl) ?_
 have hq := Option.bind_eq_some_iff.1 hm; clear hm; obtain ⟨r1, hr1, hm⟩ := hq
 refine Ops_call _ _ rfl rfl (EO.fn rfl Try.func64 rfl rfl (Evs.cons rfl Evs.nil)) (QC.cc (c_impl_identity hr1 ) ?_)
 refine Ops_loud rfl (LO.alloc rfl zr29 rfl (fun b3 hb3 => ?_))
 simp only [upd_noneA] at hb3
 obtain ⟨n_b3_b2, n_b3_b1, hb3⟩ := hb3
 refine Ops_loud rfl (LO.storeAll (cs := tabI .u8 r1 10) rfl sz29 rfl rfl (tabI_one _ _ _) (tabI_length _ _ _) (upd_same _ _ _) (tabI_length _ _ _) Chg.here rfl ?_)
 refine Ops_nil ?_
 refine thenA_n ?_
 refine wpA_seq ?_
 refine wpA_region ?_
 refine Ops_quiet _ rfl rfl (QO.move rfl rfl) ?_
 refine Ops_quiet _ rfl rfl (QO.move rfl rfl) ?_
 refine Ops_quiet _ rfl rfl (QO.idxArr rfl sz29 sz5 rfl rfl (by decide) (by decide)) ?_
 refine Ops_loud rfl (LO.store' (xs' := tabI .u8 (fset r1 0 (a0.t (a1).toNat (a2).toNat)) 10) rfl sz5 rfl rfl rfl (upd_same _ _ _) (by first | ((try simp only [mpC_length, sqC_length, tbC_length, tabI_length, tabB_length, ints_length, plsC_length, trC_length, sqsC_length, strsC_length, boolsC_length, tbB_length, List.length_append, List.length_cons, List.length_nil, List.length_set, List.length_replicate, rep_length]); first | omega | decide) | exact Nat.le_of_ble_eq_true rfl) tabI_set01 Chg.here rfl ?_)
 have hq := chk hm; clear hm; obtain ⟨ck3, hm⟩ := hq
 refine Ops_quiet _ rfl rfl (QO.idxArr rfl sz29 sz5 rfl rfl (by omega) (by omega)) ?_
 refine Ops_loud rfl (LO.store' (xs' := tabI .u8 (fset (fset r1 0 (a0.t (a1).toNat (a2).toNat)) ((a0.t (a1).toNat (a2).toNat)).toNat 0) 10) rfl sz5 rfl rfl rfl (upd_same _ _ _) (by first | ((try simp only [mpC_length, sqC_length, tbC_length, tabI_length, tabB_length, ints_length, plsC_length, trC_length, sqsC_length, strsC_length, boolsC_length, tbB_length, List.length_append, List.length_cons, List.length_nil, List.length_set, List.length_replicate, rep_length]); first | omega | decide) | exact Nat.le_of_ble_eq_true rfl) tabI_set01 Chg.here rfl ?_)
 refine Ops_nil ?_
 refine thenA_n ?_
 refine wpA_seq ?_
 refine wpA_any (upd (upd (upd (h) b1 (.own 28 (sqC a0) 101)) b2 (.own 31 (trC tr0) 30)) b3 (.own 29 (tabI .u8 (fset (fset r1 0 (a0.t (a1).toNat (a2).toNat)) ((a0.t (a1).toNat (a2).toNat)).toNat 0) 10) 10)) [14] [14] (by kernel_rfl) (by kernel_rfl) (DW.start ?_)
 refine DW.read' 0 _ rfl (by kernel_rfl) rfl (QO.loadRow (cs := sqC a0) (hr := (rdAll ((upd_ne _ _ n_b3_b1.ne.symm).trans ((upd_ne _ _ n_b2_b1.ne.symm).trans (upd_same _ _ _))))) rfl sz28 rfl rfl (sqC_length _)) ?_
 refine DW.pure' 1 _ rfl (by kernel_rfl) rfl (fun _ => QO.move rfl rfl) ?_
 have hq := Option.bind_eq_some_iff.1 hm; clear hm; obtain ⟨r2, hr2, hm⟩ := hq
 refine DW.qcall' 2 _ _ _ rfl (by kernel_rfl) rfl (EO.fn rfl Try.func65 rfl rfl (Evs.cons rfl (Evs.cons rfl Evs.nil))) (c_impl_Square_column hr2 ) ?_
 refine DW.read' 3 _ rfl (by kernel_rfl) rfl (QO.loadRow (cs := tabI .u8 (fset (fset r1 0 (a0.t (a1).toNat (a2).toNat)) ((a0.t (a1).toNat (a2).toNat)).toNat 0) 10) (hr := (rdAll (upd_same _ _ _))) rfl sz29 rfl rfl (tabI_length _ _ _)) ?_
 refine DW.pure' 4 _ rfl (by kernel_rfl) rfl (fun _ => QO.move rfl rfl) ?_
 have hq := Option.bind_eq_some_iff.1 hm; clear hm; obtain ⟨r3, hr3, hm⟩ := hq
 refine DW.qcall' 5 _ _ _ rfl (by kernel_rfl) rfl (EO.fn rfl Try.func52 rfl rfl (Evs.cons rfl (Evs.cons rfl (Evs.cons rfl Evs.nil)))) (c_impl_then hr3 ) ?_
 refine DW.read' 6 _ rfl (by kernel_rfl) rfl (QO.loadRow (cs := sqC a0) (hr := (rdAll ((upd_ne _ _ n_b3_b1.ne.symm).trans ((upd_ne _ _ n_b2_b1.ne.symm).trans (upd_same _ _ _))))) rfl sz28 rfl rfl (sqC_length _)) ?_
 refine DW.pure' 7 _ rfl (by kernel_rfl) rfl (fun _ => QO.move rfl rfl) ?_
 have hq := Option.bind_eq_some_iff.1 hm; clear hm; obtain ⟨r4, hr4, hm⟩ := hq
 refine DW.qcall' 8 _ _ _ rfl (by kernel_rfl) rfl (EO.fn rfl Try.func66 rfl rfl (Evs.cons rfl (Evs.cons rfl Evs.nil))) (c_impl_Square_row hr4 ) ?_
 refine DW.read' 9 _ rfl (by kernel_rfl) rfl (QO.loadRow (cs := tabI .u8 (fset (fset r1 0 (a0.t (a1).toNat (a2).toNat)) ((a0.t (a1).toNat (a2).toNat)).toNat 0) 10) (hr := (rdAll (upd_same _ _ _))) rfl sz29 rfl rfl (tabI_length _ _ _)) ?_
 refine DW.pure' 10 _ rfl (by kernel_rfl) rfl (fun _ => QO.move rfl rfl) ?_
 have hq := Option.bind_eq_some_iff.1 hm; clear hm; obtain ⟨r5, hr5, hm⟩ := hq
 refine DW.qcall' 11 _ _ _ rfl (by kernel_rfl) rfl (EO.fn rfl Try.func52 rfl rfl (Evs.cons rfl (Evs.cons rfl (Evs.cons rfl Evs.nil)))) (c_impl_then hr5 ) ?_
 refine DW.read' 12 _ rfl (by kernel_rfl) rfl (QO.loadRow (cs := tabI .u8 (fset (fset r1 0 (a0.t (a1).toNat (a2).toNat)) ((a0.t (a1).toNat (a2).toNat)).toNat 0) 10) (hr := (rdAll (upd_same _ _ _))) rfl sz29 rfl rfl (tabI_length _ _ _)) ?_
 refine DW.pure' 13 _ rfl (by kernel_rfl) rfl (fun _ => QO.build3 rfl rfl rfl rfl (bd31_0_1_2 r3 r5 (fset (fset r1 0 (a0.t (a1).toNat (a2).toNat)) ((a0.t (a1).toNat (a2).toNat)).toNat 0))) ?_
 refine DW.loud 14 rfl (by kernel_rfl) rfl rfl (LO.storeAll (cs := trC (⟨r3, r5, (fset (fset r1 0 (a0.t (a1).toNat (a2).toNat)) ((a0.t (a1).toNat (a2).toNat)).toNat 0)⟩ : Tr)) rfl sz31 rfl rfl (trC_one _) (trC_length _) ((upd_ne _ _ n_b3_b2.ne.symm).trans (upd_same _ _ _)) (trC_length _) (Chg.there n_b3_b2.ne Chg.here) rfl ?_)
 refine ⟨(fun e => absurd e (by decide)), ?_⟩
 refine DW.done (by kernel_rfl) ?_ _
 refine thenA_n ?_
 refine wpA_ret ?_
 obtain rfl := Option.some.inj hm
 exact retA_r (h2 := h) (Res.one rfl (res1.row (cs := trC (⟨r3, r5, (fset (fset r1 0 (a0.t (a1).toNat (a2).toNat)) ((a0.t (a1).toNat (a2).toNat)).toNat 0)⟩ : Tr)) (hr := (rdAll ((upd_ne _ _ n_b3_b2.ne.symm).trans (upd_same _ _ _)))) sz31 rfl rfl (trC_length _))) (Le.under (Le.under (Le.under (Le.refl _) hb1) hb2) hb3) ⟨rfl, rfl⟩

/-! loop.example/g01195/impl.LoopAt -/
theorem c_impl_LoopAt {a0 : Sq} {a1 : Int} {a2 : Int} {h : Hp} {r : Sq × Int} (hm : m_impl_LoopAt a0 a1 a2 = some r)  :
    QC Try.prog 20 #[.agg (sqC a0).toArray, .int .u8 a1, .int .u8 a2] h (.tuple #[.agg (sqC r.1).toArray, .int .i64 r.2]) := by
 unfold m_impl_LoopAt at hm
 refine CC.enter Try.func20 rfl Try.ntmps20 rfl ?_
 refine wpA_seq ?_
 refine wpA_region ?_
 refine Ops_loud rfl (LO.boxAgg rfl rfl rfl (fun b1 hb1 => ?_))
 refine Ops_loud rfl (LO.alloc rfl zr28 rfl (fun b2 hb2 => ?_))
 simp only [upd_noneA] at hb2
 obtain ⟨n_b2_b1, hb2⟩ := hb2
 refine Ops_quiet _ rfl rfl (QO.assign rfl rfl) ?_
 refine Ops_nil ?_
 refine thenA_n ?_
 refine wpA_seq ?_
 refine wpA_seq ?_
 refine wpA_region ?_
 refine Ops_quiet _ rfl rfl (QO.loadRow (cs := sqC a0) (hr := (rdAll ((upd_ne _ _ n_b2_b1.ne.symm).trans (upd_same _ _ _)))) rfl sz28 rfl rfl (sqC_length _)) ?_
 refine Ops_quiet _ rfl rfl (QO.move rfl rfl) ?_
 refine Ops_quiet _ rfl rfl (QO.move rfl rfl) ?_
 refine Ops_loud rfl (LO.slice' [(0, .int .u8 a1), (1, .int .u8 a2)] (r := ints .u8 [a1, a2]) rfl sz22 sz5 zr5 (by first | rfl | (simp [mpC_length, sqC_length, tbC_length, tabI_length, tabB_length, ints_length, plsC_length, trC_length, sqsC_length, strsC_length, boolsC_length, tbB_length, List.length_append, List.length_cons, List.length_nil, List.length_set, List.length_replicate, rep_length]; done)) (by decide) (by decide) (by decide) rfl rfl (by first | rfl | (simp [mpC_length, sqC_length, tbC_length, tabI_length, tabB_length, ints_length, plsC_length, trC_length, sqsC_length, strsC_length, boolsC_length, tbB_length, List.length_append, List.length_cons, List.length_nil, List.length_set, List.length_replicate, rep_length]; done)) rfl (fun b3 hb3 => ?_))
 simp only [upd_noneA] at hb3
 obtain ⟨n_b3_b2, n_b3_b1, hb3⟩ := hb3
 have hq := Option.bind_eq_some_iff.1 hm; clear hm; obtain ⟨r1, hr1, hm⟩ := hq
 refine Ops_call _ _ rfl rfl (EO.fn rfl Try.func41 rfl rfl (Evs.cons rfl (Evs.cons rfl Evs.nil))) (QC.cc (c_impl_checked (l1 := [a1, a2]) (A1 := some ⟨b3, 0, none⟩) (c1 := 2) hr1 (RdS.own (upd_same _ _ _))) ?_)
 refine Ops_quiet _ rfl rfl (QO.assign rfl rfl) ?_
 refine Ops_nil ?_
 refine thenA_n ?_
 refine wpA_seq ?_
 refine wpA_region ?_
 refine Ops_quiet _ rfl rfl (QO.move rfl rfl) ?_
 refine Ops_quiet _ rfl rfl (QO.bin rfl rfl rfl rfl) ?_
 refine Ops_nil ?_
 refine thenA_n ?_
 refine wpA_cond rfl (fun g1 => ?_) (fun g1 => ?_)
 ·replace hm := cond_t hm g1
  refine wpA_seq ?_
  refine wpA_region ?_
  refine Ops_quiet _ rfl rfl (QO.build0 rfl bd28) ?_
  refine Ops_quiet _ rfl rfl (QO.move rfl rfl) ?_
  refine Ops_loud rfl (LO.storeAll (cs := sqC sq0) rfl sz28 rfl rfl (sqC_one _) (sqC_length _) ((upd_ne _ _ n_b3_b2.ne.symm).trans (upd_same _ _ _)) (sqC_length _) (Chg.there n_b3_b2.ne Chg.here) rfl ?_)
  refine Ops_quiet _ rfl rfl (QO.assign rfl rfl) ?_
  refine Ops_nil ?_
  refine thenA_n ?_
  refine wpA_ret ?_
  refine thenA_r ?_
  obtain rfl := Option.some.inj hm
  exact retA_r (h2 := h) (Res.two rfl (res1.row (cs := sqC sq0) (hr := (rdAll ((upd_ne _ _ n_b3_b2.ne.symm).trans (upd_same _ _ _)))) sz28 rfl rfl (sqC_length _)) (rfl)) (Le.under (Le.under (Le.under (Le.refl _) hb1) hb2) hb3) ⟨rfl, rfl⟩
 ·replace hm := cond_f hm g1
  refine wpA_skip ?_
  refine thenA_n ?_
  refine wpA_seq ?_
  refine wpA_any (upd (upd (h) b1 (.own 28 (sqC a0) 101)) b3 (.own 5 (ints .u8 [a1, a2]) (2 * 1))) [6] [] (by kernel_rfl) (by kernel_rfl) (DW.start ?_)
  refine DW.read' 0 _ rfl (by kernel_rfl) rfl (QO.loadRow (cs := sqC a0) (hr := (rdAll ((upd_ne _ _ n_b3_b1.ne.symm).trans ((upd_ne _ _ n_b2_b1.ne.symm).trans (upd_same _ _ _))))) rfl sz28 rfl rfl (sqC_length _)) ?_
  refine DW.read' 1 _ rfl (by kernel_rfl) rfl (QO.loadRow (cs := sqC a0) (hr := (rdAll ((upd_ne _ _ n_b3_b1.ne.symm).trans ((upd_ne _ _ n_b2_b1.ne.symm).trans (upd_same _ _ _))))) rfl sz28 rfl rfl (sqC_length _)) ?_
  refine DW.pure' 2 _ rfl (by kernel_rfl) rfl (fun _ => QO.move rfl rfl) ?_
  refine DW.pure' 3 _ rfl (by kernel_rfl) rfl (fun _ => QO.move rfl rfl) ?_
  have hq := Option.bind_eq_some_iff.1 hm; clear hm; obtain ⟨r2, hr2, hm⟩ := hq
  refine DW.qcall' 4 _ _ _ rfl (by kernel_rfl) rfl (EO.fn rfl Try.func42 rfl rfl (Evs.cons rfl (Evs.cons rfl (Evs.cons rfl Evs.nil)))) (c_impl_toLoop hr2 ) ?_
  have hq := Option.bind_eq_some_iff.1 hm; clear hm; obtain ⟨r3, hr3, hm⟩ := hq
  refine DW.qcall' 5 _ _ _ rfl (by kernel_rfl) rfl (EO.fn rfl Try.func27 rfl rfl (Evs.cons rfl (Evs.cons rfl Evs.nil))) (c_impl_isotope hr3 ) ?_
  refine DW.loud 6 rfl (by kernel_rfl) rfl rfl (LO.storeAll (cs := sqC r3) rfl sz28 rfl rfl (sqC_one _) (sqC_length _) ((upd_ne _ _ n_b3_b2.ne.symm).trans (upd_same _ _ _)) (sqC_length _) (Chg.there n_b3_b2.ne Chg.here) rfl ?_)
  refine ⟨(fun _ => (Le.upd_left (Le.upd_left (Le.under (Le.under (Le.under (Le.refl _) hb1) hb2) hb3) ((upd_ne _ _ n_b3_b1.ne.symm).trans ((upd_ne _ _ n_b2_b1.ne.symm).trans (upd_same _ _ _))) (by first | rfl | (simp; done))) (upd_same _ _ _) (by first | rfl | (simp; done)))), ?_⟩
  refine DW.pure' 7 _ rfl (by kernel_rfl) rfl (fun _ => QO.assign rfl rfl) ?_
  refine DW.done (by kernel_rfl) ?_ _
  refine thenA_n ?_
  refine wpA_ret ?_
  obtain rfl := Option.some.inj hm
  exact retA_r (h2 := h) (Res.two rfl (res1.row (cs := sqC r3) (hr := (rdAll ((upd_ne _ _ n_b3_b2.ne.symm).trans (upd_same _ _ _)))) sz28 rfl rfl (sqC_length _)) (rfl)) (Le.under (Le.under (Le.under (Le.refl _) hb1) hb2) hb3) ⟨rfl, rfl⟩

/-! loop.example/g01195/spec.l02To -/
theorem c_spec_l02To {a0 : Sq} {a1 : Int} {a2 : Int} {h : Hp} {r : Tr} (hm : m_spec_l02To a0 a1 a2 = some r)  :
    QC Try.prog 43 #[.agg (sqC a0).toArray, .int .u8 a1, .int .u8 a2] h (.agg (trC r).toArray) := by
 unfold m_spec_l02To at hm
 refine CC.enter Try.func43 rfl Try.ntmps43 rfl ?_
 refine wpA_seq ?_
 refine wpA_region ?_
 refine Ops_loud rfl (LO.boxAgg rfl rfl rfl (fun b1 hb1 => ?_))
 refine Ops_loud rfl (LO.alloc rfl zr31 rfl (fun b2 hb2 => ?_))
 simp only [upd_noneA] at hb2
 obtain ⟨n_b2_b1, hb2⟩ := hb2
 refine Ops_nil ?_
 refine thenA_n ?_
 refine wpA_seq ?_
 refine wpA_region ?_
 refine Ops_quiet _ rfl rfl (QO.fieldAt (fo := 0) rfl sz28 rfl rfl sz2 rfl rfl) ?_
 refine Ops_quiet _ rfl rfl (QO.load rfl sz2 rfl rfl (by (refine (rd_own ((upd_ne _ _ n_b2_b1.ne.symm).trans (upd_same _ _ _)) _).trans ?_); exact rfl)) ?_
 refine Ops_quiet _ rfl rfl (QO.assign rfl rfl) ?_
 refine Ops_nil ?_
 refine thenA_n ?_
 refine wpA_seq ?_
 refine wpA_region ?_
 refine Ops_quiet _ rfl rfl (QO.move rfl rfl) ?_
 have hq := Option.bind_eq_some_iff.1 hm; clear hm; obtain ⟨r1, hr1, hm⟩ := hq
 refine Ops_call _ _ rfl rfl (EO.fn rfl Try.func67 rfl rfl (Evs.cons rfl Evs.nil)) (QC.cc (c_spec_l01Same hr1 ) ?_)
 refine Ops_loud rfl (LO.alloc rfl zr29 rfl (fun b3 hb3 => ?_))
 simp only [upd_noneA] at hb3
 obtain ⟨n_b3_b2, n_b3_b1, hb3⟩ := hb3
 refine Ops_loud rfl (LO.storeAll (cs := tabI .u8 r1 10) rfl sz29 rfl rfl (tabI_one _ _ _) (tabI_length _ _ _) (upd_same _ _ _) (tabI_length _ _ _) Chg.here rfl ?_)
 refine Ops_nil ?_
 refine thenA_n ?_
 refine wpA_seq ?_
 refine wpA_region ?_
 refine Ops_quiet _ rfl rfl (QO.move rfl rfl) ?_
 refine Ops_quiet _ rfl rfl (QO.move rfl rfl) ?_
 refine Ops_quiet _ rfl rfl (QO.fieldAt (fo := 1) rfl sz28 rfl rfl sz26 rfl rfl) ?_
 have hq := chk hm; clear hm; obtain ⟨ck1, hm⟩ := hq
 refine Ops_quiet _ rfl rfl (QO.idxArr rfl sz26 sz24 rfl rfl (by omega) (by omega)) ?_
 have hq := chk hm; clear hm; obtain ⟨ck2, hm⟩ := hq
 refine Ops_quiet _ rfl rfl (QO.idxArr rfl sz24 sz5 rfl rfl (by omega) (by omega)) ?_
 refine Ops_quiet _ rfl rfl (QO.load rfl sz5 rfl rfl (by (refine (rd_own ((upd_ne _ _ n_b3_b1.ne.symm).trans ((upd_ne _ _ n_b2_b1.ne.symm).trans (upd_same _ _ _))) _).trans ?_); exact sqC_get (by omega) (by omega))) ?_
 refine Ops_quiet _ rfl rfl (QO.assign rfl rfl) ?_
 refine Ops_nil ?_
 refine thenA_n ?_
 refine wpA_seq ?_
 refine wpA_region ?_
 refine Ops_quiet _ rfl rfl (QO.move rfl rfl) ?_
 refine Ops_quiet _ rfl rfl (QO.idxArr rfl sz29 sz5 rfl rfl (by decide) (by decide)) ?_
 refine Ops_loud rfl (LO.store' (xs' := tabI .u8 (fset r1 0 (a0.t (a1).toNat (a2).toNat)) 10) rfl sz5 rfl rfl rfl (upd_same _ _ _) (by first | ((try simp only [mpC_length, sqC_length, tbC_length, tabI_length, tabB_length, ints_length, plsC_length, trC_length, sqsC_length, strsC_length, boolsC_length, tbB_length, List.length_append, List.length_cons, List.length_nil, List.length_set, List.length_replicate, rep_length]); first | omega | decide) | exact Nat.le_of_ble_eq_true rfl) tabI_set01 Chg.here rfl ?_)
 refine Ops_nil ?_
 refine thenA_n ?_
 refine wpA_seq ?_
 refine wpA_region ?_
 refine Ops_quiet _ rfl rfl (QO.move rfl rfl) ?_
 have hq := chk hm; clear hm; obtain ⟨ck3, hm⟩ := hq
 refine Ops_quiet _ rfl rfl (QO.idxArr rfl sz29 sz5 rfl rfl (by omega) (by omega)) ?_
 refine Ops_loud rfl (LO.store' (xs' := tabI .u8 (fset (fset r1 0 (a0.t (a1).toNat (a2).toNat)) ((a0.t (a1).toNat (a2).toNat)).toNat 0) 10) rfl sz5 rfl rfl rfl (upd_same _ _ _) (by first | ((try simp only [mpC_length, sqC_length, tbC_length, tabI_length, tabB_length, ints_length, plsC_length, trC_length, sqsC_length, strsC_length, boolsC_length, tbB_length, List.length_append, List.length_cons, List.length_nil, List.length_set, List.length_replicate, rep_length]); first | omega | decide) | exact Nat.le_of_ble_eq_true rfl) tabI_set01 Chg.here rfl ?_)
 refine Ops_nil ?_
 refine thenA_n ?_
 refine wpA_seq ?_
 refine wpA_any (upd (upd (upd (h) b1 (.own 28 (sqC a0) 101)) b2 (.own 31 (trC tr0) 30)) b3 (.own 29 (tabI .u8 (fset (fset r1 0 (a0.t (a1).toNat (a2).toNat)) ((a0.t (a1).toNat (a2).toNat)).toNat 0) 10) 10)) [14] [14] (by kernel_rfl) (by kernel_rfl) (DW.start ?_)
 refine DW.read' 0 _ rfl (by kernel_rfl) rfl (QO.loadRow (cs := sqC a0) (hr := (rdAll ((upd_ne _ _ n_b3_b1.ne.symm).trans ((upd_ne _ _ n_b2_b1.ne.symm).trans (upd_same _ _ _))))) rfl sz28 rfl rfl (sqC_length _)) ?_
 refine DW.pure' 1 _ rfl (by kernel_rfl) rfl (fun _ => QO.move rfl rfl) ?_
 have hq := Option.bind_eq_some_iff.1 hm; clear hm; obtain ⟨r2, hr2, hm⟩ := hq
 refine DW.qcall' 2 _ _ _ rfl (by kernel_rfl) rfl (EO.fn rfl Try.func68 rfl rfl (Evs.cons rfl (Evs.cons rfl Evs.nil))) (c_spec_l01Column hr2 ) ?_
 refine DW.read' 3 _ rfl (by kernel_rfl) rfl (QO.loadRow (cs := tabI .u8 (fset (fset r1 0 (a0.t (a1).toNat (a2).toNat)) ((a0.t (a1).toNat (a2).toNat)).toNat 0) 10) (hr := (rdAll (upd_same _ _ _))) rfl sz29 rfl rfl (tabI_length _ _ _)) ?_
 refine DW.pure' 4 _ rfl (by kernel_rfl) rfl (fun _ => QO.move rfl rfl) ?_
 have hq := Option.bind_eq_some_iff.1 hm; clear hm; obtain ⟨r3, hr3, hm⟩ := hq
 refine DW.qcall' 5 _ _ _ rfl (by kernel_rfl) rfl (EO.fn rfl Try.func54 rfl rfl (Evs.cons rfl (Evs.cons rfl (Evs.cons rfl Evs.nil)))) (c_spec_l01Then hr3 ) ?_
 refine DW.read' 6 _ rfl (by kernel_rfl) rfl (QO.loadRow (cs := sqC a0) (hr := (rdAll ((upd_ne _ _ n_b3_b1.ne.symm).trans ((upd_ne _ _ n_b2_b1.ne.symm).trans (upd_same _ _ _))))) rfl sz28 rfl rfl (sqC_length _)) ?_
 refine DW.pure' 7 _ rfl (by kernel_rfl) rfl (fun _ => QO.move rfl rfl) ?_
 have hq := Option.bind_eq_some_iff.1 hm; clear hm; obtain ⟨r4, hr4, hm⟩ := hq
 refine DW.qcall' 8 _ _ _ rfl (by kernel_rfl) rfl (EO.fn rfl Try.func69 rfl rfl (Evs.cons rfl (Evs.cons rfl Evs.nil))) (c_spec_l01Row hr4 ) ?_
 refine DW.read' 9 _ rfl (by kernel_rfl) rfl (QO.loadRow (cs := tabI .u8 (fset (fset r1 0 (a0.t (a1).toNat (a2).toNat)) ((a0.t (a1).toNat (a2).toNat)).toNat 0) 10) (hr := (rdAll (upd_same _ _ _))) rfl sz29 rfl rfl (tabI_length _ _ _)) ?_
 refine DW.pure' 10 _ rfl (by kernel_rfl) rfl (fun _ => QO.move rfl rfl) ?_
 have hq := Option.bind_eq_some_iff.1 hm; clear hm; obtain ⟨r5, hr5, hm⟩ := hq
 refine DW.qcall' 11 _ _ _ rfl (by kernel_rfl) rfl (EO.fn rfl Try.func54 rfl rfl (Evs.cons rfl (Evs.cons rfl (Evs.cons rfl Evs.nil)))) (c_spec_l01Then hr5 ) ?_
 refine DW.read' 12 _ rfl (by kernel_rfl) rfl (QO.loadRow (cs := tabI .u8 (fset (fset r1 0 (a0.t (a1).toNat (a2).toNat)) ((a0.t (a1).toNat (a2).toNat)).toNat 0) 10) (hr := (rdAll (upd_same _ _ _))) rfl sz29 rfl rfl (tabI_length _ _ _)) ?_
 refine DW.pure' 13 _ rfl (by kernel_rfl) rfl (fun _ => QO.build3 rfl rfl rfl rfl (bd31_0_1_2 r3 r5 (fset (fset r1 0 (a0.t (a1).toNat (a2).toNat)) ((a0.t (a1).toNat (a2).toNat)).toNat 0))) ?_
 refine DW.loud 14 rfl (by kernel_rfl) rfl rfl (LO.storeAll (cs := trC (⟨r3, r5, (fset (fset r1 0 (a0.t (a1).toNat (a2).toNat)) ((a0.t (a1).toNat (a2).toNat)).toNat 0)⟩ : Tr)) rfl sz31 rfl rfl (trC_one _) (trC_length _) ((upd_ne _ _ n_b3_b2.ne.symm).trans (upd_same _ _ _)) (trC_length _) (Chg.there n_b3_b2.ne Chg.here) rfl ?_)
 refine ⟨(fun e => absurd e (by decide)), ?_⟩
 refine DW.done (by kernel_rfl) ?_ _
 refine thenA_n ?_
 refine wpA_ret ?_
 obtain rfl := Option.some.inj hm
 exact retA_r (h2 := h) (Res.one rfl (res1.row (cs := trC (⟨r3, r5, (fset (fset r1 0 (a0.t (a1).toNat (a2).toNat)) ((a0.t (a1).toNat (a2).toNat)).toNat 0)⟩ : Tr)) (hr := (rdAll ((upd_ne _ _ n_b3_b2.ne.symm).trans (upd_same _ _ _)))) sz31 rfl rfl (trC_length _))) (Le.under (Le.under (Le.under (Le.refl _) hb1) hb2) hb3) ⟨rfl, rfl⟩

/-! loop.example/g01195/spec.LoopAt -/
theorem c_spec_LoopAt {a0 : Sq} {a1 : Int} {a2 : Int} {h : Hp} {r : Sq × Int} (hm : m_spec_LoopAt a0 a1 a2 = some r)  :
    QC Try.prog 21 #[.agg (sqC a0).toArray, .int .u8 a1, .int .u8 a2] h (.tuple #[.agg (sqC r.1).toArray, .int .i64 r.2]) := by
 unfold m_spec_LoopAt at hm
 refine CC.enter Try.func21 rfl Try.ntmps21 rfl ?_
 refine wpA_seq ?_
 refine wpA_region ?_
 refine Ops_loud rfl (LO.boxAgg rfl rfl rfl (fun b1 hb1 => ?_))
 refine Ops_loud rfl (LO.alloc rfl zr28 rfl (fun b2 hb2 => ?_))
 simp only [upd_noneA] at hb2
 obtain ⟨n_b2_b1, hb2⟩ := hb2
 refine Ops_quiet _ rfl rfl (QO.assign rfl rfl) ?_
 refine Ops_nil ?_
 refine thenA_n ?_
 refine wpA_seq ?_
 refine wpA_block ?_
 refine wpA_seq ?_
 refine wpA_region ?_
 refine Ops_quiet _ rfl rfl (QO.loadRow (cs := sqC a0) (hr := (rdAll ((upd_ne _ _ n_b2_b1.ne.symm).trans (upd_same _ _ _)))) rfl sz28 rfl rfl (sqC_length _)) ?_
 have hq := Option.bind_eq_some_iff.1 hm; clear hm; obtain ⟨r1, hr1, hm⟩ := hq
 refine Ops_call _ _ rfl rfl (EO.fn rfl Try.func38 rfl rfl (Evs.cons rfl Evs.nil)) (QC.cc (c_spec_l01Is hr1 ) ?_)
 refine Ops_quiet _ rfl rfl (QO.not rfl rfl) ?_
 refine Ops_quiet _ rfl rfl (QO.assign rfl rfl) ?_
 refine Ops_nil ?_
 refine thenA_n ?_
 refine wpA_cond rfl (fun g1 => ?_) (fun g1 => ?_)
 ·replace hm := cond_t hm g1
  refine wpA_seq ?_
  refine wpA_region ?_
  refine Ops_quiet _ rfl rfl (QO.build0 rfl bd28) ?_
  refine Ops_loud rfl (LO.storeAll (cs := sqC sq0) rfl sz28 rfl rfl (sqC_one _) (sqC_length _) (upd_same _ _ _) (sqC_length _) Chg.here rfl ?_)
  refine Ops_quiet _ rfl rfl (QO.assign rfl rfl) ?_
  refine Ops_nil ?_
  refine thenA_n ?_
  refine wpA_ret ?_
  refine blockA_r ?_
  refine thenA_r ?_
  obtain rfl := Option.some.inj hm
  exact retA_r (h2 := h) (Res.two rfl (res1.row (cs := sqC sq0) (hr := (rdAll (upd_same _ _ _))) sz28 rfl rfl (sqC_length _)) (rfl)) (Le.under (Le.under (Le.refl _) hb1) hb2) ⟨rfl, rfl⟩
 ·replace hm := cond_f hm g1
  refine wpA_seq ?_
  refine wpA_region ?_
  refine Ops_quiet _ rfl rfl (QO.move rfl rfl) ?_
  refine Ops_quiet _ rfl rfl (QO.conv rfl sz5 sz2 rfl) ?_
  refine Ops_quiet _ rfl rfl (QO.fieldAt (fo := 0) rfl sz28 rfl rfl sz2 rfl rfl) ?_
  refine Ops_quiet _ rfl rfl (QO.load rfl sz2 rfl rfl (by (refine (rd_own ((upd_ne _ _ n_b2_b1.ne.symm).trans (upd_same _ _ _)) _).trans ?_); exact rfl)) ?_
  refine Ops_quiet _ rfl rfl (QO.bin rfl rfl rfl rfl) ?_
  refine Ops_quiet _ rfl rfl (QO.move rfl rfl) ?_
  refine Ops_case 19 rfl (fun g2 => ?_) (fun g2 => ?_)
  ·replace hm := cond_t hm g2
   refine Ops_skip rfl rfl ?_
   refine Ops_skip rfl rfl ?_
   refine Ops_skip rfl rfl ?_
   refine Ops_skip rfl rfl ?_
   refine Ops_skip rfl rfl ?_
   refine Ops_quiet _ rfl rfl (QO.pick_t rfl rfl rfl) ?_
   refine Ops_quiet _ rfl rfl (QO.assign rfl rfl) ?_
   refine Ops_nil ?_
   refine thenA_n ?_
   refine wpA_cond_t rfl ?_
   refine wpA_seq ?_
   refine wpA_region ?_
   refine Ops_quiet _ rfl rfl (QO.build0 rfl bd28) ?_
   refine Ops_loud rfl (LO.storeAll (cs := sqC sq0) rfl sz28 rfl rfl (sqC_one _) (sqC_length _) (upd_same _ _ _) (sqC_length _) Chg.here rfl ?_)
   refine Ops_quiet _ rfl rfl (QO.assign rfl rfl) ?_
   refine Ops_nil ?_
   refine thenA_n ?_
   refine wpA_ret ?_
   refine blockA_r ?_
   refine thenA_r ?_
   obtain rfl := Option.some.inj hm
   exact retA_r (h2 := h) (Res.two rfl (res1.row (cs := sqC sq0) (hr := (rdAll (upd_same _ _ _))) sz28 rfl rfl (sqC_length _)) (rfl)) (Le.under (Le.under (Le.refl _) hb1) hb2) ⟨rfl, rfl⟩
  ·replace hm := cond_f hm g2
   refine Ops_quiet _ rfl rfl (QO.move rfl rfl) ?_
   refine Ops_quiet _ rfl rfl (QO.conv rfl sz5 sz2 rfl) ?_
   refine Ops_quiet _ rfl rfl (QO.fieldAt (fo := 0) rfl sz28 rfl rfl sz2 rfl rfl) ?_
   refine Ops_quiet _ rfl rfl (QO.load rfl sz2 rfl rfl (by (refine (rd_own ((upd_ne _ _ n_b2_b1.ne.symm).trans (upd_same _ _ _)) _).trans ?_); exact rfl)) ?_
   refine Ops_quiet _ rfl rfl (QO.bin rfl rfl rfl rfl) ?_
   refine Ops_quiet _ rfl rfl (QO.pick_f rfl rfl rfl) ?_
   refine Ops_quiet _ rfl rfl (QO.assign rfl rfl) ?_
   refine Ops_nil ?_
   refine thenA_n ?_
   refine wpA_cond rfl (fun g3 => ?_) (fun g3 => ?_)
   ·replace hm := cond_t hm g3
    refine wpA_seq ?_
    refine wpA_region ?_
    refine Ops_quiet _ rfl rfl (QO.build0 rfl bd28) ?_
    refine Ops_loud rfl (LO.storeAll (cs := sqC sq0) rfl sz28 rfl rfl (sqC_one _) (sqC_length _) (upd_same _ _ _) (sqC_length _) Chg.here rfl ?_)
    refine Ops_quiet _ rfl rfl (QO.assign rfl rfl) ?_
    refine Ops_nil ?_
    refine thenA_n ?_
    refine wpA_ret ?_
    refine blockA_r ?_
    refine thenA_r ?_
    obtain rfl := Option.some.inj hm
    exact retA_r (h2 := h) (Res.two rfl (res1.row (cs := sqC sq0) (hr := (rdAll (upd_same _ _ _))) sz28 rfl rfl (sqC_length _)) (rfl)) (Le.under (Le.under (Le.refl _) hb1) hb2) ⟨rfl, rfl⟩
   ·replace hm := cond_f hm g3
    refine wpA_skip ?_
    refine blockA_n ?_
    refine thenA_n ?_
    refine wpA_seq ?_
    refine wpA_any (upd (h) b1 (.own 28 (sqC a0) 101)) [6] [] (by kernel_rfl) (by kernel_rfl) (DW.start ?_)
    refine DW.read' 0 _ rfl (by kernel_rfl) rfl (QO.loadRow (cs := sqC a0) (hr := (rdAll ((upd_ne _ _ n_b2_b1.ne.symm).trans (upd_same _ _ _)))) rfl sz28 rfl rfl (sqC_length _)) ?_
    refine DW.read' 1 _ rfl (by kernel_rfl) rfl (QO.loadRow (cs := sqC a0) (hr := (rdAll ((upd_ne _ _ n_b2_b1.ne.symm).trans (upd_same _ _ _)))) rfl sz28 rfl rfl (sqC_length _)) ?_
    refine DW.pure' 2 _ rfl (by kernel_rfl) rfl (fun _ => QO.move rfl rfl) ?_
    refine DW.pure' 3 _ rfl (by kernel_rfl) rfl (fun _ => QO.move rfl rfl) ?_
    have hq := Option.bind_eq_some_iff.1 hm; clear hm; obtain ⟨r2, hr2, hm⟩ := hq
    refine DW.qcall' 4 _ _ _ rfl (by kernel_rfl) rfl (EO.fn rfl Try.func43 rfl rfl (Evs.cons rfl (Evs.cons rfl (Evs.cons rfl Evs.nil)))) (c_spec_l02To hr2 ) ?_
    have hq := Option.bind_eq_some_iff.1 hm; clear hm; obtain ⟨r3, hr3, hm⟩ := hq
    refine DW.qcall' 5 _ _ _ rfl (by kernel_rfl) rfl (EO.fn rfl Try.func29 rfl rfl (Evs.cons rfl (Evs.cons rfl Evs.nil))) (c_spec_l02Isotope hr3 ) ?_
    refine DW.loud 6 rfl (by kernel_rfl) rfl rfl (LO.storeAll (cs := sqC r3) rfl sz28 rfl rfl (sqC_one _) (sqC_length _) (upd_same _ _ _) (sqC_length _) Chg.here rfl ?_)
    refine ⟨(fun _ => (Le.upd_left (Le.under (Le.under (Le.refl _) hb1) hb2) ((upd_ne _ _ n_b2_b1.ne.symm).trans (upd_same _ _ _)) (by first | rfl | (simp; done)))), ?_⟩
    refine DW.pure' 7 _ rfl (by kernel_rfl) rfl (fun _ => QO.assign rfl rfl) ?_
    refine DW.done (by kernel_rfl) ?_ _
    refine thenA_n ?_
    refine wpA_ret ?_
    obtain rfl := Option.some.inj hm
    exact retA_r (h2 := h) (Res.two rfl (res1.row (cs := sqC r3) (hr := (rdAll (upd_same _ _ _))) sz28 rfl rfl (sqC_length _)) (rfl)) (Le.under (Le.under (Le.refl _) hb1) hb2) ⟨rfl, rfl⟩

/-! (loop.example/g01195/impl.Square).isUnit -/
theorem c_impl_Square_isUnit {a0 : Sq} {a1 : Int} {h : Hp} {r : Bool} (hm : m_impl_Square_isUnit a0 a1 = some r)  :
    QC Try.prog 44 #[.agg (sqC a0).toArray, .int .u8 a1] h (.bool r) := by
 unfold m_impl_Square_isUnit at hm
 refine CC.enter Try.func44 rfl Try.ntmps44 rfl ?_
 refine wpA_seq ?_
 refine wpA_region ?_
 refine Ops_loud rfl (LO.boxAgg rfl rfl rfl (fun b1 hb1 => ?_))
 refine Ops_quiet _ rfl rfl (QO.assign rfl rfl) ?_
 refine Ops_nil ?_
 refine thenA_n ?_
 refine wpA_seq ?_
 refine wpA_seq ?_
 refine wpA_region ?_
 refine Ops_quiet _ rfl rfl (QO.loadRow (cs := sqC a0) (hr := (rdAll (upd_same _ _ _))) rfl sz28 rfl rfl (sqC_length _)) ?_
 have hq := Option.bind_eq_some_iff.1 hm; clear hm; obtain ⟨r1, hr1, hm⟩ := hq
 refine Ops_call _ _ rfl rfl (EO.fn rfl Try.func50 rfl rfl (Evs.cons rfl Evs.nil)) (CC.mono (c_impl_Square_elements hr1 ) ?_)
 rintro _ _ ⟨b2, cap_b2, rfl, hb2, hk_b2, hc_b2, rfl⟩
 simp only [upd_noneA] at hb2
 obtain ⟨n_b2_b1, hb2⟩ := hb2
 refine Ops_quiet _ rfl rfl (QO.lenSl rfl sz22 rfl) ?_
 refine Ops_quiet _ rfl rfl (QO.move rfl rfl) ?_
 refine Ops_nil ?_
 refine thenA_n ?_
 refine wpA_block ?_
 obtain ⟨R1, hR, hm⟩ := Option.bind_eq_some_iff.1 hm
 obtain ⟨k1, hk1⟩ := loopV_some hR
 clear hR
 refine wpA_mono (Q := fun e s' h' => match (generalizing := false) R1 with | .stop x id => e = .exit id ∧ ∃ (x1 : Int), x1 = x ∧ Sub s' [(1, .int .u8 a1), (2, .pointer (some ⟨b1, 0, none⟩)), (8, .slice (some ⟨b2, 0, none⟩) r1.length cap_b2), (9, .int .i64 ((r1.length : Nat) : Int)), (10, .int .i64 x1)] ∧ Le (upd (upd (h) b1 (.own 28 (sqC a0) 101)) b2 (.own 5 (ints .u8 r1) (cap_b2 * 1))) h' | .ret r => e = .ret ∧ Sub s' [(4, .bool r)] ∧ Le (h) h' | .next _ => False) ?_ ?_
 ·refine wpA_loop (fun k s' h' => ∃ (x1 : Int), loopW (m_impl_Square_isUnit_l0 a0 a1 r1) k x1 = some R1 ∧ Sub s' [(1, .int .u8 a1), (2, .pointer (some ⟨b1, 0, none⟩)), (8, .slice (some ⟨b2, 0, none⟩) r1.length cap_b2), (9, .int .i64 ((r1.length : Nat) : Int)), (10, .int .i64 x1)] ∧ Le (upd (upd (h) b1 (.own 28 (sqC a0) 101)) b2 (.own 5 (ints .u8 r1) (cap_b2 * 1))) h') (m := k1) ⟨0, hk1, (Sub.cons rfl (Sub.cons rfl (Sub.cons rfl (Sub.cons rfl (Sub.cons rfl Sub.nil))))), (Le.upd_left (Le.upd_left (Le.under (Le.under (Le.refl _) hb1) hb2) ((upd_ne _ _ n_b2_b1.ne.symm).trans (upd_same _ _ _)) (by first | rfl | (simp; done))) (upd_same _ _ _) (by first | rfl | (simp; done)))⟩ ?_
  rintro k1 s' h' ⟨x1, hk1, hsub, hle⟩
  refine wpA_weaken hsub.ok hle ?_
  clear hsub hle s' h'
  cases k1 with
  | zero => exact absurd hk1 (by simp [loopW])
  | succ k1 =>
   obtain ⟨o1, ho1, hk1⟩ := loopW_succ hk1
   unfold m_impl_Square_isUnit_l0 at ho1
   try dsimp only at ho1
   refine wpA_seq ?_
   refine wpA_region ?_
   refine Ops_quiet _ rfl rfl (QO.bin rfl rfl rfl rfl) ?_
   refine Ops_nil ?_
   refine thenA_n ?_
   refine wpA_seq ?_
   refine wpA_cond rfl (fun g1 => ?_) (fun g1 => ?_)
   ·replace ho1 := cond_t ho1 g1
    refine wpA_skip ?_
    refine thenA_n ?_
    refine wpA_seq ?_
    refine wpA_block ?_
    refine wpA_seq ?_
    refine wpA_region ?_
    have hq := chk ho1; clear ho1; obtain ⟨ck1, ho1⟩ := hq
    refine Ops_quiet _ rfl rfl (QO.idxSl rfl sz22 sz5 rfl rfl (by omega) (by omega)) ?_
    refine Ops_quiet _ rfl rfl (QO.load rfl sz5 rfl rfl (by (refine (rd_own (upd_same _ _ _) _).trans ?_); exact ints_get01 (by first | omega | (simp only [List.length_cons, List.length_nil]; omega)))) ?_
    refine Ops_quiet _ rfl rfl (QO.assign rfl rfl) ?_
    refine Ops_nil ?_
    refine thenA_n ?_
    refine wpA_seq ?_
    refine wpA_region ?_
    refine Ops_quiet _ rfl rfl (QO.move rfl rfl) ?_
    refine Ops_quiet _ rfl rfl (QO.move rfl rfl) ?_
    refine Ops_quiet _ rfl rfl (QO.fieldAt (fo := 1) rfl sz28 rfl rfl sz26 rfl rfl) ?_
    have hq := chk ho1; clear ho1; obtain ⟨ck2, ho1⟩ := hq
    refine Ops_quiet _ rfl rfl (QO.idxArr rfl sz26 sz24 rfl rfl (by omega) (by omega)) ?_
    have hq := chk ho1; clear ho1; obtain ⟨ck3, ho1⟩ := hq
    refine Ops_quiet _ rfl rfl (QO.idxArr rfl sz24 sz5 rfl rfl (by omega) (by omega)) ?_
    refine Ops_quiet _ rfl rfl (QO.load rfl sz5 rfl rfl (by (refine (rd_own ((upd_ne _ _ n_b2_b1.ne.symm).trans (upd_same _ _ _)) _).trans ?_); exact sqC_get (by omega) (by omega))) ?_
    refine Ops_quiet _ rfl rfl (QO.move rfl rfl) ?_
    refine Ops_quiet _ rfl rfl (QO.bin rfl rfl rfl rfl) ?_
    refine Ops_quiet _ rfl rfl (QO.move rfl rfl) ?_
    refine Ops_case 22 rfl (fun g2 => ?_) (fun g2 => ?_)
    ·replace ho1 := cond_t ho1 g2
     refine Ops_skip rfl rfl ?_
     refine Ops_skip rfl rfl ?_
     refine Ops_skip rfl rfl ?_
     refine Ops_skip rfl rfl ?_
     refine Ops_skip rfl rfl ?_
     refine Ops_skip rfl rfl ?_
     refine Ops_skip rfl rfl ?_
     refine Ops_skip rfl rfl ?_
     refine Ops_quiet _ rfl rfl (QO.pick_t rfl rfl rfl) ?_
     refine Ops_nil ?_
     refine thenA_n ?_
     refine wpA_cond_t rfl ?_
     refine wpA_seq ?_
     refine wpA_region ?_
     refine Ops_quiet _ rfl rfl (QO.assign rfl rfl) ?_
     refine Ops_nil ?_
     refine thenA_n ?_
     refine wpA_ret ?_
     refine blockA_r ?_
     refine thenA_r ?_
     refine thenA_r ?_
     obtain rfl := Option.some.inj ho1
     obtain rfl := Option.some.inj hk1
     exact ⟨rfl, (Sub.cons rfl Sub.nil), (Le.under (Le.under (Le.refl _) hb1) hb2)⟩
    ·replace ho1 := cond_f ho1 g2
     refine Ops_quiet _ rfl rfl (QO.move rfl rfl) ?_
     refine Ops_quiet _ rfl rfl (QO.move rfl rfl) ?_
     refine Ops_quiet _ rfl rfl (QO.fieldAt (fo := 1) rfl sz28 rfl rfl sz26 rfl rfl) ?_
     have hq := chk ho1; clear ho1; obtain ⟨ck4, ho1⟩ := hq
     refine Ops_quiet _ rfl rfl (QO.idxArr rfl sz26 sz24 rfl rfl (by omega) (by omega)) ?_
     have hq := chk ho1; clear ho1; obtain ⟨ck5, ho1⟩ := hq
     refine Ops_quiet _ rfl rfl (QO.idxArr rfl sz24 sz5 rfl rfl (by omega) (by omega)) ?_
     refine Ops_quiet _ rfl rfl (QO.load rfl sz5 rfl rfl (by (refine (rd_own ((upd_ne _ _ n_b2_b1.ne.symm).trans (upd_same _ _ _)) _).trans ?_); exact sqC_get (by omega) (by omega))) ?_
     refine Ops_quiet _ rfl rfl (QO.move rfl rfl) ?_
     refine Ops_quiet _ rfl rfl (QO.bin rfl rfl rfl rfl) ?_
     refine Ops_quiet _ rfl rfl (QO.pick_f rfl rfl rfl) ?_
     refine Ops_nil ?_
     refine thenA_n ?_
     refine wpA_cond rfl (fun g3 => ?_) (fun g3 => ?_)
     ·replace ho1 := cond_t ho1 g3
      refine wpA_seq ?_
      refine wpA_region ?_
      refine Ops_quiet _ rfl rfl (QO.assign rfl rfl) ?_
      refine Ops_nil ?_
      refine thenA_n ?_
      refine wpA_ret ?_
      refine blockA_r ?_
      refine thenA_r ?_
      refine thenA_r ?_
      obtain rfl := Option.some.inj ho1
      obtain rfl := Option.some.inj hk1
      exact ⟨rfl, (Sub.cons rfl Sub.nil), (Le.under (Le.under (Le.refl _) hb1) hb2)⟩
     ·replace ho1 := cond_f ho1 g3
      refine wpA_skip ?_
      refine blockA_n ?_
      refine thenA_n ?_
      refine wpA_region ?_
      refine Ops_quiet _ rfl rfl (QO.bin rfl rfl rfl rfl) ?_
      refine Ops_quiet _ rfl rfl (QO.move rfl rfl) ?_
      refine Ops_nil ?_
      obtain rfl := Option.some.inj ho1
      dsimp only at hk1
      exact thenA_n ⟨k1, Nat.lt_succ_self _, _, hk1, (Sub.cons rfl (Sub.cons rfl (Sub.cons rfl (Sub.cons rfl (Sub.cons rfl Sub.nil))))), (Le.upd_left (Le.upd_left (Le.under (Le.under (Le.refl _) hb1) hb2) ((upd_ne _ _ n_b2_b1.ne.symm).trans (upd_same _ _ _)) (by first | rfl | (simp; done))) (upd_same _ _ _) (by first | rfl | (simp; done)))⟩
   ·replace ho1 := cond_f ho1 g1
    refine wpA_exit ?_
    refine thenA_e ?_
    refine thenA_e ?_
    obtain rfl := Option.some.inj ho1
    obtain rfl := Option.some.inj hk1
    exact ⟨rfl, _, rfl, (Sub.cons rfl (Sub.cons rfl (Sub.cons rfl (Sub.cons rfl (Sub.cons rfl Sub.nil))))), (Le.upd_left (Le.upd_left (Le.under (Le.under (Le.refl _) hb1) hb2) ((upd_ne _ _ n_b2_b1.ne.symm).trans (upd_same _ _ _)) (by first | rfl | (simp; done))) (upd_same _ _ _) (by first | rfl | (simp; done)))⟩
 ·intro e s' h' hq
  cases R1 with
  | next x => exact hq.elim
  | ret r =>
   obtain ⟨rfl, hsub1, hle1⟩ := hq
   try dsimp only at hm
   refine blockA_r ?_
   refine thenA_r ?_
   obtain rfl := Option.some.inj hm
   refine retA_sub hsub1.ok hle1 ?_
   exact retA_r (h2 := h) (Res.one rfl (rfl)) (Le.refl _) ⟨rfl, rfl⟩
  | stop x id =>
   obtain ⟨rfl, x2, rfl, hsub2, hle2⟩ := hq
   try dsimp only at hm
   by_cases hid1 : id = 0
   ·subst hid1
    rw [if_pos rfl] at hm
    refine blockA_s ?_
    refine thenA_n ?_
    refine wpA_weaken hsub2.ok hle2 ?_
    refine wpA_seq ?_
    refine wpA_region ?_
    refine Ops_quiet _ rfl rfl (QO.assign rfl rfl) ?_
    refine Ops_nil ?_
    refine thenA_n ?_
    refine wpA_ret ?_
    obtain rfl := Option.some.inj hm
    exact retA_r (h2 := h) (Res.one rfl (rfl)) (Le.under (Le.under (Le.refl _) hb1) hb2) ⟨rfl, rfl⟩
   rw [if_neg hid1] at hm
   exact absurd hm (by simp)

/-! loop.example/g01195/impl.IsLoop -/
theorem c_impl_IsLoop {a0 : Sq} {h : Hp} {r : Bool} (hm : m_impl_IsLoop a0 = some r)  :
    QC Try.prog 22 #[.agg (sqC a0).toArray] h (.bool r) := by
 unfold m_impl_IsLoop at hm
 refine CC.enter Try.func22 rfl Try.ntmps22 rfl ?_
 refine wpA_seq ?_
 refine wpA_region ?_
 refine Ops_loud rfl (LO.boxAgg rfl rfl rfl (fun b1 hb1 => ?_))
 refine Ops_quiet _ rfl rfl (QO.assign rfl rfl) ?_
 refine Ops_nil ?_
 refine thenA_n ?_
 refine wpA_seq ?_
 refine wpA_region ?_
 refine Ops_quiet _ rfl rfl (QO.loadRow (cs := sqC a0) (hr := (rdAll (upd_same _ _ _))) rfl sz28 rfl rfl (sqC_length _)) ?_
 have hq := Option.bind_eq_some_iff.1 hm; clear hm; obtain ⟨r1, hr1, hm⟩ := hq
 refine Ops_call _ _ rfl rfl (EO.fn rfl Try.func23 rfl rfl (Evs.cons rfl Evs.nil)) (QC.cc (c_impl_IsSquare hr1 ) ?_)
 refine Ops_quiet _ rfl rfl (QO.move rfl rfl) ?_
 refine Ops_case 5 rfl (fun g1 => ?_) (fun g1 => ?_)
 ·replace hm := cond_t hm g1
  refine Ops_quiet _ rfl rfl (QO.loadRow (cs := sqC a0) (hr := (rdAll (upd_same _ _ _))) rfl sz28 rfl rfl (sqC_length _)) ?_
  have hq := Option.bind_eq_some_iff.1 hm; clear hm; obtain ⟨r2, hr2, hm⟩ := hq
  refine Ops_call _ _ rfl rfl (EO.fn rfl Try.func44 rfl rfl (Evs.cons rfl (Evs.cons rfl Evs.nil))) (QC.cc (c_impl_Square_isUnit hr2 ) ?_)
  refine Ops_quiet _ rfl rfl (QO.pick_t rfl rfl rfl) ?_
  refine Ops_quiet _ rfl rfl (QO.assign rfl rfl) ?_
  refine Ops_nil ?_
  refine thenA_n ?_
  refine wpA_ret ?_
  obtain rfl := Option.some.inj hm
  exact retA_r (h2 := h) (Res.one rfl (rfl)) (Le.under (Le.refl _) hb1) ⟨rfl, rfl⟩
 ·replace hm := cond_f hm g1
  refine Ops_skip rfl rfl ?_
  refine Ops_skip rfl rfl ?_
  refine Ops_quiet _ rfl rfl (QO.pick_f rfl rfl rfl) ?_
  refine Ops_quiet _ rfl rfl (QO.assign rfl rfl) ?_
  refine Ops_nil ?_
  refine thenA_n ?_
  refine wpA_ret ?_
  obtain rfl := Option.some.inj hm
  exact retA_r (h2 := h) (Res.one rfl (rfl)) (Le.under (Le.refl _) hb1) ⟨rfl, rfl⟩
end Go.Lab
