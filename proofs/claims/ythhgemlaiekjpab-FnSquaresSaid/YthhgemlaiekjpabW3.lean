/- The walks: each function computes what its model tells. -/
import Derived.Test.YthhgemlaiekjpabW2
set_option linter.unusedVariables false
set_option linter.unusedSimpArgs false
namespace Go.Lab
open Go Go.Abs Go.Proofs
set_option maxRecDepth 20000
set_option linter.unusedVariables false
set_option linter.unusedSimpArgs false
/-! loop.example/g01195/impl.RowMap -/
theorem c_impl_RowMap {a0 : Sq} {a1 : Int} {h : Hp} {r : (Nat → Int) × Int} (hm : m_impl_RowMap a0 a1 = some r)  :
    QC Try.prog 16 #[.agg (sqC a0).toArray, .int .u8 a1] h (.tuple #[.agg (tabI .u8 r.1 10).toArray, .int .i64 r.2]) := by
 unfold m_impl_RowMap at hm
 refine CC.enter Try.func16 rfl Try.ntmps16 rfl ?_
 refine wpA_seq ?_
 refine wpA_region ?_
 refine Ops_loud rfl (LO.boxAgg rfl rfl rfl (fun b1 hb1 => ?_))
 refine Ops_loud rfl (LO.alloc rfl zr34 rfl (fun b2 hb2 => ?_))
 simp only [upd_noneA] at hb2
 obtain ⟨n_b2_b1, hb2⟩ := hb2
 refine Ops_quiet _ rfl rfl (QO.assign rfl rfl) ?_
 refine Ops_nil ?_
 refine thenA_n ?_
 refine wpA_seq ?_
 refine wpA_seq ?_
 refine wpA_region ?_
 refine Ops_quiet _ rfl rfl (QO.loadRow (cs := sqC a0) (hr := (rdAll ((upd_ne _ _ n_b2_b1.ne.symm).trans (upd_same _ _ _)))) rfl sz28 rfl rfl (sqC_length _)) ?_
 refine Ops_quiet _ rfl rfl (QO.move rfl rfl) ?_
 refine Ops_loud rfl (LO.slice1 (r := ints .u8 [a1]) rfl sz22 sz5 zr5 (by first | rfl | (simp [rowsC_length, rowsA_length, mpC_length, sqC_length, tbC_length, tabI_length, tabB_length, ints_length, plsC_length, trC_length, sqsC_length, strsC_length, boolsC_length, tbB_length, List.length_append, List.length_cons, List.length_nil, List.length_set, List.length_replicate, rep_length]; done)) (by decide) (by decide) rfl rfl (by first | rfl | (simp [rowsC_length, rowsA_length, mpC_length, sqC_length, tbC_length, tabI_length, tabB_length, ints_length, plsC_length, trC_length, sqsC_length, strsC_length, boolsC_length, tbB_length, List.length_append, List.length_cons, List.length_nil, List.length_set, List.length_replicate, rep_length]; done)) rfl (fun b3 hb3 => ?_))
 simp only [upd_noneA] at hb3
 obtain ⟨n_b3_b2, n_b3_b1, hb3⟩ := hb3
 have hq := Option.bind_eq_some_iff.1 hm; clear hm; obtain ⟨r1, hr1, hm⟩ := hq
 refine Ops_call _ _ rfl rfl (EO.fn rfl Try.func31 rfl rfl (Evs.cons rfl (Evs.cons rfl Evs.nil))) (QC.cc (c_impl_checked (l1 := [a1]) (A1 := some ⟨b3, 0, none⟩) (c1 := 1) hr1 (RdS.own (upd_same _ _ _))) ?_)
 refine Ops_quiet _ rfl rfl (QO.assign rfl rfl) ?_
 refine Ops_nil ?_
 refine thenA_n ?_
 refine wpA_seq ?_
 refine wpA_region ?_
 refine Ops_quiet _ rfl rfl (QO.move rfl rfl) ?_
 refine Ops_quiet _ rfl rfl (QO.bin rfl rfl rfl rfl) ?_
 refine Ops_nil ?_
 refine thenA_n ?_
 refine wpA_cond rfl (fun g1 => ?_) (fun g1 => ?_)
 ·replace hm := cond_t hm g1
  refine wpA_seq ?_
  refine wpA_region ?_
  refine Ops_quiet _ rfl rfl (QO.build0 rfl bd34) ?_
  refine Ops_quiet _ rfl rfl (QO.move rfl rfl) ?_
  refine Ops_loud rfl (LO.storeAll (cs := tabI .u8 pl0 10) rfl sz34 rfl rfl (tabI_one _ _ _) (tabI_length _ _ _) ((upd_ne _ _ n_b3_b2.ne.symm).trans (upd_same _ _ _)) (tabI_length _ _ _) (Chg.there n_b3_b2.ne Chg.here) rfl ?_)
  refine Ops_quiet _ rfl rfl (QO.assign rfl rfl) ?_
  refine Ops_nil ?_
  refine thenA_n ?_
  refine wpA_ret ?_
  refine thenA_r ?_
  obtain rfl := Option.some.inj hm
  exact retA_r (h2 := h) (Res.two rfl (res1.row (cs := tabI .u8 pl0 10) (hr := (rdAll ((upd_ne _ _ n_b3_b2.ne.symm).trans (upd_same _ _ _)))) sz34 rfl rfl (tabI_length _ _ _)) (rfl)) (Le.under (Le.under (Le.under (Le.refl _) hb1) hb2) hb3) ⟨rfl, rfl⟩
 ·replace hm := cond_f hm g1
  refine wpA_skip ?_
  refine thenA_n ?_
  refine wpA_seq ?_
  refine wpA_region ?_
  refine Ops_quiet _ rfl rfl (QO.loadRow (cs := sqC a0) (hr := (rdAll ((upd_ne _ _ n_b3_b1.ne.symm).trans ((upd_ne _ _ n_b2_b1.ne.symm).trans (upd_same _ _ _))))) rfl sz28 rfl rfl (sqC_length _)) ?_
  refine Ops_quiet _ rfl rfl (QO.move rfl rfl) ?_
  have hq := Option.bind_eq_some_iff.1 hm; clear hm; obtain ⟨r2, hr2, hm⟩ := hq
  refine Ops_call _ _ rfl rfl (EO.fn rfl Try.func41 rfl rfl (Evs.cons rfl (Evs.cons rfl Evs.nil))) (QC.cc (c_impl_Square_row hr2 ) ?_)
  refine Ops_loud rfl (LO.storeAll (cs := tabI .u8 r2 10) rfl sz34 rfl rfl (tabI_one _ _ _) (tabI_length _ _ _) ((upd_ne _ _ n_b3_b2.ne.symm).trans (upd_same _ _ _)) (tabI_length _ _ _) (Chg.there n_b3_b2.ne Chg.here) rfl ?_)
  refine Ops_quiet _ rfl rfl (QO.assign rfl rfl) ?_
  refine Ops_nil ?_
  refine thenA_n ?_
  refine wpA_ret ?_
  obtain rfl := Option.some.inj hm
  exact retA_r (h2 := h) (Res.two rfl (res1.row (cs := tabI .u8 r2 10) (hr := (rdAll ((upd_ne _ _ n_b3_b2.ne.symm).trans (upd_same _ _ _)))) sz34 rfl rfl (tabI_length _ _ _)) (rfl)) (Le.under (Le.under (Le.under (Le.refl _) hb1) hb2) hb3) ⟨rfl, rfl⟩

/-! (loop.example/g01195/impl.Square).column -/
theorem c_impl_Square_column {a0 : Sq} {a1 : Int} {h : Hp} {r : (Nat → Int)} (hm : m_impl_Square_column a0 a1 = some r)  :
    QC Try.prog 42 #[.agg (sqC a0).toArray, .int .u8 a1] h (.agg (tabI .u8 r 10).toArray) := by
 unfold m_impl_Square_column at hm
 refine CC.enter Try.func42 rfl Try.ntmps42 rfl ?_
 refine wpA_seq ?_
 refine wpA_region ?_
 refine Ops_loud rfl (LO.boxAgg rfl rfl rfl (fun b1 hb1 => ?_))
 refine Ops_loud rfl (LO.alloc rfl zr34 rfl (fun b2 hb2 => ?_))
 simp only [upd_noneA] at hb2
 obtain ⟨n_b2_b1, hb2⟩ := hb2
 refine Ops_nil ?_
 refine thenA_n ?_
 refine wpA_seq ?_
 refine wpA_region ?_
 refine Ops_quiet _ rfl rfl (QO.build0 rfl bd34) ?_
 refine Ops_loud rfl (LO.alloc rfl zr34 rfl (fun b3 hb3 => ?_))
 simp only [upd_noneA] at hb3
 obtain ⟨n_b3_b2, n_b3_b1, hb3⟩ := hb3
 refine Ops_loud rfl (LO.storeAll (cs := tabI .u8 pl0 10) rfl sz34 rfl rfl (tabI_one _ _ _) (tabI_length _ _ _) (upd_same _ _ _) (tabI_length _ _ _) Chg.here rfl ?_)
 refine Ops_nil ?_
 refine thenA_n ?_
 refine wpA_seq ?_
 refine wpA_seq ?_
 refine wpA_region ?_
 refine Ops_quiet _ rfl rfl (QO.move rfl rfl) ?_
 refine Ops_nil ?_
 refine thenA_n ?_
 refine wpA_block ?_
 obtain ⟨R1, hR, hm⟩ := Option.bind_eq_some_iff.1 hm
 obtain ⟨k1, hk1⟩ := loopV_some hR
 clear hR
 refine wpA_mono (Q := fun e s' h' => match (generalizing := false) R1 with | .stop x id => e = .exit id ∧ ∃ (x1 : Int) (x2 : (Nat → Int)), (x1, x2) = x ∧ Sub s' [(1, .int .u8 a1), (2, .pointer (some ⟨b1, 0, none⟩)), (4, .pointer (some ⟨b2, 0, none⟩)), (5, .pointer (some ⟨b3, 0, none⟩)), (8, .int .i64 x1)] ∧ Le (upd (upd (upd (h) b1 (.own 28 (sqC a0) 101)) b2 (.own 34 (tabI .u8 pl0 10) 10)) b3 (.own 34 (tabI .u8 x2 10) 10)) h' | .ret r => False | .next _ => False) ?_ ?_
 ·refine wpA_loop (fun k s' h' => ∃ (x1 : Int) (x2 : (Nat → Int)), loopW (m_impl_Square_column_l0 a0 a1) k (x1, x2) = some R1 ∧ Sub s' [(1, .int .u8 a1), (2, .pointer (some ⟨b1, 0, none⟩)), (4, .pointer (some ⟨b2, 0, none⟩)), (5, .pointer (some ⟨b3, 0, none⟩)), (8, .int .i64 x1)] ∧ Le (upd (upd (upd (h) b1 (.own 28 (sqC a0) 101)) b2 (.own 34 (tabI .u8 pl0 10) 10)) b3 (.own 34 (tabI .u8 x2 10) 10)) h') (m := k1) ⟨0, pl0, hk1, (Sub.cons rfl (Sub.cons rfl (Sub.cons rfl (Sub.cons rfl (Sub.cons rfl Sub.nil))))), (Le.upd_left (Le.upd_left (Le.upd_left (Le.under (Le.under (Le.under (Le.refl _) hb1) hb2) hb3) ((upd_ne _ _ n_b3_b1.ne.symm).trans ((upd_ne _ _ n_b2_b1.ne.symm).trans (upd_same _ _ _))) (by first | rfl | (simp; done))) ((upd_ne _ _ n_b3_b2.ne.symm).trans (upd_same _ _ _)) (by first | rfl | (simp; done))) (upd_same _ _ _) (by first | rfl | (simp; done)))⟩ ?_
  rintro k1 s' h' ⟨x1, x2, hk1, hsub, hle⟩
  refine wpA_weaken hsub.ok hle ?_
  clear hsub hle s' h'
  cases k1 with
  | zero => exact absurd hk1 (by simp [loopW])
  | succ k1 =>
   obtain ⟨o1, ho1, hk1⟩ := loopW_succ hk1
   unfold m_impl_Square_column_l0 at ho1
   try dsimp only at ho1
   refine wpA_seq ?_
   refine wpA_region ?_
   refine Ops_quiet _ rfl rfl (QO.bin rfl rfl rfl rfl) ?_
   refine Ops_nil ?_
   refine thenA_n ?_
   refine wpA_seq ?_
   refine wpA_cond rfl (fun g1 => ?_) (fun g1 => ?_)
   ·replace ho1 := cond_t ho1 g1
    refine wpA_skip ?_
    refine thenA_n ?_
    refine wpA_seq ?_
    refine wpA_block ?_
    refine wpA_seq ?_
    refine wpA_region ?_
    refine Ops_quiet _ rfl rfl (QO.move rfl rfl) ?_
    refine Ops_quiet _ rfl rfl (QO.assign rfl rfl) ?_
    refine Ops_nil ?_
    refine thenA_n ?_
    refine wpA_region ?_
    refine Ops_quiet _ rfl rfl (QO.move rfl rfl) ?_
    refine Ops_quiet _ rfl rfl (QO.move rfl rfl) ?_
    refine Ops_quiet _ rfl rfl (QO.move rfl rfl) ?_
    refine Ops_quiet _ rfl rfl (QO.fieldAt (fo := 1) rfl sz28 rfl rfl sz26 rfl rfl) ?_
    have hq := chk ho1; clear ho1; obtain ⟨ck1, ho1⟩ := hq
    refine Ops_quiet _ rfl rfl (QO.idxArr rfl sz26 sz24 rfl rfl (by omega) (by omega)) ?_
    have hq := chk ho1; clear ho1; obtain ⟨ck2, ho1⟩ := hq
    refine Ops_quiet _ rfl rfl (QO.idxArr rfl sz24 sz5 rfl rfl (by omega) (by omega)) ?_
    refine Ops_quiet _ rfl rfl (QO.load rfl sz5 rfl rfl (by (refine (rd_own ((upd_ne _ _ n_b3_b1.ne.symm).trans ((upd_ne _ _ n_b2_b1.ne.symm).trans (upd_same _ _ _))) _).trans ?_); exact sqC_get (by omega) (by omega))) ?_
    have hq := chk ho1; clear ho1; obtain ⟨ck3, ho1⟩ := hq
    refine Ops_quiet _ rfl rfl (QO.idxArr rfl sz34 sz5 rfl rfl (by omega) (by omega)) ?_
    refine Ops_loud rfl (LO.store' (xs' := tabI .u8 (fset x2 (x1).toNat (a0.t (x1).toNat (a1).toNat)) 10) rfl sz5 rfl rfl rfl (upd_same _ _ _) (by first | ((try simp only [rowsC_length, rowsA_length, mpC_length, sqC_length, tbC_length, tabI_length, tabB_length, ints_length, plsC_length, trC_length, sqsC_length, strsC_length, boolsC_length, tbB_length, List.length_append, List.length_cons, List.length_nil, List.length_set, List.length_replicate, rep_length]); first | omega | decide) | exact Nat.le_of_ble_eq_true rfl) tabI_set01 Chg.here rfl ?_)
    refine Ops_nil ?_
    refine blockA_n ?_
    refine thenA_n ?_
    refine wpA_region ?_
    refine Ops_quiet _ rfl rfl (QO.bin rfl rfl rfl rfl) ?_
    refine Ops_quiet _ rfl rfl (QO.move rfl rfl) ?_
    refine Ops_nil ?_
    obtain rfl := Option.some.inj ho1
    dsimp only at hk1
    exact thenA_n ⟨k1, Nat.lt_succ_self _, _, _, hk1, (Sub.cons rfl (Sub.cons rfl (Sub.cons rfl (Sub.cons rfl (Sub.cons rfl Sub.nil))))), (Le.upd_left (Le.upd_left (Le.upd_left (Le.under (Le.under (Le.under (Le.refl _) hb1) hb2) hb3) ((upd_ne _ _ n_b3_b1.ne.symm).trans ((upd_ne _ _ n_b2_b1.ne.symm).trans (upd_same _ _ _))) (by first | rfl | (simp; done))) ((upd_ne _ _ n_b3_b2.ne.symm).trans (upd_same _ _ _)) (by first | rfl | (simp; done))) (upd_same _ _ _) (by first | rfl | (simp; done)))⟩
   ·replace ho1 := cond_f ho1 g1
    refine wpA_exit ?_
    refine thenA_e ?_
    refine thenA_e ?_
    obtain rfl := Option.some.inj ho1
    obtain rfl := Option.some.inj hk1
    exact ⟨rfl, _, _, rfl, (Sub.cons rfl (Sub.cons rfl (Sub.cons rfl (Sub.cons rfl (Sub.cons rfl Sub.nil))))), (Le.upd_left (Le.upd_left (Le.upd_left (Le.under (Le.under (Le.under (Le.refl _) hb1) hb2) hb3) ((upd_ne _ _ n_b3_b1.ne.symm).trans ((upd_ne _ _ n_b2_b1.ne.symm).trans (upd_same _ _ _))) (by first | rfl | (simp; done))) ((upd_ne _ _ n_b3_b2.ne.symm).trans (upd_same _ _ _)) (by first | rfl | (simp; done))) (upd_same _ _ _) (by first | rfl | (simp; done)))⟩
 ·intro e s' h' hq
  cases R1 with
  | next x => exact hq.elim
  | ret r => exact hq.elim
  | stop x id =>
   obtain ⟨rfl, x3, x4, rfl, hsub1, hle1⟩ := hq
   try dsimp only at hm
   by_cases hid1 : id = 0
   ·subst hid1
    rw [if_pos rfl] at hm
    refine blockA_s ?_
    refine thenA_n ?_
    refine wpA_weaken hsub1.ok hle1 ?_
    refine wpA_seq ?_
    refine wpA_region ?_
    refine Ops_quiet _ rfl rfl (QO.loadRow (cs := tabI .u8 x4 10) (hr := (rdAll (upd_same _ _ _))) rfl sz34 rfl rfl (tabI_length _ _ _)) ?_
    refine Ops_loud rfl (LO.storeAll (cs := tabI .u8 x4 10) rfl sz34 rfl rfl (tabI_one _ _ _) (tabI_length _ _ _) ((upd_ne _ _ n_b3_b2.ne.symm).trans (upd_same _ _ _)) (tabI_length _ _ _) (Chg.there n_b3_b2.ne Chg.here) rfl ?_)
    refine Ops_nil ?_
    refine thenA_n ?_
    refine wpA_ret ?_
    obtain rfl := Option.some.inj hm
    exact retA_r (h2 := h) (Res.one rfl (res1.row (cs := tabI .u8 x4 10) (hr := (rdAll ((upd_ne _ _ n_b3_b2.ne.symm).trans (upd_same _ _ _)))) sz34 rfl rfl (tabI_length _ _ _))) (Le.under (Le.under (Le.under (Le.refl _) hb1) hb2) hb3) ⟨rfl, rfl⟩
   rw [if_neg hid1] at hm
   exact absurd hm (by simp)

/-! loop.example/g01195/impl.ColumnMap -/
theorem c_impl_ColumnMap {a0 : Sq} {a1 : Int} {h : Hp} {r : (Nat → Int) × Int} (hm : m_impl_ColumnMap a0 a1 = some r)  :
    QC Try.prog 17 #[.agg (sqC a0).toArray, .int .u8 a1] h (.tuple #[.agg (tabI .u8 r.1 10).toArray, .int .i64 r.2]) := by
 unfold m_impl_ColumnMap at hm
 refine CC.enter Try.func17 rfl Try.ntmps17 rfl ?_
 refine wpA_seq ?_
 refine wpA_region ?_
 refine Ops_loud rfl (LO.boxAgg rfl rfl rfl (fun b1 hb1 => ?_))
 refine Ops_loud rfl (LO.alloc rfl zr34 rfl (fun b2 hb2 => ?_))
 simp only [upd_noneA] at hb2
 obtain ⟨n_b2_b1, hb2⟩ := hb2
 refine Ops_quiet _ rfl rfl (QO.assign rfl rfl) ?_
 refine Ops_nil ?_
 refine thenA_n ?_
 refine wpA_seq ?_
 refine wpA_seq ?_
 refine wpA_region ?_
 refine Ops_quiet _ rfl rfl (QO.loadRow (cs := sqC a0) (hr := (rdAll ((upd_ne _ _ n_b2_b1.ne.symm).trans (upd_same _ _ _)))) rfl sz28 rfl rfl (sqC_length _)) ?_
 refine Ops_quiet _ rfl rfl (QO.move rfl rfl) ?_
 refine Ops_loud rfl (LO.slice1 (r := ints .u8 [a1]) rfl sz22 sz5 zr5 (by first | rfl | (simp [rowsC_length, rowsA_length, mpC_length, sqC_length, tbC_length, tabI_length, tabB_length, ints_length, plsC_length, trC_length, sqsC_length, strsC_length, boolsC_length, tbB_length, List.length_append, List.length_cons, List.length_nil, List.length_set, List.length_replicate, rep_length]; done)) (by decide) (by decide) rfl rfl (by first | rfl | (simp [rowsC_length, rowsA_length, mpC_length, sqC_length, tbC_length, tabI_length, tabB_length, ints_length, plsC_length, trC_length, sqsC_length, strsC_length, boolsC_length, tbB_length, List.length_append, List.length_cons, List.length_nil, List.length_set, List.length_replicate, rep_length]; done)) rfl (fun b3 hb3 => ?_))
 simp only [upd_noneA] at hb3
 obtain ⟨n_b3_b2, n_b3_b1, hb3⟩ := hb3
 have hq := Option.bind_eq_some_iff.1 hm; clear hm; obtain ⟨r1, hr1, hm⟩ := hq
 refine Ops_call _ _ rfl rfl (EO.fn rfl Try.func31 rfl rfl (Evs.cons rfl (Evs.cons rfl Evs.nil))) (QC.cc (c_impl_checked (l1 := [a1]) (A1 := some ⟨b3, 0, none⟩) (c1 := 1) hr1 (RdS.own (upd_same _ _ _))) ?_)
 refine Ops_quiet _ rfl rfl (QO.assign rfl rfl) ?_
 refine Ops_nil ?_
 refine thenA_n ?_
 refine wpA_seq ?_
 refine wpA_region ?_
 refine Ops_quiet _ rfl rfl (QO.move rfl rfl) ?_
 refine Ops_quiet _ rfl rfl (QO.bin rfl rfl rfl rfl) ?_
 refine Ops_nil ?_
 refine thenA_n ?_
 refine wpA_cond rfl (fun g1 => ?_) (fun g1 => ?_)
 ·replace hm := cond_t hm g1
  refine wpA_seq ?_
  refine wpA_region ?_
  refine Ops_quiet _ rfl rfl (QO.build0 rfl bd34) ?_
  refine Ops_quiet _ rfl rfl (QO.move rfl rfl) ?_
  refine Ops_loud rfl (LO.storeAll (cs := tabI .u8 pl0 10) rfl sz34 rfl rfl (tabI_one _ _ _) (tabI_length _ _ _) ((upd_ne _ _ n_b3_b2.ne.symm).trans (upd_same _ _ _)) (tabI_length _ _ _) (Chg.there n_b3_b2.ne Chg.here) rfl ?_)
  refine Ops_quiet _ rfl rfl (QO.assign rfl rfl) ?_
  refine Ops_nil ?_
  refine thenA_n ?_
  refine wpA_ret ?_
  refine thenA_r ?_
  obtain rfl := Option.some.inj hm
  exact retA_r (h2 := h) (Res.two rfl (res1.row (cs := tabI .u8 pl0 10) (hr := (rdAll ((upd_ne _ _ n_b3_b2.ne.symm).trans (upd_same _ _ _)))) sz34 rfl rfl (tabI_length _ _ _)) (rfl)) (Le.under (Le.under (Le.under (Le.refl _) hb1) hb2) hb3) ⟨rfl, rfl⟩
 ·replace hm := cond_f hm g1
  refine wpA_skip ?_
  refine thenA_n ?_
  refine wpA_seq ?_
  refine wpA_region ?_
  refine Ops_quiet _ rfl rfl (QO.loadRow (cs := sqC a0) (hr := (rdAll ((upd_ne _ _ n_b3_b1.ne.symm).trans ((upd_ne _ _ n_b2_b1.ne.symm).trans (upd_same _ _ _))))) rfl sz28 rfl rfl (sqC_length _)) ?_
  refine Ops_quiet _ rfl rfl (QO.move rfl rfl) ?_
  have hq := Option.bind_eq_some_iff.1 hm; clear hm; obtain ⟨r2, hr2, hm⟩ := hq
  refine Ops_call _ _ rfl rfl (EO.fn rfl Try.func42 rfl rfl (Evs.cons rfl (Evs.cons rfl Evs.nil))) (QC.cc (c_impl_Square_column hr2 ) ?_)
  refine Ops_loud rfl (LO.storeAll (cs := tabI .u8 r2 10) rfl sz34 rfl rfl (tabI_one _ _ _) (tabI_length _ _ _) ((upd_ne _ _ n_b3_b2.ne.symm).trans (upd_same _ _ _)) (tabI_length _ _ _) (Chg.there n_b3_b2.ne Chg.here) rfl ?_)
  refine Ops_quiet _ rfl rfl (QO.assign rfl rfl) ?_
  refine Ops_nil ?_
  refine thenA_n ?_
  refine wpA_ret ?_
  obtain rfl := Option.some.inj hm
  exact retA_r (h2 := h) (Res.two rfl (res1.row (cs := tabI .u8 r2 10) (hr := (rdAll ((upd_ne _ _ n_b3_b2.ne.symm).trans (upd_same _ _ _)))) sz34 rfl rfl (tabI_length _ _ _)) (rfl)) (Le.under (Le.under (Le.under (Le.refl _) hb1) hb2) hb3) ⟨rfl, rfl⟩

/-! (loop.example/g01195/impl.Square).opposite$1 -/
theorem c_impl_Square_opposite_1 {a0 : Int} {a1 : Int} {v0 : Sq} {q0 : Nat} {h : Hp} {r : Int} (hm : m_impl_Square_opposite_1 a0 a1 v0 = some r) (hq0 : h q0 = some (.own 28 (sqC v0) 101)) :
    QC Try.prog 64 #[.int .u8 a0, .int .u8 a1, .pointer (some ⟨q0, 0, none⟩)] h (.int .u8 r) := by
 unfold m_impl_Square_opposite_1 at hm
 refine CC.enter Try.func64 rfl Try.ntmps64 rfl ?_
 refine wpA_seq ?_
 refine wpA_region ?_
 refine Ops_quiet _ rfl rfl (QO.assign rfl rfl) ?_
 refine Ops_nil ?_
 refine thenA_n ?_
 refine wpA_seq ?_
 refine wpA_region ?_
 refine Ops_quiet _ rfl rfl (QO.move rfl rfl) ?_
 refine Ops_quiet _ rfl rfl (QO.move rfl rfl) ?_
 refine Ops_quiet _ rfl rfl (QO.fieldAt (fo := 1) rfl sz28 rfl rfl sz26 rfl rfl) ?_
 have hq := chk hm; clear hm; obtain ⟨ck1, hm⟩ := hq
 refine Ops_quiet _ rfl rfl (QO.idxArr rfl sz26 sz24 rfl rfl (by omega) (by omega)) ?_
 have hq := chk hm; clear hm; obtain ⟨ck2, hm⟩ := hq
 refine Ops_quiet _ rfl rfl (QO.idxArr rfl sz24 sz5 rfl rfl (by omega) (by omega)) ?_
 refine Ops_quiet _ rfl rfl (QO.load rfl sz5 rfl rfl (by (refine (rd_own hq0 _).trans ?_); exact sqC_get (by omega) (by omega))) ?_
 refine Ops_quiet _ rfl rfl (QO.assign rfl rfl) ?_
 refine Ops_nil ?_
 refine thenA_n ?_
 refine wpA_ret ?_
 obtain rfl := Option.some.inj hm
 exact retA_r (h2 := h) (Res.one rfl (rfl)) (Le.refl _) ⟨rfl, rfl⟩

/-! loop.example/g01195/impl.made -/
theorem c_impl_made {a0 : Int} {ff1 : Int → Int → Option Int} {gg1 : FuncId} {kk1 : List Value} {h : Hp} {r : Sq} (hm : m_impl_made a0 ff1 = some r) (hgg1 : FnOk Try.prog gg1) (hff1 : ∀ x0 x1 r, ff1 x0 x1 = some r → QC Try.prog gg1 ([.int .u8 x0, .int .u8 x1] ++ kk1 : List Value).toArray h (.int .u8 r)) :
    QC Try.prog 45 #[.int .i64 a0, .func (.func gg1) #[] kk1.toArray] h (.agg (sqC r).toArray) := by
 unfold m_impl_made at hm
 refine CC.enter Try.func45 rfl Try.ntmps45 rfl ?_
 refine wpA_seq ?_
 refine wpA_region ?_
 refine Ops_loud rfl (LO.alloc rfl zr28 rfl (fun b1 hb1 => ?_))
 refine Ops_nil ?_
 refine thenA_n ?_
 refine wpA_seq ?_
 refine wpA_region ?_
 refine Ops_quiet _ rfl rfl (QO.move rfl rfl) ?_
 refine Ops_quiet _ rfl rfl (QO.build1 rfl rfl (bd28_0 a0)) ?_
 refine Ops_loud rfl (LO.alloc rfl zr28 rfl (fun b2 hb2 => ?_))
 simp only [upd_noneA] at hb2
 obtain ⟨n_b2_b1, hb2⟩ := hb2
 refine Ops_loud rfl (LO.storeAll (cs := sqC (⟨a0, tb0⟩ : Sq)) rfl sz28 rfl rfl (sqC_one _) (sqC_length _) (upd_same _ _ _) (sqC_length _) Chg.here rfl ?_)
 refine Ops_nil ?_
 refine thenA_n ?_
 refine wpA_seq ?_
 refine wpA_seq ?_
 refine wpA_region ?_
 refine Ops_quiet _ rfl rfl (QO.loadRow (cs := sqC (⟨a0, tb0⟩ : Sq)) (hr := (rdAll (upd_same _ _ _))) rfl sz28 rfl rfl (sqC_length _)) ?_
 have hq := Option.bind_eq_some_iff.1 hm; clear hm; obtain ⟨r1, hr1, hm⟩ := hq
 refine Ops_call _ _ rfl rfl (EO.fn rfl Try.func44 rfl rfl (Evs.cons rfl Evs.nil)) (CC.mono (c_impl_Square_elements hr1 ) ?_)
 rintro _ _ ⟨b3, cap_b3, rfl, hb3, hk_b3, hc_b3, rfl⟩
 simp only [upd_noneA] at hb3
 obtain ⟨n_b3_b2, n_b3_b1, hb3⟩ := hb3
 refine Ops_quiet _ rfl rfl (QO.lenSl rfl sz22 rfl) ?_
 refine Ops_quiet _ rfl rfl (QO.move rfl rfl) ?_
 refine Ops_nil ?_
 refine thenA_n ?_
 refine wpA_block ?_
 obtain ⟨R1, hR, hm⟩ := Option.bind_eq_some_iff.1 hm
 obtain ⟨k1, hk1⟩ := loopV_some hR
 clear hR
 refine wpA_mono (Q := fun e s' h' => match (generalizing := false) R1 with | .stop x id => e = .exit id ∧ ∃ (x1 : Int) (x2 : Sq), (x1, x2) = x ∧ Sub s' [(1, .func (.func gg1) #[] kk1.toArray), (4, .pointer (some ⟨b1, 0, none⟩)), (5, .pointer (some ⟨b2, 0, none⟩)), (13, .slice (some ⟨b3, 0, none⟩) r1.length cap_b3), (14, .int .i64 ((r1.length : Nat) : Int)), (15, .int .i64 x1)] ∧ Le (upd (upd (upd (h) b1 (.own 28 (sqC sq0) 101)) b2 (.own 28 (sqC x2) 101)) b3 (.own 5 (ints .u8 r1) (cap_b3 * 1))) h' | .ret r => False | .next _ => False) ?_ ?_
 ·refine wpA_loop (fun k s' h' => ∃ (x1 : Int) (x2 : Sq), loopW (m_impl_made_l0 ff1 r1) k (x1, x2) = some R1 ∧ Sub s' [(1, .func (.func gg1) #[] kk1.toArray), (4, .pointer (some ⟨b1, 0, none⟩)), (5, .pointer (some ⟨b2, 0, none⟩)), (13, .slice (some ⟨b3, 0, none⟩) r1.length cap_b3), (14, .int .i64 ((r1.length : Nat) : Int)), (15, .int .i64 x1)] ∧ Le (upd (upd (upd (h) b1 (.own 28 (sqC sq0) 101)) b2 (.own 28 (sqC x2) 101)) b3 (.own 5 (ints .u8 r1) (cap_b3 * 1))) h') (m := k1) ⟨0, (⟨a0, tb0⟩ : Sq), hk1, (Sub.cons rfl (Sub.cons rfl (Sub.cons rfl (Sub.cons rfl (Sub.cons rfl (Sub.cons rfl Sub.nil)))))), (Le.upd_left (Le.upd_left (Le.upd_left (Le.under (Le.under (Le.under (Le.refl _) hb1) hb2) hb3) ((upd_ne _ _ n_b3_b1.ne.symm).trans ((upd_ne _ _ n_b2_b1.ne.symm).trans (upd_same _ _ _))) (by first | rfl | (simp; done))) ((upd_ne _ _ n_b3_b2.ne.symm).trans (upd_same _ _ _)) (by first | rfl | (simp; done))) (upd_same _ _ _) (by first | rfl | (simp; done)))⟩ ?_
  rintro k1 s' h' ⟨x1, x2, hk1, hsub, hle⟩
  refine wpA_weaken hsub.ok hle ?_
  clear hsub hle s' h'
  cases k1 with
  | zero => exact absurd hk1 (by simp [loopW])
  | succ k1 =>
   obtain ⟨o1, ho1, hk1⟩ := loopW_succ hk1
   unfold m_impl_made_l0 at ho1
   try dsimp only at ho1
   refine wpA_seq ?_
   refine wpA_region ?_
   refine Ops_quiet _ rfl rfl (QO.bin rfl rfl rfl rfl) ?_
   refine Ops_nil ?_
   refine thenA_n ?_
   refine wpA_seq ?_
   refine wpA_cond rfl (fun g1 => ?_) (fun g1 => ?_)
   ·replace ho1 := cond_t ho1 g1
    refine wpA_skip ?_
    refine thenA_n ?_
    refine wpA_seq ?_
    refine wpA_block ?_
    refine wpA_seq ?_
    refine wpA_region ?_
    have hq := chk ho1; clear ho1; obtain ⟨ck1, ho1⟩ := hq
    refine Ops_quiet _ rfl rfl (QO.idxSl rfl sz22 sz5 rfl rfl (by omega) (by omega)) ?_
    refine Ops_quiet _ rfl rfl (QO.load rfl sz5 rfl rfl (by (refine (rd_own (upd_same _ _ _) _).trans ?_); exact ints_get01 (by first | omega | (simp only [List.length_cons, List.length_nil]; omega)))) ?_
    refine Ops_quiet _ rfl rfl (QO.assign rfl rfl) ?_
    refine Ops_nil ?_
    refine thenA_n ?_
    refine wpA_seq ?_
    refine wpA_region ?_
    refine Ops_quiet _ rfl rfl (QO.loadRow (cs := sqC x2) (hr := (rdAll ((upd_ne _ _ n_b3_b2.ne.symm).trans (upd_same _ _ _)))) rfl sz28 rfl rfl (sqC_length _)) ?_
    have hq := Option.bind_eq_some_iff.1 ho1; clear ho1; obtain ⟨r2, hr2, ho1⟩ := hq
    refine Ops_call _ _ rfl rfl (EO.fn rfl Try.func44 rfl rfl (Evs.cons rfl Evs.nil)) (CC.mono (c_impl_Square_elements hr2 ) ?_)
    rintro _ _ ⟨b4, cap_b4, rfl, hb4, hk_b4, hc_b4, rfl⟩
    simp only [upd_noneA] at hb4
    obtain ⟨n_b4_b3, n_b4_b2, n_b4_b1, hb4⟩ := hb4
    refine Ops_quiet _ rfl rfl (QO.lenSl rfl sz22 rfl) ?_
    refine Ops_quiet _ rfl rfl (QO.move rfl rfl) ?_
    refine Ops_nil ?_
    refine thenA_n ?_
    refine wpA_block ?_
    obtain ⟨R2, hR, ho1⟩ := Option.bind_eq_some_iff.1 ho1
    obtain ⟨k2, hk2⟩ := loopV_some hR
    clear hR
    refine wpA_mono (Q := fun e s' h' => match (generalizing := false) R2 with | .stop x id => e = .exit id ∧ ∃ (x3 : Int) (x4 : Sq), (x3, x4) = x ∧ Sub s' [(1, .func (.func gg1) #[] kk1.toArray), (4, .pointer (some ⟨b1, 0, none⟩)), (5, .pointer (some ⟨b2, 0, none⟩)), (7, .int .u8 (r1.getD (x1).toNat 0)), (13, .slice (some ⟨b3, 0, none⟩) r1.length cap_b3), (14, .int .i64 ((r1.length : Nat) : Int)), (15, .int .i64 x1), (20, .slice (some ⟨b4, 0, none⟩) r2.length cap_b4), (21, .int .i64 ((r2.length : Nat) : Int)), (22, .int .i64 x3)] ∧ Le (upd (upd (upd (upd (h) b1 (.own 28 (sqC sq0) 101)) b2 (.own 28 (sqC x4) 101)) b3 (.own 5 (ints .u8 r1) (cap_b3 * 1))) b4 (.own 5 (ints .u8 r2) (cap_b4 * 1))) h' | .ret r => False | .next _ => False) ?_ ?_
    ·refine wpA_loop (fun k s' h' => ∃ (x3 : Int) (x4 : Sq), loopW (m_impl_made_l1 ff1 r1 x1 r2) k (x3, x4) = some R2 ∧ Sub s' [(1, .func (.func gg1) #[] kk1.toArray), (4, .pointer (some ⟨b1, 0, none⟩)), (5, .pointer (some ⟨b2, 0, none⟩)), (7, .int .u8 (r1.getD (x1).toNat 0)), (13, .slice (some ⟨b3, 0, none⟩) r1.length cap_b3), (14, .int .i64 ((r1.length : Nat) : Int)), (15, .int .i64 x1), (20, .slice (some ⟨b4, 0, none⟩) r2.length cap_b4), (21, .int .i64 ((r2.length : Nat) : Int)), (22, .int .i64 x3)] ∧ Le (upd (upd (upd (upd (h) b1 (.own 28 (sqC sq0) 101)) b2 (.own 28 (sqC x4) 101)) b3 (.own 5 (ints .u8 r1) (cap_b3 * 1))) b4 (.own 5 (ints .u8 r2) (cap_b4 * 1))) h') (m := k2) ⟨0, x2, hk2, (Sub.cons rfl (Sub.cons rfl (Sub.cons rfl (Sub.cons rfl (Sub.cons rfl (Sub.cons rfl (Sub.cons rfl (Sub.cons rfl (Sub.cons rfl (Sub.cons rfl Sub.nil)))))))))), (Le.upd_left (Le.upd_left (Le.upd_left (Le.upd_left (Le.under (Le.under (Le.under (Le.under (Le.refl _) hb1) hb2) hb3) hb4) ((upd_ne _ _ n_b4_b1.ne.symm).trans ((upd_ne _ _ n_b3_b1.ne.symm).trans ((upd_ne _ _ n_b2_b1.ne.symm).trans (upd_same _ _ _)))) (by first | rfl | (simp; done))) ((upd_ne _ _ n_b4_b2.ne.symm).trans ((upd_ne _ _ n_b3_b2.ne.symm).trans (upd_same _ _ _))) (by first | rfl | (simp; done))) ((upd_ne _ _ n_b4_b3.ne.symm).trans (upd_same _ _ _)) (by first | rfl | (simp; done))) (upd_same _ _ _) (by first | rfl | (simp; done)))⟩ ?_
     rintro k2 s' h' ⟨x3, x4, hk2, hsub, hle⟩
     refine wpA_weaken hsub.ok hle ?_
     clear hsub hle s' h'
     cases k2 with
     | zero => exact absurd hk2 (by simp [loopW])
     | succ k2 =>
      obtain ⟨o2, ho2, hk2⟩ := loopW_succ hk2
      unfold m_impl_made_l1 at ho2
      try dsimp only at ho2
      refine wpA_seq ?_
      refine wpA_region ?_
      refine Ops_quiet _ rfl rfl (QO.bin rfl rfl rfl rfl) ?_
      refine Ops_nil ?_
      refine thenA_n ?_
      refine wpA_seq ?_
      refine wpA_cond rfl (fun g2 => ?_) (fun g2 => ?_)
      ·replace ho2 := cond_t ho2 g2
       refine wpA_skip ?_
       refine thenA_n ?_
       refine wpA_seq ?_
       refine wpA_block ?_
       refine wpA_seq ?_
       refine wpA_region ?_
       have hq := chk ho2; clear ho2; obtain ⟨ck2, ho2⟩ := hq
       refine Ops_quiet _ rfl rfl (QO.idxSl rfl sz22 sz5 rfl rfl (by omega) (by omega)) ?_
       refine Ops_quiet _ rfl rfl (QO.load rfl sz5 rfl rfl (by (refine (rd_own (upd_same _ _ _) _).trans ?_); exact ints_get01 (by first | omega | (simp only [List.length_cons, List.length_nil]; omega)))) ?_
       refine Ops_quiet _ rfl rfl (QO.assign rfl rfl) ?_
       refine Ops_nil ?_
       refine thenA_n ?_
       refine wpA_any (upd (upd (upd (upd (h) b1 (.own 28 (sqC sq0) 101)) b2 (.own 28 (sqC x4) 101)) b3 (.own 5 (ints .u8 r1) (cap_b3 * 1))) b4 (.own 5 (ints .u8 r2) (cap_b4 * 1))) [9] [9] (by kernel_rfl) (by kernel_rfl) (DW.start ?_)
       refine DW.pure' 0 _ rfl (by kernel_rfl) rfl (fun _ => QO.move rfl rfl) ?_
       refine DW.pure' 1 _ rfl (by kernel_rfl) rfl (fun _ => QO.move rfl rfl) ?_
       refine DW.pure' 2 _ rfl (by kernel_rfl) rfl (fun _ => QO.move rfl rfl) ?_
       refine DW.pure' 3 _ rfl (by kernel_rfl) rfl (fun _ => QO.move rfl rfl) ?_
       refine DW.pure' 4 _ rfl (by kernel_rfl) rfl (fun _ => QO.move rfl rfl) ?_
       have hq := Option.bind_eq_some_iff.1 ho2; clear ho2; obtain ⟨r3, hr3, ho2⟩ := hq
       refine DW.qcall' 5 _ _ _ rfl (by kernel_rfl) rfl (EO.par rfl rfl hgg1 (Evs.cons rfl (Evs.cons rfl Evs.nil))) (QC.frame (Le.under (Le.under (Le.under (Le.under (Le.refl _) hb1) hb2) hb3) hb4) (hff1 _ _ _  hr3)) ?_
       refine DW.pure' 6 _ rfl (by kernel_rfl) rfl (fun _ => QO.fieldAt (fo := 1) rfl sz28 rfl rfl sz26 rfl rfl) ?_
       have hq := chk ho2; clear ho2; obtain ⟨ck3, ho2⟩ := hq
       refine DW.pure' 7 _ rfl (by kernel_rfl) rfl (fun _ => QO.idxArr rfl sz26 sz24 rfl rfl (by omega) (by omega)) ?_
       have hq := chk ho2; clear ho2; obtain ⟨ck4, ho2⟩ := hq
       refine DW.pure' 8 _ rfl (by kernel_rfl) rfl (fun _ => QO.idxArr rfl sz24 sz5 rfl rfl (by omega) (by omega)) ?_
       refine DW.loud 9 rfl (by kernel_rfl) rfl rfl (LO.store' (xs' := sqC (⟨x4.order, (tset x4.t ((r1.getD (x1).toNat 0)).toNat ((r2.getD (x3).toNat 0)).toNat r3)⟩ : Sq)) rfl sz5 rfl rfl rfl ((upd_ne _ _ n_b4_b2.ne.symm).trans ((upd_ne _ _ n_b3_b2.ne.symm).trans (upd_same _ _ _))) (by first | ((try simp only [rowsC_length, rowsA_length, mpC_length, sqC_length, tbC_length, tabI_length, tabB_length, ints_length, plsC_length, trC_length, sqsC_length, strsC_length, boolsC_length, tbB_length, List.length_append, List.length_cons, List.length_nil, List.length_set, List.length_replicate, rep_length]); first | omega | decide) | exact Nat.le_of_ble_eq_true rfl) (sqC_set (by omega) (by omega)) (Chg.there n_b4_b2.ne (Chg.there n_b3_b2.ne Chg.here)) rfl ?_)
       refine ⟨(fun e => absurd e (by decide)), ?_⟩
       refine DW.done (by kernel_rfl) ?_ _
       refine blockA_n ?_
       refine thenA_n ?_
       refine wpA_region ?_
       refine Ops_quiet _ rfl rfl (QO.bin rfl rfl rfl rfl) ?_
       refine Ops_quiet _ rfl rfl (QO.move rfl rfl) ?_
       refine Ops_nil ?_
       obtain rfl := Option.some.inj ho2
       dsimp only at hk2
       exact thenA_n ⟨k2, Nat.lt_succ_self _, _, _, hk2, (Sub.cons rfl (Sub.cons rfl (Sub.cons rfl (Sub.cons rfl (Sub.cons rfl (Sub.cons rfl (Sub.cons rfl (Sub.cons rfl (Sub.cons rfl (Sub.cons rfl Sub.nil)))))))))), (Le.upd_left (Le.upd_left (Le.upd_left (Le.upd_left (Le.under (Le.under (Le.under (Le.under (Le.refl _) hb1) hb2) hb3) hb4) ((upd_ne _ _ n_b4_b1.ne.symm).trans ((upd_ne _ _ n_b3_b1.ne.symm).trans ((upd_ne _ _ n_b2_b1.ne.symm).trans (upd_same _ _ _)))) (by first | rfl | (simp; done))) ((upd_ne _ _ n_b4_b2.ne.symm).trans ((upd_ne _ _ n_b3_b2.ne.symm).trans (upd_same _ _ _))) (by first | rfl | (simp; done))) ((upd_ne _ _ n_b4_b3.ne.symm).trans (upd_same _ _ _)) (by first | rfl | (simp; done))) (upd_same _ _ _) (by first | rfl | (simp; done)))⟩
      ·replace ho2 := cond_f ho2 g2
       refine wpA_exit ?_
       refine thenA_e ?_
       refine thenA_e ?_
       obtain rfl := Option.some.inj ho2
       obtain rfl := Option.some.inj hk2
       exact ⟨rfl, _, _, rfl, (Sub.cons rfl (Sub.cons rfl (Sub.cons rfl (Sub.cons rfl (Sub.cons rfl (Sub.cons rfl (Sub.cons rfl (Sub.cons rfl (Sub.cons rfl (Sub.cons rfl Sub.nil)))))))))), (Le.upd_left (Le.upd_left (Le.upd_left (Le.upd_left (Le.under (Le.under (Le.under (Le.under (Le.refl _) hb1) hb2) hb3) hb4) ((upd_ne _ _ n_b4_b1.ne.symm).trans ((upd_ne _ _ n_b3_b1.ne.symm).trans ((upd_ne _ _ n_b2_b1.ne.symm).trans (upd_same _ _ _)))) (by first | rfl | (simp; done))) ((upd_ne _ _ n_b4_b2.ne.symm).trans ((upd_ne _ _ n_b3_b2.ne.symm).trans (upd_same _ _ _))) (by first | rfl | (simp; done))) ((upd_ne _ _ n_b4_b3.ne.symm).trans (upd_same _ _ _)) (by first | rfl | (simp; done))) (upd_same _ _ _) (by first | rfl | (simp; done)))⟩
    ·intro e s' h' hq
     cases R2 with
     | next x => exact hq.elim
     | ret r => exact hq.elim
     | stop x id =>
      obtain ⟨rfl, x5, x6, rfl, hsub1, hle1⟩ := hq
      try dsimp only at ho1
      by_cases hid1 : id = 2
      ·subst hid1
       rw [if_pos rfl] at ho1
       refine blockA_s ?_
       refine blockA_n ?_
       refine thenA_n ?_
       refine wpA_weaken hsub1.ok hle1 ?_
       refine wpA_region ?_
       refine Ops_quiet _ rfl rfl (QO.bin rfl rfl rfl rfl) ?_
       refine Ops_quiet _ rfl rfl (QO.move rfl rfl) ?_
       refine Ops_nil ?_
       obtain rfl := Option.some.inj ho1
       dsimp only at hk1
       exact thenA_n ⟨k1, Nat.lt_succ_self _, _, _, hk1, (Sub.cons rfl (Sub.cons rfl (Sub.cons rfl (Sub.cons rfl (Sub.cons rfl (Sub.cons rfl Sub.nil)))))), (Le.upd_left (Le.upd_left (Le.upd_left (Le.under (Le.under (Le.under (Le.under (Le.refl _) hb1) hb2) hb3) hb4) ((upd_ne _ _ n_b4_b1.ne.symm).trans ((upd_ne _ _ n_b3_b1.ne.symm).trans ((upd_ne _ _ n_b2_b1.ne.symm).trans (upd_same _ _ _)))) (by first | rfl | (simp; done))) ((upd_ne _ _ n_b4_b2.ne.symm).trans ((upd_ne _ _ n_b3_b2.ne.symm).trans (upd_same _ _ _))) (by first | rfl | (simp; done))) ((upd_ne _ _ n_b4_b3.ne.symm).trans (upd_same _ _ _)) (by first | rfl | (simp; done)))⟩
      rw [if_neg hid1] at ho1
      exact absurd ho1 (by simp)
   ·replace ho1 := cond_f ho1 g1
    refine wpA_exit ?_
    refine thenA_e ?_
    refine thenA_e ?_
    obtain rfl := Option.some.inj ho1
    obtain rfl := Option.some.inj hk1
    exact ⟨rfl, _, _, rfl, (Sub.cons rfl (Sub.cons rfl (Sub.cons rfl (Sub.cons rfl (Sub.cons rfl (Sub.cons rfl Sub.nil)))))), (Le.upd_left (Le.upd_left (Le.upd_left (Le.under (Le.under (Le.under (Le.refl _) hb1) hb2) hb3) ((upd_ne _ _ n_b3_b1.ne.symm).trans ((upd_ne _ _ n_b2_b1.ne.symm).trans (upd_same _ _ _))) (by first | rfl | (simp; done))) ((upd_ne _ _ n_b3_b2.ne.symm).trans (upd_same _ _ _)) (by first | rfl | (simp; done))) (upd_same _ _ _) (by first | rfl | (simp; done)))⟩
 ·intro e s' h' hq
  cases R1 with
  | next x => exact hq.elim
  | ret r => exact hq.elim
  | stop x id =>
   obtain ⟨rfl, x7, x8, rfl, hsub2, hle2⟩ := hq
   try dsimp only at hm
   by_cases hid2 : id = 0
   ·subst hid2
    rw [if_pos rfl] at hm
    refine blockA_s ?_
    refine thenA_n ?_
    refine wpA_weaken hsub2.ok hle2 ?_
    refine wpA_seq ?_
    refine wpA_region ?_
    refine Ops_quiet _ rfl rfl (QO.loadRow (cs := sqC x8) (hr := (rdAll ((upd_ne _ _ n_b3_b2.ne.symm).trans (upd_same _ _ _)))) rfl sz28 rfl rfl (sqC_length _)) ?_
    refine Ops_loud rfl (LO.storeAll (cs := sqC x8) rfl sz28 rfl rfl (sqC_one _) (sqC_length _) ((upd_ne _ _ n_b3_b1.ne.symm).trans ((upd_ne _ _ n_b2_b1.ne.symm).trans (upd_same _ _ _))) (sqC_length _) (Chg.there n_b3_b1.ne (Chg.there n_b2_b1.ne Chg.here)) rfl ?_)
    refine Ops_nil ?_
    refine thenA_n ?_
    refine wpA_ret ?_
    obtain rfl := Option.some.inj hm
    exact retA_r (h2 := h) (Res.one rfl (res1.row (cs := sqC x8) (hr := (rdAll ((upd_ne _ _ n_b3_b1.ne.symm).trans ((upd_ne _ _ n_b2_b1.ne.symm).trans (upd_same _ _ _))))) sz28 rfl rfl (sqC_length _))) (Le.under (Le.under (Le.under (Le.refl _) hb1) hb2) hb3) ⟨rfl, rfl⟩
   rw [if_neg hid2] at hm
   exact absurd hm (by simp)

/-! (loop.example/g01195/impl.Square).opposite -/
theorem c_impl_Square_opposite {a0 : Sq} {h : Hp} {r : Sq} (hm : m_impl_Square_opposite a0 = some r)  :
    QC Try.prog 43 #[.agg (sqC a0).toArray] h (.agg (sqC r).toArray) := by
 unfold m_impl_Square_opposite at hm
 refine CC.enter Try.func43 rfl Try.ntmps43 rfl ?_
 refine wpA_seq ?_
 refine wpA_region ?_
 refine Ops_loud rfl (LO.boxAgg rfl rfl rfl (fun b1 hb1 => ?_))
 refine Ops_loud rfl (LO.alloc rfl zr28 rfl (fun b2 hb2 => ?_))
 simp only [upd_noneA] at hb2
 obtain ⟨n_b2_b1, hb2⟩ := hb2
 refine Ops_nil ?_
 refine thenA_n ?_
 refine wpA_seq ?_
 refine wpA_region ?_
 refine Ops_quiet _ rfl rfl (QO.fieldAt (fo := 0) rfl sz28 rfl rfl sz2 rfl rfl) ?_
 refine Ops_quiet _ rfl rfl (QO.load rfl sz2 rfl rfl (by (refine (rd_own ((upd_ne _ _ n_b2_b1.ne.symm).trans (upd_same _ _ _)) _).trans ?_); exact rfl)) ?_
 refine Ops_quiet _ rfl rfl (QO.makeClo rfl (Evs.cons rfl Evs.nil)) ?_
 have hq := Option.bind_eq_some_iff.1 hm; clear hm; obtain ⟨r1, hr1, hm⟩ := hq
 refine Ops_call _ _ rfl rfl (EO.fn rfl Try.func45 rfl rfl (Evs.cons rfl (Evs.cons rfl Evs.nil))) (QC.cc (c_impl_made hr1 ⟨_, _, Try.func64, rfl, rfl⟩ (fun _ _ _  hm => c_impl_Square_opposite_1 hm ((upd_ne _ _ n_b2_b1.ne.symm).trans (upd_same _ _ _)))) ?_)
 refine Ops_loud rfl (LO.storeAll (cs := sqC r1) rfl sz28 rfl rfl (sqC_one _) (sqC_length _) (upd_same _ _ _) (sqC_length _) Chg.here rfl ?_)
 refine Ops_nil ?_
 refine thenA_n ?_
 refine wpA_ret ?_
 obtain rfl := Option.some.inj hm
 exact retA_r (h2 := h) (Res.one rfl (res1.row (cs := sqC r1) (hr := (rdAll (upd_same _ _ _))) sz28 rfl rfl (sqC_length _))) (Le.under (Le.under (Le.refl _) hb1) hb2) ⟨rfl, rfl⟩

/-! loop.example/g01195/impl.OppositeOf -/
theorem c_impl_OppositeOf {a0 : Sq} {h : Hp} {r : Sq × Int} (hm : m_impl_OppositeOf a0 = some r)  :
    QC Try.prog 18 #[.agg (sqC a0).toArray] h (.tuple #[.agg (sqC r.1).toArray, .int .i64 r.2]) := by
 unfold m_impl_OppositeOf at hm
 refine CC.enter Try.func18 rfl Try.ntmps18 rfl ?_
 refine wpA_seq ?_
 refine wpA_region ?_
 refine Ops_loud rfl (LO.boxAgg rfl rfl rfl (fun b1 hb1 => ?_))
 refine Ops_loud rfl (LO.alloc rfl zr28 rfl (fun b2 hb2 => ?_))
 simp only [upd_noneA] at hb2
 obtain ⟨n_b2_b1, hb2⟩ := hb2
 refine Ops_quiet _ rfl rfl (QO.assign rfl rfl) ?_
 refine Ops_nil ?_
 refine thenA_n ?_
 refine wpA_seq ?_
 refine wpA_seq ?_
 refine wpA_region ?_
 refine Ops_quiet _ rfl rfl (QO.loadRow (cs := sqC a0) (hr := (rdAll ((upd_ne _ _ n_b2_b1.ne.symm).trans (upd_same _ _ _)))) rfl sz28 rfl rfl (sqC_length _)) ?_
 have hq := Option.bind_eq_some_iff.1 hm; clear hm; obtain ⟨r1, hr1, hm⟩ := hq
 refine Ops_call _ _ rfl rfl (EO.fn rfl Try.func8 rfl rfl (Evs.cons rfl Evs.nil)) (QC.cc (c_impl_IsSquare hr1 ) ?_)
 refine Ops_quiet _ rfl rfl (QO.not rfl rfl) ?_
 refine Ops_nil ?_
 refine thenA_n ?_
 refine wpA_cond rfl (fun g1 => ?_) (fun g1 => ?_)
 ·replace hm := cond_t hm g1
  refine wpA_seq ?_
  refine wpA_region ?_
  refine Ops_quiet _ rfl rfl (QO.build0 rfl bd28) ?_
  refine Ops_loud rfl (LO.storeAll (cs := sqC sq0) rfl sz28 rfl rfl (sqC_one _) (sqC_length _) (upd_same _ _ _) (sqC_length _) Chg.here rfl ?_)
  refine Ops_quiet _ rfl rfl (QO.assign rfl rfl) ?_
  refine Ops_nil ?_
  refine thenA_n ?_
  refine wpA_ret ?_
  refine thenA_r ?_
  obtain rfl := Option.some.inj hm
  exact retA_r (h2 := h) (Res.two rfl (res1.row (cs := sqC sq0) (hr := (rdAll (upd_same _ _ _))) sz28 rfl rfl (sqC_length _)) (rfl)) (Le.under (Le.under (Le.refl _) hb1) hb2) ⟨rfl, rfl⟩
 ·replace hm := cond_f hm g1
  refine wpA_skip ?_
  refine thenA_n ?_
  refine wpA_seq ?_
  refine wpA_region ?_
  refine Ops_quiet _ rfl rfl (QO.loadRow (cs := sqC a0) (hr := (rdAll ((upd_ne _ _ n_b2_b1.ne.symm).trans (upd_same _ _ _)))) rfl sz28 rfl rfl (sqC_length _)) ?_
  have hq := Option.bind_eq_some_iff.1 hm; clear hm; obtain ⟨r2, hr2, hm⟩ := hq
  refine Ops_call _ _ rfl rfl (EO.fn rfl Try.func43 rfl rfl (Evs.cons rfl Evs.nil)) (QC.cc (c_impl_Square_opposite hr2 ) ?_)
  refine Ops_loud rfl (LO.storeAll (cs := sqC r2) rfl sz28 rfl rfl (sqC_one _) (sqC_length _) (upd_same _ _ _) (sqC_length _) Chg.here rfl ?_)
  refine Ops_quiet _ rfl rfl (QO.assign rfl rfl) ?_
  refine Ops_nil ?_
  refine thenA_n ?_
  refine wpA_ret ?_
  obtain rfl := Option.some.inj hm
  exact retA_r (h2 := h) (Res.two rfl (res1.row (cs := sqC r2) (hr := (rdAll (upd_same _ _ _))) sz28 rfl rfl (sqC_length _)) (rfl)) (Le.under (Le.under (Le.refl _) hb1) hb2) ⟨rfl, rfl⟩

/-! loop.example/g01195/impl.ListsOfSquare -/
theorem c_impl_ListsOfSquare {a0 : Sq} {h : Hp} {r : (List (List Int)) × Int} (hm : m_impl_ListsOfSquare a0 = some r)  :
    CC Try.prog 19 #[.agg (sqC a0).toArray] (h) (fun v h' => ∃ (g0 : List (Option Nat × Nat)) (b0 : Option Nat) (cap0 : Nat), FrF (h) g0 ∧ OkF g0 r.1 ∧ FrO (famH (h) 2 1 (ints .i64) g0 r.1) b0 ∧ OkO b0 r.1.length cap0 ∧ v = .tuple #[.slice (adO b0) r.1.length cap0, .int .i64 r.2] ∧ h' = updO (famH (h) 2 1 (ints .i64) g0 r.1) b0 (.own 57 (rowsC g0 r.1) (cap0 * 1))) := by
 unfold m_impl_ListsOfSquare at hm
 refine CC.enter Try.func19 rfl Try.ntmps19 rfl ?_
 refine wpA_seq ?_
 refine wpA_region ?_
 refine Ops_loud rfl (LO.boxAgg rfl rfl rfl (fun b1 hb1 => ?_))
 refine Ops_quiet _ rfl rfl (QO.assign rfl rfl) ?_
 refine Ops_quiet _ rfl rfl (QO.assign rfl rfl) ?_
 refine Ops_nil ?_
 refine thenA_n ?_
 refine wpA_seq ?_
 refine wpA_seq ?_
 refine wpA_region ?_
 refine Ops_quiet _ rfl rfl (QO.loadRow (cs := sqC a0) (hr := (rdAll (upd_same _ _ _))) rfl sz28 rfl rfl (sqC_length _)) ?_
 have hq := Option.bind_eq_some_iff.1 hm; clear hm; obtain ⟨r1, hr1, hm⟩ := hq
 refine Ops_call _ _ rfl rfl (EO.fn rfl Try.func8 rfl rfl (Evs.cons rfl Evs.nil)) (QC.cc (c_impl_IsSquare hr1 ) ?_)
 refine Ops_quiet _ rfl rfl (QO.not rfl rfl) ?_
 refine Ops_nil ?_
 refine thenA_n ?_
 refine wpA_cond rfl (fun g1 => ?_) (fun g1 => ?_)
 ·replace hm := cond_t hm g1
  refine wpA_seq ?_
  refine wpA_region ?_
  refine Ops_quiet _ rfl rfl (QO.assign rfl rfl) ?_
  refine Ops_quiet _ rfl rfl (QO.assign rfl rfl) ?_
  refine Ops_nil ?_
  refine thenA_n ?_
  refine wpA_ret ?_
  refine thenA_r ?_
  obtain rfl := Option.some.inj hm
  exact retA_r (h2 := h) (Res.two rfl (rfl) (rfl)) (Le.under (Le.refl _) hb1) ⟨[], none, 0, FrF.nil, OkF.nil, frO_none, OkO.none, rfl, rfl⟩
 ·replace hm := cond_f hm g1
  refine wpA_skip ?_
  refine thenA_n ?_
  refine wpA_seq ?_
  refine wpA_region ?_
  refine Ops_loud rfl (LO.sliceNil rfl sz39 sz57 rfl (fun b2 hb2 => ?_))
  simp only [upd_noneA] at hb2
  obtain ⟨n_b2_b1, hb2⟩ := hb2
  refine Ops_quiet _ rfl rfl (QO.assign rfl rfl) ?_
  refine Ops_nil ?_
  refine thenA_n ?_
  refine wpA_seq ?_
  refine wpA_seq ?_
  refine wpA_region ?_
  refine Ops_quiet _ rfl rfl (QO.loadRow (cs := sqC a0) (hr := (rdAll ((upd_ne _ _ n_b2_b1.ne.symm).trans (upd_same _ _ _)))) rfl sz28 rfl rfl (sqC_length _)) ?_
  have hq := Option.bind_eq_some_iff.1 hm; clear hm; obtain ⟨r2, hr2, hm⟩ := hq
  refine Ops_call _ _ rfl rfl (EO.fn rfl Try.func44 rfl rfl (Evs.cons rfl Evs.nil)) (CC.mono (c_impl_Square_elements hr2 ) ?_)
  rintro _ _ ⟨b3, cap_b3, rfl, hb3, hk_b3, hc_b3, rfl⟩
  simp only [upd_noneA] at hb3
  obtain ⟨n_b3_b2, n_b3_b1, hb3⟩ := hb3
  refine Ops_quiet _ rfl rfl (QO.lenSl rfl sz22 rfl) ?_
  refine Ops_quiet _ rfl rfl (QO.move rfl rfl) ?_
  refine Ops_nil ?_
  refine thenA_n ?_
  refine wpA_block ?_
  obtain ⟨R1, hR, hm⟩ := Option.bind_eq_some_iff.1 hm
  obtain ⟨k1, hk1⟩ := loopV_some hR
  clear hR
  refine wpA_mono (Q := fun e s' h' => match (generalizing := false) R1 with | .stop x id => e = .exit id ∧ ∃ (x1 : (List (List Int))) (x2 : Int) (g_f1 : List (Option Nat × Nat)) (b4 cap_b4 : Nat), (x1, x2) = x ∧ FrF (upd (upd (h) b1 (.own 28 (sqC a0) 101)) b3 (.own 5 (ints .u8 r2) (cap_b3 * 1))) g_f1 ∧ OkF g_f1 x1 ∧ (famH (upd (upd (h) b1 (.own 28 (sqC a0) 101)) b3 (.own 5 (ints .u8 r2) (cap_b3 * 1))) 2 1 (ints .i64) g_f1 x1) b4 = none ∧ x1.length ≤ cap_b4 ∧ cap_b4 ≤ maxLen ∧ Sub s' [(1, .pointer (some ⟨b1, 0, none⟩)), (4, .slice (some ⟨b4, 0, none⟩) x1.length cap_b4), (15, .slice (some ⟨b3, 0, none⟩) r2.length cap_b3), (16, .int .i64 ((r2.length : Nat) : Int)), (17, .int .i64 x2)] ∧ Le (upd (famH (upd (upd (h) b1 (.own 28 (sqC a0) 101)) b3 (.own 5 (ints .u8 r2) (cap_b3 * 1))) 2 1 (ints .i64) g_f1 x1) b4 (.own 57 (rowsC g_f1 x1) (cap_b4 * 1))) h' | .ret r => False | .next _ => False) ?_ ?_
  ·refine wpA_loop (fun k s' h' => ∃ (x1 : (List (List Int))) (x2 : Int) (g_f1 : List (Option Nat × Nat)) (b4 cap_b4 : Nat), loopW (m_impl_ListsOfSquare_l0 a0 r2) k (x1, x2) = some R1 ∧ FrF (upd (upd (h) b1 (.own 28 (sqC a0) 101)) b3 (.own 5 (ints .u8 r2) (cap_b3 * 1))) g_f1 ∧ OkF g_f1 x1 ∧ (famH (upd (upd (h) b1 (.own 28 (sqC a0) 101)) b3 (.own 5 (ints .u8 r2) (cap_b3 * 1))) 2 1 (ints .i64) g_f1 x1) b4 = none ∧ x1.length ≤ cap_b4 ∧ cap_b4 ≤ maxLen ∧ Sub s' [(1, .pointer (some ⟨b1, 0, none⟩)), (4, .slice (some ⟨b4, 0, none⟩) x1.length cap_b4), (15, .slice (some ⟨b3, 0, none⟩) r2.length cap_b3), (16, .int .i64 ((r2.length : Nat) : Int)), (17, .int .i64 x2)] ∧ Le (upd (famH (upd (upd (h) b1 (.own 28 (sqC a0) 101)) b3 (.own 5 (ints .u8 r2) (cap_b3 * 1))) 2 1 (ints .i64) g_f1 x1) b4 (.own 57 (rowsC g_f1 x1) (cap_b4 * 1))) h') (m := k1) ⟨[], 0, [], b2, 0, hk1, FrF.nil, OkF.nil, (none_famH NeF.nil (none_upd n_b3_b2.ne.symm (none_upd n_b2_b1.ne hb2))), (by first | assumption | (simp; done) | omega), (by first | assumption | (simp only [maxLen]; omega)), (Sub.cons rfl (Sub.cons rfl (Sub.cons rfl (Sub.cons rfl (Sub.cons rfl Sub.nil))))), (Le.upd_left (Le.upd_left (Le.upd_left (Le.under (Le.under (Le.under (Le.refl _) hb1) hb2) hb3) ((upd_ne _ _ n_b3_b1.ne.symm).trans ((upd_ne _ _ n_b2_b1.ne.symm).trans (upd_same _ _ _))) (by first | rfl | (simp; done))) (upd_same _ _ _) (by first | rfl | (simp; done))) ((upd_ne _ _ n_b3_b2.ne.symm).trans (upd_same _ _ _)) (by first | rfl | (simp; done)))⟩ ?_
   rintro k1 s' h' ⟨x1, x2, g_f1, b4, cap_b4, hk1, hf1, okf_f1, hb4, hk_b4, hc_b4, hsub, hle⟩
   refine wpA_weaken hsub.ok hle ?_
   clear hsub hle s' h'
   simp only [frF_updA, frF_updOA] at hf1
   obtain ⟨n_f1_b3, n_f1_b1, hf1⟩ := hf1
   simp only [upd_noneA, updO_noneA, famH_noneA] at hb4
   obtain ⟨n_b4_f1, n_b4_b3, n_b4_b1, hb4⟩ := hb4
   cases k1 with
   | zero => exact absurd hk1 (by simp [loopW])
   | succ k1 =>
    obtain ⟨o1, ho1, hk1⟩ := loopW_succ hk1
    unfold m_impl_ListsOfSquare_l0 at ho1
    try dsimp only at ho1
    refine wpA_seq ?_
    refine wpA_region ?_
    refine Ops_quiet _ rfl rfl (QO.bin rfl rfl rfl rfl) ?_
    refine Ops_nil ?_
    refine thenA_n ?_
    refine wpA_seq ?_
    refine wpA_cond rfl (fun g2 => ?_) (fun g2 => ?_)
    ·replace ho1 := cond_t ho1 g2
     refine wpA_skip ?_
     refine thenA_n ?_
     refine wpA_seq ?_
     refine wpA_block ?_
     refine wpA_seq ?_
     refine wpA_region ?_
     have hq := chk ho1; clear ho1; obtain ⟨ck1, ho1⟩ := hq
     refine Ops_quiet _ rfl rfl (QO.idxSl rfl sz22 sz5 rfl rfl (by omega) (by omega)) ?_
     refine Ops_quiet _ rfl rfl (QO.load rfl sz5 rfl rfl (by (refine (rd_own ((upd_ne _ _ n_b4_b3.ne.symm).trans ((famH_ne n_f1_b3).trans (upd_same _ _ _))) _).trans ?_); exact ints_get01 (by first | omega | (simp only [List.length_cons, List.length_nil]; omega)))) ?_
     refine Ops_quiet _ rfl rfl (QO.assign rfl rfl) ?_
     refine Ops_nil ?_
     refine thenA_n ?_
     refine wpA_seq ?_
     refine wpA_region ?_
     refine Ops_loud rfl (LO.sliceNil rfl sz57 sz2 rfl (fun b5 hb5 => ?_))
     simp only [upd_noneA, updO_noneA, famH_noneA] at hb5
     obtain ⟨n_b5_b4, n_b5_f1, n_b5_b3, n_b5_b1, hb5⟩ := hb5
     refine Ops_quiet _ rfl rfl (QO.assign rfl rfl) ?_
     refine Ops_nil ?_
     refine thenA_n ?_
     refine wpA_seq ?_
     refine wpA_seq ?_
     refine wpA_region ?_
     refine Ops_quiet _ rfl rfl (QO.loadRow (cs := sqC a0) (hr := (rdAll ((upd_ne _ _ n_b5_b1.ne.symm).trans ((upd_ne _ _ n_b4_b1.ne.symm).trans ((famH_ne n_f1_b1).trans ((upd_ne _ _ n_b3_b1.ne.symm).trans (upd_same _ _ _))))))) rfl sz28 rfl rfl (sqC_length _)) ?_
     have hq := Option.bind_eq_some_iff.1 ho1; clear ho1; obtain ⟨r3, hr3, ho1⟩ := hq
     refine Ops_call _ _ rfl rfl (EO.fn rfl Try.func44 rfl rfl (Evs.cons rfl Evs.nil)) (CC.mono (c_impl_Square_elements hr3 ) ?_)
     rintro _ _ ⟨b6, cap_b6, rfl, hb6, hk_b6, hc_b6, rfl⟩
     simp only [upd_noneA, updO_noneA, famH_noneA] at hb6
     obtain ⟨n_b6_b5, n_b6_b4, n_b6_f1, n_b6_b3, n_b6_b1, hb6⟩ := hb6
     refine Ops_quiet _ rfl rfl (QO.lenSl rfl sz22 rfl) ?_
     refine Ops_quiet _ rfl rfl (QO.move rfl rfl) ?_
     refine Ops_nil ?_
     refine thenA_n ?_
     refine wpA_block ?_
     obtain ⟨R2, hR, ho1⟩ := Option.bind_eq_some_iff.1 ho1
     obtain ⟨k2, hk2⟩ := loopV_some hR
     clear hR
     refine wpA_mono (Q := fun e s' h' => match (generalizing := false) R2 with | .stop x id => e = .exit id ∧ ∃ (x3 : (List Int)) (x4 : Int) (b7 cap_b7 : Nat), (x3, x4) = x ∧ (upd (upd (famH (upd (upd (h) b1 (.own 28 (sqC a0) 101)) b3 (.own 5 (ints .u8 r2) (cap_b3 * 1))) 2 1 (ints .i64) g_f1 x1) b4 (.own 57 (rowsC g_f1 x1) (cap_b4 * 1))) b6 (.own 5 (ints .u8 r3) (cap_b6 * 1))) b7 = none ∧ x3.length ≤ cap_b7 ∧ cap_b7 ≤ maxLen ∧ Sub s' [(1, .pointer (some ⟨b1, 0, none⟩)), (4, .slice (some ⟨b4, 0, none⟩) x1.length cap_b4), (6, .int .u8 (r2.getD (x2).toNat 0)), (7, .slice (some ⟨b7, 0, none⟩) x3.length cap_b7), (15, .slice (some ⟨b3, 0, none⟩) r2.length cap_b3), (16, .int .i64 ((r2.length : Nat) : Int)), (17, .int .i64 x2), (23, .slice (some ⟨b6, 0, none⟩) r3.length cap_b6), (24, .int .i64 ((r3.length : Nat) : Int)), (25, .int .i64 x4)] ∧ Le (upd (upd (upd (famH (upd (upd (h) b1 (.own 28 (sqC a0) 101)) b3 (.own 5 (ints .u8 r2) (cap_b3 * 1))) 2 1 (ints .i64) g_f1 x1) b4 (.own 57 (rowsC g_f1 x1) (cap_b4 * 1))) b6 (.own 5 (ints .u8 r3) (cap_b6 * 1))) b7 (.own 2 (ints .i64 x3) (cap_b7 * 1))) h' | .ret r => False | .next _ => False) ?_ ?_
     ·refine wpA_loop (fun k s' h' => ∃ (x3 : (List Int)) (x4 : Int) (b7 cap_b7 : Nat), loopW (m_impl_ListsOfSquare_l1 a0 r2 x2 r3) k (x3, x4) = some R2 ∧ (upd (upd (famH (upd (upd (h) b1 (.own 28 (sqC a0) 101)) b3 (.own 5 (ints .u8 r2) (cap_b3 * 1))) 2 1 (ints .i64) g_f1 x1) b4 (.own 57 (rowsC g_f1 x1) (cap_b4 * 1))) b6 (.own 5 (ints .u8 r3) (cap_b6 * 1))) b7 = none ∧ x3.length ≤ cap_b7 ∧ cap_b7 ≤ maxLen ∧ Sub s' [(1, .pointer (some ⟨b1, 0, none⟩)), (4, .slice (some ⟨b4, 0, none⟩) x1.length cap_b4), (6, .int .u8 (r2.getD (x2).toNat 0)), (7, .slice (some ⟨b7, 0, none⟩) x3.length cap_b7), (15, .slice (some ⟨b3, 0, none⟩) r2.length cap_b3), (16, .int .i64 ((r2.length : Nat) : Int)), (17, .int .i64 x2), (23, .slice (some ⟨b6, 0, none⟩) r3.length cap_b6), (24, .int .i64 ((r3.length : Nat) : Int)), (25, .int .i64 x4)] ∧ Le (upd (upd (upd (famH (upd (upd (h) b1 (.own 28 (sqC a0) 101)) b3 (.own 5 (ints .u8 r2) (cap_b3 * 1))) 2 1 (ints .i64) g_f1 x1) b4 (.own 57 (rowsC g_f1 x1) (cap_b4 * 1))) b6 (.own 5 (ints .u8 r3) (cap_b6 * 1))) b7 (.own 2 (ints .i64 x3) (cap_b7 * 1))) h') (m := k2) ⟨[], 0, b5, 0, hk2, (none_upd n_b6_b5.ne.symm (none_upd n_b5_b4.ne (none_famH n_b5_f1 (none_upd n_b5_b3.ne (none_upd n_b5_b1.ne hb5))))), (by first | assumption | (simp; done) | omega), (by first | assumption | (simp only [maxLen]; omega)), (Sub.cons rfl (Sub.cons rfl (Sub.cons rfl (Sub.cons rfl (Sub.cons rfl (Sub.cons rfl (Sub.cons rfl (Sub.cons rfl (Sub.cons rfl (Sub.cons rfl Sub.nil)))))))))), (Le.upd_left (Le.upd_left (Le.upd_left (Le.famH_left (Le.upd_left (Le.upd_left (Le.under (Le.under (Le.under (Le.underF (Le.under (Le.under (Le.refl _) hb1) hb3) hf1) hb4) hb5) hb6) ((upd_ne _ _ n_b6_b1.ne.symm).trans ((upd_ne _ _ n_b5_b1.ne.symm).trans ((upd_ne _ _ n_b4_b1.ne.symm).trans ((famH_ne n_f1_b1).trans ((upd_ne _ _ n_b3_b1.ne.symm).trans (upd_same _ _ _)))))) (by first | rfl | (simp; done))) ((upd_ne _ _ n_b6_b3.ne.symm).trans ((upd_ne _ _ n_b5_b3.ne.symm).trans ((upd_ne _ _ n_b4_b3.ne.symm).trans ((famH_ne n_f1_b3).trans (upd_same _ _ _))))) (by first | rfl | (simp; done))) okf_f1 (fun i hi => (LkO.there (NeF.neO n_b6_f1 i) (LkO.there (NeF.neO n_b5_f1 i) (LkO.there (NeF.neO n_b4_f1 i) (famH_row okf_f1 hi)))))) ((upd_ne _ _ n_b6_b4.ne.symm).trans ((upd_ne _ _ n_b5_b4.ne.symm).trans (upd_same _ _ _))) (by first | rfl | (simp; done))) (upd_same _ _ _) (by first | rfl | (simp; done))) ((upd_ne _ _ n_b6_b5.ne.symm).trans (upd_same _ _ _)) (by first | rfl | (simp; done)))⟩ ?_
      rintro k2 s' h' ⟨x3, x4, b7, cap_b7, hk2, hb7, hk_b7, hc_b7, hsub, hle⟩
      refine wpA_weaken hsub.ok hle ?_
      clear hsub hle s' h'
      simp only [upd_noneA, updO_noneA, famH_noneA] at hb7
      obtain ⟨n_b7_b6, n_b7_b4, n_b7_f1, n_b7_b3, n_b7_b1, hb7⟩ := hb7
      cases k2 with
      | zero => exact absurd hk2 (by simp [loopW])
      | succ k2 =>
       obtain ⟨o2, ho2, hk2⟩ := loopW_succ hk2
       unfold m_impl_ListsOfSquare_l1 at ho2
       try dsimp only at ho2
       refine wpA_seq ?_
       refine wpA_region ?_
       refine Ops_quiet _ rfl rfl (QO.bin rfl rfl rfl rfl) ?_
       refine Ops_nil ?_
       refine thenA_n ?_
       refine wpA_seq ?_
       refine wpA_cond rfl (fun g3 => ?_) (fun g3 => ?_)
       ·replace ho2 := cond_t ho2 g3
        refine wpA_skip ?_
        refine thenA_n ?_
        refine wpA_seq ?_
        refine wpA_block ?_
        refine wpA_seq ?_
        refine wpA_region ?_
        have hq := chk ho2; clear ho2; obtain ⟨ck2, ho2⟩ := hq
        refine Ops_quiet _ rfl rfl (QO.idxSl rfl sz22 sz5 rfl rfl (by omega) (by omega)) ?_
        refine Ops_quiet _ rfl rfl (QO.load rfl sz5 rfl rfl (by (refine (rd_own ((upd_ne _ _ n_b7_b6.ne.symm).trans (upd_same _ _ _)) _).trans ?_); exact ints_get01 (by first | omega | (simp only [List.length_cons, List.length_nil]; omega)))) ?_
        refine Ops_quiet _ rfl rfl (QO.assign rfl rfl) ?_
        refine Ops_nil ?_
        refine thenA_n ?_
        refine wpA_region ?_
        refine Ops_quiet _ rfl rfl (QO.move rfl rfl) ?_
        refine Ops_quiet _ rfl rfl (QO.move rfl rfl) ?_
        refine Ops_quiet _ rfl rfl (QO.move rfl rfl) ?_
        refine Ops_quiet _ rfl rfl (QO.fieldAt (fo := 1) rfl sz28 rfl rfl sz26 rfl rfl) ?_
        have hq := chk ho2; clear ho2; obtain ⟨ck3, ho2⟩ := hq
        refine Ops_quiet _ rfl rfl (QO.idxArr rfl sz26 sz24 rfl rfl (by omega) (by omega)) ?_
        have hq := chk ho2; clear ho2; obtain ⟨ck4, ho2⟩ := hq
        refine Ops_quiet _ rfl rfl (QO.idxArr rfl sz24 sz5 rfl rfl (by omega) (by omega)) ?_
        refine Ops_quiet _ rfl rfl (QO.load rfl sz5 rfl rfl (by (refine (rd_own ((upd_ne _ _ n_b7_b1.ne.symm).trans ((upd_ne _ _ n_b6_b1.ne.symm).trans ((upd_ne _ _ n_b4_b1.ne.symm).trans ((famH_ne n_f1_b1).trans ((upd_ne _ _ n_b3_b1.ne.symm).trans (upd_same _ _ _)))))) _).trans ?_); exact sqC_get (by omega) (by omega))) ?_
        refine Ops_quiet _ rfl rfl (QO.conv rfl sz5 sz2 rfl) ?_
        refine Ops_loud rfl (LO.slice1 (r := ints .i64 [(IntKind.i64.wrap ((a0.t ((r2.getD (x2).toNat 0)).toNat) ((r3.getD (x4).toNat 0)).toNat))]) rfl sz57 sz2 zr2 (by first | rfl | (simp [rowsC_length, rowsA_length, mpC_length, sqC_length, tbC_length, tabI_length, tabB_length, ints_length, plsC_length, trC_length, sqsC_length, strsC_length, boolsC_length, tbB_length, List.length_append, List.length_cons, List.length_nil, List.length_set, List.length_replicate, rep_length]; done)) (by decide) (by decide) rfl rfl (by first | rfl | (simp [rowsC_length, rowsA_length, mpC_length, sqC_length, tbC_length, tabI_length, tabB_length, ints_length, plsC_length, trC_length, sqsC_length, strsC_length, boolsC_length, tbB_length, List.length_append, List.length_cons, List.length_nil, List.length_set, List.length_replicate, rep_length]; done)) rfl (fun b8 hb8 => ?_))
        simp only [upd_noneA, updO_noneA, famH_noneA] at hb8
        obtain ⟨n_b8_b7, n_b8_b6, n_b8_b4, n_b8_f1, n_b8_b3, n_b8_b1, hb8⟩ := hb8
        have hq := chk ho2; clear ho2; obtain ⟨ck5, ho2⟩ := hq
        refine Ops_loud rfl (LO.append2 (ys := ints .i64 [(IntKind.i64.wrap ((a0.t ((r2.getD (x2).toNat 0)).toNat) ((r3.getD (x4).toNat 0)).toNat))]) (k' := (x3 ++ [(IntKind.i64.wrap ((a0.t ((r2.getD (x2).toNat 0)).toNat) ((r3.getD (x4).toNat 0)).toNat))]).length) (xs' := ints .i64 (x3 ++ [(IntKind.i64.wrap ((a0.t ((r2.getD (x2).toNat 0)).toNat) ((r3.getD (x4).toNat 0)).toNat))])) rfl sz57 el2 rfl rfl (Del.drop n_b8_b7.ne (none_upd n_b8_b6.ne (none_upd n_b8_b4.ne (none_famH n_b8_f1 (none_upd n_b8_b3.ne (none_upd n_b8_b1.ne hb8))))) (Del.here (none_upd n_b7_b6.ne (none_upd n_b7_b4.ne (none_famH n_b7_f1 (none_upd n_b7_b3.ne (none_upd n_b7_b1.ne hb7))))))) (by first | assumption | omega) (by first | assumption | (simp only [maxLen]; omega)) (by first | rfl | (simp [rowsC_length, rowsA_length, mpC_length, sqC_length, tbC_length, tabI_length, tabB_length, ints_length, plsC_length, trC_length, sqsC_length, strsC_length, boolsC_length, tbB_length, List.length_append, List.length_cons, List.length_nil, List.length_set, List.length_replicate, rep_length]; done) | (simp [rowsC_length, rowsA_length, mpC_length, sqC_length, tbC_length, tabI_length, tabB_length, ints_length, plsC_length, trC_length, sqsC_length, strsC_length, boolsC_length, tbB_length, List.length_append, List.length_cons, List.length_nil, List.length_set, List.length_replicate, rep_length]; omega)) (by first | rfl | (simp [rowsC_length, rowsA_length, mpC_length, sqC_length, tbC_length, tabI_length, tabB_length, ints_length, plsC_length, trC_length, sqsC_length, strsC_length, boolsC_length, tbB_length, List.length_append, List.length_cons, List.length_nil, List.length_set, List.length_replicate, rep_length]; done) | (simp [rowsC_length, rowsA_length, mpC_length, sqC_length, tbC_length, tabI_length, tabB_length, ints_length, plsC_length, trC_length, sqsC_length, strsC_length, boolsC_length, tbB_length, List.length_append, List.length_cons, List.length_nil, List.length_set, List.length_replicate, rep_length]; omega)) (RdS.own (upd_same _ _ _)) (by first | assumption | exact tabI_one _ _ _ | exact tbC_one _ | exact sqC_one _ | exact tabB_one _ _ | exact ints_one _ _ | exact plsC_one _ | exact strsC_one _ | exact srcC_one _ _ _ _ | (intro v hv; simp at hv; subst hv; rfl)) (by decide) (by omega) (by decide) (by decide) rfl (by first | rfl | (simp [rowsC_length, rowsA_length, mpC_length, sqC_length, tbC_length, tabI_length, tabB_length, ints_length, plsC_length, trC_length, sqsC_length, strsC_length, boolsC_length, tbB_length, List.length_append, List.length_cons, List.length_nil, List.length_set, List.length_replicate, rep_length]; done) | (simp [rowsC_length, rowsA_length, mpC_length, sqC_length, tbC_length, tabI_length, tabB_length, ints_length, plsC_length, trC_length, sqsC_length, strsC_length, boolsC_length, tbB_length, List.length_append, List.length_cons, List.length_nil, List.length_set, List.length_replicate, rep_length]; omega)) (by first | rfl | (simp [ints, plsC, sqsC, boolsC, strsC]; done)) (fun b9 cap_b9 hb9 hk_b9 hc_b9 => ?_))
        simp only [upd_noneA, updO_noneA, famH_noneA] at hb9
        obtain ⟨n_b9_b6, n_b9_b4, n_b9_f1, n_b9_b3, n_b9_b1, hb9⟩ := hb9
        refine Ops_quiet _ rfl rfl (QO.assign rfl rfl) ?_
        refine Ops_nil ?_
        refine blockA_n ?_
        refine thenA_n ?_
        refine wpA_region ?_
        refine Ops_quiet _ rfl rfl (QO.bin rfl rfl rfl rfl) ?_
        refine Ops_quiet _ rfl rfl (QO.move rfl rfl) ?_
        refine Ops_nil ?_
        obtain rfl := Option.some.inj ho2
        dsimp only at hk2
        exact thenA_n ⟨k2, Nat.lt_succ_self _, _, _, b9, cap_b9, hk2, (none_upd n_b9_b6.ne (none_upd n_b9_b4.ne (none_famH n_b9_f1 (none_upd n_b9_b3.ne (none_upd n_b9_b1.ne hb9))))), (by first | assumption | (simp; done) | omega), (by first | assumption | (simp only [maxLen]; omega)), (Sub.cons rfl (Sub.cons rfl (Sub.cons rfl (Sub.cons rfl (Sub.cons rfl (Sub.cons rfl (Sub.cons rfl (Sub.cons rfl (Sub.cons rfl (Sub.cons rfl Sub.nil)))))))))), (Le.upd_left (Le.upd_left (Le.upd_left (Le.famH_left (Le.upd_left (Le.upd_left (Le.under (Le.under (Le.under (Le.underF (Le.under (Le.under (Le.refl _) hb1) hb3) hf1) hb4) hb6) hb9) ((upd_ne _ _ n_b9_b1.ne.symm).trans ((upd_ne _ _ n_b6_b1.ne.symm).trans ((upd_ne _ _ n_b4_b1.ne.symm).trans ((famH_ne n_f1_b1).trans ((upd_ne _ _ n_b3_b1.ne.symm).trans (upd_same _ _ _)))))) (by first | rfl | (simp; done))) ((upd_ne _ _ n_b9_b3.ne.symm).trans ((upd_ne _ _ n_b6_b3.ne.symm).trans ((upd_ne _ _ n_b4_b3.ne.symm).trans ((famH_ne n_f1_b3).trans (upd_same _ _ _))))) (by first | rfl | (simp; done))) okf_f1 (fun i hi => (LkO.there (NeF.neO n_b9_f1 i) (LkO.there (NeF.neO n_b6_f1 i) (LkO.there (NeF.neO n_b4_f1 i) (famH_row okf_f1 hi)))))) ((upd_ne _ _ n_b9_b4.ne.symm).trans ((upd_ne _ _ n_b6_b4.ne.symm).trans (upd_same _ _ _))) (by first | rfl | (simp; done))) ((upd_ne _ _ n_b9_b6.ne.symm).trans (upd_same _ _ _)) (by first | rfl | (simp; done))) (upd_same _ _ _) (by first | rfl | (simp; done)))⟩
       ·replace ho2 := cond_f ho2 g3
        refine wpA_exit ?_
        refine thenA_e ?_
        refine thenA_e ?_
        obtain rfl := Option.some.inj ho2
        obtain rfl := Option.some.inj hk2
        exact ⟨rfl, _, _, b7, cap_b7, rfl, (none_upd n_b7_b6.ne (none_upd n_b7_b4.ne (none_famH n_b7_f1 (none_upd n_b7_b3.ne (none_upd n_b7_b1.ne hb7))))), (by first | assumption | (simp; done) | omega), (by first | assumption | (simp only [maxLen]; omega)), (Sub.cons rfl (Sub.cons rfl (Sub.cons rfl (Sub.cons rfl (Sub.cons rfl (Sub.cons rfl (Sub.cons rfl (Sub.cons rfl (Sub.cons rfl (Sub.cons rfl Sub.nil)))))))))), (Le.upd_left (Le.upd_left (Le.upd_left (Le.famH_left (Le.upd_left (Le.upd_left (Le.under (Le.under (Le.under (Le.underF (Le.under (Le.under (Le.refl _) hb1) hb3) hf1) hb4) hb6) hb7) ((upd_ne _ _ n_b7_b1.ne.symm).trans ((upd_ne _ _ n_b6_b1.ne.symm).trans ((upd_ne _ _ n_b4_b1.ne.symm).trans ((famH_ne n_f1_b1).trans ((upd_ne _ _ n_b3_b1.ne.symm).trans (upd_same _ _ _)))))) (by first | rfl | (simp; done))) ((upd_ne _ _ n_b7_b3.ne.symm).trans ((upd_ne _ _ n_b6_b3.ne.symm).trans ((upd_ne _ _ n_b4_b3.ne.symm).trans ((famH_ne n_f1_b3).trans (upd_same _ _ _))))) (by first | rfl | (simp; done))) okf_f1 (fun i hi => (LkO.there (NeF.neO n_b7_f1 i) (LkO.there (NeF.neO n_b6_f1 i) (LkO.there (NeF.neO n_b4_f1 i) (famH_row okf_f1 hi)))))) ((upd_ne _ _ n_b7_b4.ne.symm).trans ((upd_ne _ _ n_b6_b4.ne.symm).trans (upd_same _ _ _))) (by first | rfl | (simp; done))) ((upd_ne _ _ n_b7_b6.ne.symm).trans (upd_same _ _ _)) (by first | rfl | (simp; done))) (upd_same _ _ _) (by first | rfl | (simp; done)))⟩
     ·intro e s' h' hq
      cases R2 with
      | next x => exact hq.elim
      | ret r => exact hq.elim
      | stop x id =>
       obtain ⟨rfl, x5, x6, b10, cap_b10, rfl, hb10, hk_b10, hc_b10, hsub1, hle1⟩ := hq
       try dsimp only at ho1
       simp only [upd_noneA, updO_noneA, famH_noneA] at hb10
       obtain ⟨n_b10_b6, n_b10_b4, n_b10_f1, n_b10_b3, n_b10_b1, hb10⟩ := hb10
       by_cases hid1 : id = 2
       ·subst hid1
        rw [if_pos rfl] at ho1
        refine blockA_s ?_
        refine thenA_n ?_
        refine wpA_weaken hsub1.ok hle1 ?_
        refine wpA_region ?_
        refine Ops_quiet _ rfl rfl (QO.move rfl rfl) ?_
        refine Ops_quiet _ rfl rfl (QO.move rfl rfl) ?_
        refine Ops_loud rfl (LO.slice1 (r := [.slice (some ⟨b10, 0, none⟩) x5.length cap_b10]) rfl sz39 sz57 zr57 rfl (by decide) (by decide) rfl rfl rfl rfl (fun b11 hb11 => ?_))
        simp only [upd_noneA, updO_noneA, famH_noneA] at hb11
        obtain ⟨n_b11_b10, n_b11_b6, n_b11_b4, n_b11_f1, n_b11_b3, n_b11_b1, hb11⟩ := hb11
        have hq := chk ho1; clear ho1; obtain ⟨ck6, ho1⟩ := hq
        refine Ops_loud rfl (LO.append2 (ys := [.slice (some ⟨b10, 0, none⟩) x5.length cap_b10]) (k' := (x1 ++ [x5]).length) (xs' := rowsC (g_f1 ++ [((some b10), cap_b10)]) (x1 ++ [x5])) rfl sz39 el57 rfl rfl (Del.drop n_b11_b4.ne (none_upd n_b11_b10.ne (none_upd n_b11_b6.ne (none_famH n_b11_f1 (none_upd n_b11_b3.ne (none_upd n_b11_b1.ne hb11))))) (Del.there n_b10_b4.ne.symm (Del.there n_b6_b4.ne.symm (Del.here (none_famH n_b4_f1 (none_upd n_b4_b3.ne (none_upd n_b4_b1.ne hb4))))))) (by first | assumption | omega | decide | (simp only [List.length_set, List.length_replicate]; first | done | assumption | omega)) (by first | assumption | (simp only [maxLen]; omega)) (by first | rfl | (simp [rowsC_length, rowsA_length, mpC_length, sqC_length, tbC_length, tabI_length, tabB_length, ints_length, plsC_length, trC_length, sqsC_length, strsC_length, boolsC_length, tbB_length, List.length_append, List.length_cons, List.length_nil, List.length_set, List.length_replicate, rep_length]; done) | (simp [rowsC_length, rowsA_length, mpC_length, sqC_length, tbC_length, tabI_length, tabB_length, ints_length, plsC_length, trC_length, sqsC_length, strsC_length, boolsC_length, tbB_length, List.length_append, List.length_cons, List.length_nil, List.length_set, List.length_replicate, rep_length]; omega)) (by first | rfl | (simp [rowsC_length, rowsA_length, mpC_length, sqC_length, tbC_length, tabI_length, tabB_length, ints_length, plsC_length, trC_length, sqsC_length, strsC_length, boolsC_length, tbB_length, List.length_append, List.length_cons, List.length_nil, List.length_set, List.length_replicate, rep_length]; done) | (simp [rowsC_length, rowsA_length, mpC_length, sqC_length, tbC_length, tabI_length, tabB_length, ints_length, plsC_length, trC_length, sqsC_length, strsC_length, boolsC_length, tbB_length, List.length_append, List.length_cons, List.length_nil, List.length_set, List.length_replicate, rep_length]; omega)) (RdS.own (upd_same _ _ _)) (by intro v hv; simp at hv; subst hv; rfl) (by decide) (by omega) (by decide) (by decide) rfl (by first | rfl | (simp [rowsC_length, rowsA_length, mpC_length, sqC_length, tbC_length, tabI_length, tabB_length, ints_length, plsC_length, trC_length, sqsC_length, strsC_length, boolsC_length, tbB_length, List.length_append, List.length_cons, List.length_nil, List.length_set, List.length_replicate, rep_length]; done) | (simp [rowsC_length, rowsA_length, mpC_length, sqC_length, tbC_length, tabI_length, tabB_length, ints_length, plsC_length, trC_length, sqsC_length, strsC_length, boolsC_length, tbB_length, List.length_append, List.length_cons, List.length_nil, List.length_set, List.length_replicate, rep_length]; omega)) (rowsC_snoc (B := (some b10)) (l' := x5) (c' := cap_b10) (okf_f1).len) (fun b12 cap_b12 hb12 hk_b12 hc_b12 => ?_))
        simp only [upd_noneA, updO_noneA, famH_noneA] at hb12
        obtain ⟨n_b12_b10, n_b12_b6, n_b12_f1, n_b12_b3, n_b12_b1, hb12⟩ := hb12
        refine Ops_quiet _ rfl rfl (QO.assign rfl rfl) ?_
        refine Ops_nil ?_
        refine blockA_n ?_
        refine thenA_n ?_
        refine wpA_region ?_
        refine Ops_quiet _ rfl rfl (QO.bin rfl rfl rfl rfl) ?_
        refine Ops_quiet _ rfl rfl (QO.move rfl rfl) ?_
        refine Ops_nil ?_
        obtain rfl := Option.some.inj ho1
        dsimp only at hk1
        exact thenA_n ⟨k1, Nat.lt_succ_self _, _, _, (g_f1 ++ [((some b10), cap_b10)]), b12, cap_b12, hk1, (FrF.snoc (frF_upd n_f1_b3 (frF_upd n_f1_b1 hf1)) (frO_some (none_upd n_b10_b3.ne (none_upd n_b10_b1.ne hb10)))), (OkF.snoc okf_f1 (NeF.of n_b10_f1) (OkO.some (by first | assumption | omega | decide | (simp only [List.length_set, List.length_replicate]; first | done | assumption | omega)) (by first | assumption | (simp only [maxLen]; omega)))), (none_famH (NeF.snoc n_b12_f1 (NeO.of ⟨n_b12_b10.ne⟩)) (none_upd n_b12_b3.ne (none_upd n_b12_b1.ne hb12))), (by first | assumption | (simp; done) | omega), (by first | assumption | (simp only [maxLen]; omega)), (Sub.cons rfl (Sub.cons rfl (Sub.cons rfl (Sub.cons rfl (Sub.cons rfl Sub.nil))))), (Le.upd_left (Le.snocRow okf_f1 (Le.famH_left (Le.upd_left (Le.upd_left (Le.under (Le.under (Le.under (Le.underF (Le.under (Le.under (Le.refl _) hb1) hb3) hf1) hb6) hb10) hb12) ((upd_ne _ _ n_b12_b1.ne.symm).trans ((upd_ne _ _ n_b10_b1.ne.symm).trans ((upd_ne _ _ n_b6_b1.ne.symm).trans ((famH_ne n_f1_b1).trans ((upd_ne _ _ n_b3_b1.ne.symm).trans (upd_same _ _ _)))))) (by first | rfl | (simp; done))) ((upd_ne _ _ n_b12_b3.ne.symm).trans ((upd_ne _ _ n_b10_b3.ne.symm).trans ((upd_ne _ _ n_b6_b3.ne.symm).trans ((famH_ne n_f1_b3).trans (upd_same _ _ _))))) (by first | rfl | (simp; done))) okf_f1 (fun i hi => (LkO.there (NeF.neO n_b12_f1 i) (LkO.there (NeF.neO n_b10_f1 i) (LkO.there (NeF.neO n_b6_f1 i) (famH_row okf_f1 hi)))))) (LkO.of ((upd_ne _ _ n_b12_b10.ne.symm).trans (upd_same _ _ _)))) (upd_same _ _ _) (by first | rfl | (simp; done)))⟩
       rw [if_neg hid1] at ho1
       exact absurd ho1 (by simp)
    ·replace ho1 := cond_f ho1 g2
     refine wpA_exit ?_
     refine thenA_e ?_
     refine thenA_e ?_
     obtain rfl := Option.some.inj ho1
     obtain rfl := Option.some.inj hk1
     exact ⟨rfl, _, _, g_f1, b4, cap_b4, rfl, (frF_upd n_f1_b3 (frF_upd n_f1_b1 hf1)), okf_f1, (none_famH n_b4_f1 (none_upd n_b4_b3.ne (none_upd n_b4_b1.ne hb4))), (by first | assumption | (simp; done) | omega), (by first | assumption | (simp only [maxLen]; omega)), (Sub.cons rfl (Sub.cons rfl (Sub.cons rfl (Sub.cons rfl (Sub.cons rfl Sub.nil))))), (Le.upd_left (Le.famH_left (Le.upd_left (Le.upd_left (Le.under (Le.underF (Le.under (Le.under (Le.refl _) hb1) hb3) hf1) hb4) ((upd_ne _ _ n_b4_b1.ne.symm).trans ((famH_ne n_f1_b1).trans ((upd_ne _ _ n_b3_b1.ne.symm).trans (upd_same _ _ _)))) (by first | rfl | (simp; done))) ((upd_ne _ _ n_b4_b3.ne.symm).trans ((famH_ne n_f1_b3).trans (upd_same _ _ _))) (by first | rfl | (simp; done))) okf_f1 (fun i hi => (LkO.there (NeF.neO n_b4_f1 i) (famH_row okf_f1 hi)))) (upd_same _ _ _) (by first | rfl | (simp; done)))⟩
  ·intro e s' h' hq
   cases R1 with
   | next x => exact hq.elim
   | ret r => exact hq.elim
   | stop x id =>
    obtain ⟨rfl, x7, x8, g_f2, b13, cap_b13, rfl, hf2, okf_f2, hb13, hk_b13, hc_b13, hsub2, hle2⟩ := hq
    try dsimp only at hm
    simp only [frF_updA, frF_updOA] at hf2
    obtain ⟨n_f2_b3, n_f2_b1, hf2⟩ := hf2
    simp only [upd_noneA, updO_noneA, famH_noneA] at hb13
    obtain ⟨n_b13_f2, n_b13_b3, n_b13_b1, hb13⟩ := hb13
    by_cases hid2 : id = 0
    ·subst hid2
     rw [if_pos rfl] at hm
     refine blockA_s ?_
     refine thenA_n ?_
     refine wpA_weaken hsub2.ok hle2 ?_
     refine wpA_seq ?_
     refine wpA_region ?_
     refine Ops_quiet _ rfl rfl (QO.move rfl rfl) ?_
     refine Ops_quiet _ rfl rfl (QO.assign rfl rfl) ?_
     refine Ops_quiet _ rfl rfl (QO.assign rfl rfl) ?_
     refine Ops_nil ?_
     refine thenA_n ?_
     refine wpA_ret ?_
     obtain rfl := Option.some.inj hm
     exact retA_r (h2 := upd (famH (h) 2 1 (ints .i64) g_f2 x7) b13 (.own 57 (rowsC g_f2 x7) (cap_b13 * 1))) (Res.two rfl (rfl) (rfl)) (Le.upd_left (Le.famH_left (Le.under (Le.underF (Le.under (Le.under (Le.refl _) hb1) hb3) hf2) hb13) okf_f2 (fun i hi => (LkO.there (NeF.neO n_b13_f2 i) (famH_row okf_f2 hi)))) (upd_same _ _ _) (by first | rfl | (simp; done))) ⟨g_f2, (some b13), cap_b13, hf2, okf_f2, (frO_some (none_famH n_b13_f2 hb13)), (OkO.some (by first | assumption | omega | decide | (simp only [List.length_set, List.length_replicate]; first | done | assumption | omega)) (by first | assumption | (simp only [maxLen]; omega))), rfl, rfl⟩
    rw [if_neg hid2] at hm
    exact absurd hm (by simp)

/-! loop.example/g01195/impl.SquareOfLists$1 -/
theorem c_impl_SquareOfLists_1 {a0 : Int} {a1 : Int} {lv0 : (List (List Int))} {Av0 : Option Addr} {cv0 : Nat} {gav0 : List (Option Addr × Nat)} {q0 : Nat} {h : Hp} {r : Int} (hm : m_impl_SquareOfLists_1 a0 a1 lv0 = some r) (hq0 : h q0 = some (.own 39 ([.slice Av0 lv0.length cv0]) 1)) (hsv0 : RdSS h Av0 (ints .i64) lv0 gav0) :
    QC Try.prog 46 #[.int .u8 a0, .int .u8 a1, .pointer (some ⟨q0, 0, none⟩)] h (.int .u8 r) := by
 unfold m_impl_SquareOfLists_1 at hm
 refine CC.enter Try.func46 rfl Try.ntmps46 rfl ?_
 refine wpA_seq ?_
 refine wpA_region ?_
 refine Ops_quiet _ rfl rfl (QO.assign rfl rfl) ?_
 refine Ops_nil ?_
 refine thenA_n ?_
 refine wpA_seq ?_
 refine wpA_region ?_
 refine Ops_quiet _ rfl rfl (QO.load rfl sz39 rfl rfl (by (refine (rd_own hq0 _).trans ?_); exact rfl)) ?_
 refine Ops_quiet _ rfl rfl (QO.move rfl rfl) ?_
 have hq := chk hm; clear hm; obtain ⟨ck1, hm⟩ := hq
 refine Ops_quiet _ rfl rfl (QO.idxRd2 rfl sz39 sz57 rfl rfl (by omega) (by omega) (RdSS.out hsv0) (by simp [rowsC_length, rowsA_length, mpC_length, sqC_length, tbC_length, tabI_length, tabB_length, ints_length, plsC_length, trC_length, sqsC_length, strsC_length, boolsC_length, tbB_length, List.length_append, List.length_cons, List.length_nil, List.length_set, List.length_replicate, rep_length]) (by decide)) ?_
 refine Ops_quiet (.slice (gav0.getD (a0).toNat (none, 0)).1 (lv0.getD (a0).toNat []).length (gav0.getD (a0).toNat (none, 0)).2) rfl rfl (QO.load rfl sz57 rfl rfl (RdS.rd (RdS.le (RdSS.out hsv0) (Le.refl _)) (rowsA_get (by omega)))) ?_
 have hsr1 := hsv0.row (a0).toNat (by omega)
 refine Ops_quiet _ rfl rfl (QO.move rfl rfl) ?_
 have hq := chk hm; clear hm; obtain ⟨ck2, hm⟩ := hq
 refine Ops_quiet _ rfl rfl (QO.idxRd2 rfl sz57 sz2 rfl rfl (by omega) (by omega) hsr1 (by simp [rowsC_length, rowsA_length, mpC_length, sqC_length, tbC_length, tabI_length, tabB_length, ints_length, plsC_length, trC_length, sqsC_length, strsC_length, boolsC_length, tbB_length, List.length_append, List.length_cons, List.length_nil, List.length_set, List.length_replicate, rep_length]) (by decide)) ?_
 refine Ops_quiet _ rfl rfl (QO.load rfl sz2 rfl rfl (by first | exact (RdS.rd (RdS.le hsr1 (Le.refl _)) (by first | rfl | exact sqC_get (by omega) (by omega) | exact tbC_get (by omega) (by omega) | exact tbB_get (by omega) (by omega) | exact tabI_get01 (by omega) | exact tabB_get01 (by omega) | exact ints_get01 (by omega) | exact boolsC_get01 (by omega) | exact tabI_get (by omega) | exact tabB_get (by omega) | exact ints_get1 (by omega) | exact strsC_get01 (by omega) | exact strsC_get1 (by omega) | exact plsC_get (by omega) (by omega) | exact trC_a (by omega) | exact trC_b (by omega) | exact trC_c (by omega) | exact sqsC_ord (by omega) | exact sqsC_get (by omega) (by omega) (by omega))) | exact (RdS.rd2 (RdS.le hsr1 (Le.refl _)) (by first | rfl | exact sqC_get (by omega) (by omega) | exact tbC_get (by omega) (by omega) | exact tbB_get (by omega) (by omega) | exact tabI_get01 (by omega) | exact tabB_get01 (by omega) | exact ints_get01 (by omega) | exact boolsC_get01 (by omega) | exact tabI_get (by omega) | exact tabB_get (by omega) | exact ints_get1 (by omega) | exact strsC_get01 (by omega) | exact strsC_get1 (by omega) | exact plsC_get (by omega) (by omega) | exact trC_a (by omega) | exact trC_b (by omega) | exact trC_c (by omega) | exact sqsC_ord (by omega) | exact sqsC_get (by omega) (by omega) (by omega))) | exact (RdS.rd3 (RdS.le hsr1 (Le.refl _)) (by first | rfl | exact sqC_get (by omega) (by omega) | exact tbC_get (by omega) (by omega) | exact tbB_get (by omega) (by omega) | exact tabI_get01 (by omega) | exact tabB_get01 (by omega) | exact ints_get01 (by omega) | exact boolsC_get01 (by omega) | exact tabI_get (by omega) | exact tabB_get (by omega) | exact ints_get1 (by omega) | exact strsC_get01 (by omega) | exact strsC_get1 (by omega) | exact plsC_get (by omega) (by omega) | exact trC_a (by omega) | exact trC_b (by omega) | exact trC_c (by omega) | exact sqsC_ord (by omega) | exact sqsC_get (by omega) (by omega) (by omega))))) ?_
 refine Ops_quiet _ rfl rfl (QO.conv rfl sz2 sz5 rfl) ?_
 refine Ops_quiet _ rfl rfl (QO.assign rfl rfl) ?_
 refine Ops_nil ?_
 refine thenA_n ?_
 refine wpA_ret ?_
 obtain rfl := Option.some.inj hm
 exact retA_r (h2 := h) (Res.one rfl (rfl)) (Le.refl _) ⟨rfl, rfl⟩

/-! loop.example/g01195/impl.SquareOfLists -/
theorem c_impl_SquareOfLists {l0 : (List (List Int))} {A0 : Option Addr} {c0 : Nat} {ga0 : List (Option Addr × Nat)} {h : Hp} {r : Sq × Int} (hm : m_impl_SquareOfLists l0 = some r) (hs0 : RdSS h A0 (ints .i64) l0 ga0) :
    QC Try.prog 20 #[.slice A0 l0.length c0] h (.tuple #[.agg (sqC r.1).toArray, .int .i64 r.2]) := by
 unfold m_impl_SquareOfLists at hm
 refine CC.enter Try.func20 rfl Try.ntmps20 rfl ?_
 refine wpA_seq ?_
 refine wpA_region ?_
 refine Ops_loud rfl (LO.boxOne rfl rfl rfl rfl (fun b1 hb1 => ?_))
 refine Ops_loud rfl (LO.alloc rfl zr28 rfl (fun b2 hb2 => ?_))
 simp only [upd_noneA] at hb2
 obtain ⟨n_b2_b1, hb2⟩ := hb2
 refine Ops_quiet _ rfl rfl (QO.assign rfl rfl) ?_
 refine Ops_nil ?_
 refine thenA_n ?_
 refine wpA_seq ?_
 refine wpA_region ?_
 refine Ops_quiet _ rfl rfl (QO.load rfl sz39 rfl rfl (by (refine (rd_own ((upd_ne _ _ n_b2_b1.ne.symm).trans (upd_same _ _ _)) _).trans ?_); exact rfl)) ?_
 refine Ops_quiet _ rfl rfl (QO.lenSl rfl sz39 rfl) ?_
 refine Ops_quiet _ rfl rfl (QO.assign rfl rfl) ?_
 refine Ops_nil ?_
 refine thenA_n ?_
 refine wpA_seq ?_
 refine wpA_seq ?_
 refine wpA_region ?_
 refine Ops_quiet _ rfl rfl (QO.move rfl rfl) ?_
 have hq := Option.bind_eq_some_iff.1 hm; clear hm; obtain ⟨r1, hr1, hm⟩ := hq
 refine Ops_call _ _ rfl rfl (EO.fn rfl Try.func33 rfl rfl (Evs.cons rfl (Evs.cons rfl (Evs.cons rfl Evs.nil)))) (QC.cc (c_impl_within hr1 ) ?_)
 refine Ops_quiet _ rfl rfl (QO.not rfl rfl) ?_
 refine Ops_nil ?_
 refine thenA_n ?_
 refine wpA_cond rfl (fun g1 => ?_) (fun g1 => ?_)
 ·replace hm := cond_t hm g1
  refine wpA_seq ?_
  refine wpA_region ?_
  refine Ops_quiet _ rfl rfl (QO.build0 rfl bd28) ?_
  refine Ops_loud rfl (LO.storeAll (cs := sqC sq0) rfl sz28 rfl rfl (sqC_one _) (sqC_length _) (upd_same _ _ _) (sqC_length _) Chg.here rfl ?_)
  refine Ops_quiet _ rfl rfl (QO.assign rfl rfl) ?_
  refine Ops_nil ?_
  refine thenA_n ?_
  refine wpA_ret ?_
  refine thenA_r ?_
  obtain rfl := Option.some.inj hm
  exact retA_r (h2 := h) (Res.two rfl (res1.row (cs := sqC sq0) (hr := (rdAll (upd_same _ _ _))) sz28 rfl rfl (sqC_length _)) (rfl)) (Le.under (Le.under (Le.refl _) hb1) hb2) ⟨rfl, rfl⟩
 ·replace hm := cond_f hm g1
  refine wpA_skip ?_
  refine thenA_n ?_
  refine wpA_seq ?_
  refine wpA_seq ?_
  refine wpA_region ?_
  refine Ops_quiet _ rfl rfl (QO.load rfl sz39 rfl rfl (by (refine (rd_own ((upd_ne _ _ n_b2_b1.ne.symm).trans (upd_same _ _ _)) _).trans ?_); exact rfl)) ?_
  refine Ops_quiet _ rfl rfl (QO.lenSl rfl sz39 rfl) ?_
  refine Ops_quiet _ rfl rfl (QO.move rfl rfl) ?_
  refine Ops_nil ?_
  refine thenA_n ?_
  refine wpA_block ?_
  obtain ⟨R1, hR, hm⟩ := Option.bind_eq_some_iff.1 hm
  obtain ⟨k1, hk1⟩ := loopV_some hR
  clear hR
  refine wpA_mono (Q := fun e s' h' => match (generalizing := false) R1 with | .stop x id => e = .exit id ∧ ∃ (x1 : Int) (x2 : Sq), (x1, x2) = x ∧ Sub s' [(1, .pointer (some ⟨b1, 0, none⟩)), (2, .pointer (some ⟨b2, 0, none⟩)), (4, .int .i64 ((l0.length : Nat) : Int)), (16, .slice A0 l0.length c0), (17, .int .i64 ((l0.length : Nat) : Int)), (18, .int .i64 x1)] ∧ Le (upd (upd (h) b1 (.own 39 ([.slice A0 l0.length c0]) 1)) b2 (.own 28 (sqC x2) 101)) h' | .ret r => e = .ret ∧ Sub s' [(2, .pointer (some ⟨b2, 0, none⟩)), (3, .int .i64 r.2)] ∧ Le (upd (h) b2 (.own 28 (sqC r.1) 101)) h' | .next _ => False) ?_ ?_
  ·refine wpA_loop (fun k s' h' => ∃ (x1 : Int) (x2 : Sq), loopW (m_impl_SquareOfLists_l0 l0) k (x1, x2) = some R1 ∧ Sub s' [(1, .pointer (some ⟨b1, 0, none⟩)), (2, .pointer (some ⟨b2, 0, none⟩)), (4, .int .i64 ((l0.length : Nat) : Int)), (16, .slice A0 l0.length c0), (17, .int .i64 ((l0.length : Nat) : Int)), (18, .int .i64 x1)] ∧ Le (upd (upd (h) b1 (.own 39 ([.slice A0 l0.length c0]) 1)) b2 (.own 28 (sqC x2) 101)) h') (m := k1) ⟨0, sq0, hk1, (Sub.cons rfl (Sub.cons rfl (Sub.cons rfl (Sub.cons rfl (Sub.cons rfl (Sub.cons rfl Sub.nil)))))), (Le.upd_left (Le.upd_left (Le.under (Le.under (Le.refl _) hb1) hb2) ((upd_ne _ _ n_b2_b1.ne.symm).trans (upd_same _ _ _)) (by first | rfl | (simp; done))) (upd_same _ _ _) (by first | rfl | (simp; done)))⟩ ?_
   rintro k1 s' h' ⟨x1, x2, hk1, hsub, hle⟩
   refine wpA_weaken hsub.ok hle ?_
   clear hsub hle s' h'
   cases k1 with
   | zero => exact absurd hk1 (by simp [loopW])
   | succ k1 =>
    obtain ⟨o1, ho1, hk1⟩ := loopW_succ hk1
    unfold m_impl_SquareOfLists_l0 at ho1
    try dsimp only at ho1
    refine wpA_seq ?_
    refine wpA_region ?_
    refine Ops_quiet _ rfl rfl (QO.bin rfl rfl rfl rfl) ?_
    refine Ops_nil ?_
    refine thenA_n ?_
    refine wpA_seq ?_
    refine wpA_cond rfl (fun g2 => ?_) (fun g2 => ?_)
    ·replace ho1 := cond_t ho1 g2
     refine wpA_skip ?_
     refine thenA_n ?_
     refine wpA_seq ?_
     refine wpA_block ?_
     refine wpA_seq ?_
     refine wpA_region ?_
     have hq := chk ho1; clear ho1; obtain ⟨ck1, ho1⟩ := hq
     refine Ops_quiet _ rfl rfl (QO.idxRd2 rfl sz39 sz57 rfl rfl (by omega) (by omega) (RdSS.out hs0) (by simp [rowsC_length, rowsA_length, mpC_length, sqC_length, tbC_length, tabI_length, tabB_length, ints_length, plsC_length, trC_length, sqsC_length, strsC_length, boolsC_length, tbB_length, List.length_append, List.length_cons, List.length_nil, List.length_set, List.length_replicate, rep_length]) (by decide)) ?_
     refine Ops_quiet (.slice (ga0.getD (x1).toNat (none, 0)).1 (l0.getD (x1).toNat []).length (ga0.getD (x1).toNat (none, 0)).2) rfl rfl (QO.load rfl sz57 rfl rfl (RdS.rd (RdS.le (RdSS.out hs0) (Le.under (Le.under (Le.refl _) hb1) hb2)) (rowsA_get (by omega)))) ?_
     have hsr1 := hs0.row (x1).toNat (by omega)
     refine Ops_quiet _ rfl rfl (QO.assign rfl rfl) ?_
     refine Ops_nil ?_
     refine thenA_n ?_
     refine wpA_seq ?_
     refine wpA_seq ?_
     refine wpA_region ?_
     refine Ops_quiet _ rfl rfl (QO.move rfl rfl) ?_
     refine Ops_quiet _ rfl rfl (QO.lenSl rfl sz57 rfl) ?_
     refine Ops_quiet _ rfl rfl (QO.move rfl rfl) ?_
     refine Ops_quiet _ rfl rfl (QO.bin rfl rfl rfl rfl) ?_
     refine Ops_nil ?_
     refine thenA_n ?_
     refine wpA_cond rfl (fun g3 => ?_) (fun g3 => ?_)
     ·replace ho1 := cond_t ho1 g3
      refine wpA_seq ?_
      refine wpA_region ?_
      refine Ops_quiet _ rfl rfl (QO.build0 rfl bd28) ?_
      refine Ops_loud rfl (LO.storeAll (cs := sqC sq0) rfl sz28 rfl rfl (sqC_one _) (sqC_length _) (upd_same _ _ _) (sqC_length _) Chg.here rfl ?_)
      refine Ops_quiet _ rfl rfl (QO.assign rfl rfl) ?_
      refine Ops_nil ?_
      refine thenA_n ?_
      refine wpA_ret ?_
      refine thenA_r ?_
      refine blockA_r ?_
      refine thenA_r ?_
      refine thenA_r ?_
      obtain rfl := Option.some.inj ho1
      obtain rfl := Option.some.inj hk1
      exact ⟨rfl, (Sub.cons rfl (Sub.cons rfl Sub.nil)), (Le.upd_left (Le.under (Le.under (Le.refl _) hb1) hb2) (upd_same _ _ _) (by first | rfl | (simp; done)))⟩
     ·replace ho1 := cond_f ho1 g3
      refine wpA_skip ?_
      refine thenA_n ?_
      refine wpA_seq ?_
      refine wpA_region ?_
      refine Ops_quiet _ rfl rfl (QO.move rfl rfl) ?_
      refine Ops_quiet _ rfl rfl (QO.lenSl rfl sz57 rfl) ?_
      refine Ops_quiet _ rfl rfl (QO.move rfl rfl) ?_
      refine Ops_nil ?_
      refine thenA_n ?_
      refine wpA_block ?_
      obtain ⟨R2, hR, ho1⟩ := Option.bind_eq_some_iff.1 ho1
      obtain ⟨k2, hk2⟩ := loopV_some hR
      clear hR
      refine wpA_mono (Q := fun e s' h' => match (generalizing := false) R2 with | .stop x id => e = .exit id ∧ ∃ (x3 : Int) (x4 : Sq), (x3, x4) = x ∧ Sub s' [(1, .pointer (some ⟨b1, 0, none⟩)), (2, .pointer (some ⟨b2, 0, none⟩)), (4, .int .i64 ((l0.length : Nat) : Int)), (16, .slice A0 l0.length c0), (17, .int .i64 ((l0.length : Nat) : Int)), (18, .int .i64 x1), (27, .slice (ga0.getD (x1).toNat (none, 0)).1 (l0.getD (x1).toNat []).length (ga0.getD (x1).toNat (none, 0)).2), (28, .int .i64 (((l0.getD (x1).toNat []).length : Nat) : Int)), (29, .int .i64 x3)] ∧ Le (upd (upd (h) b1 (.own 39 ([.slice A0 l0.length c0]) 1)) b2 (.own 28 (sqC x4) 101)) h' | .ret r => e = .ret ∧ Sub s' [(2, .pointer (some ⟨b2, 0, none⟩)), (3, .int .i64 r.2)] ∧ Le (upd (h) b2 (.own 28 (sqC r.1) 101)) h' | .next _ => False) ?_ ?_
      ·refine wpA_loop (fun k s' h' => ∃ (x3 : Int) (x4 : Sq), loopW (m_impl_SquareOfLists_l1 l0 x1) k (x3, x4) = some R2 ∧ Sub s' [(1, .pointer (some ⟨b1, 0, none⟩)), (2, .pointer (some ⟨b2, 0, none⟩)), (4, .int .i64 ((l0.length : Nat) : Int)), (16, .slice A0 l0.length c0), (17, .int .i64 ((l0.length : Nat) : Int)), (18, .int .i64 x1), (27, .slice (ga0.getD (x1).toNat (none, 0)).1 (l0.getD (x1).toNat []).length (ga0.getD (x1).toNat (none, 0)).2), (28, .int .i64 (((l0.getD (x1).toNat []).length : Nat) : Int)), (29, .int .i64 x3)] ∧ Le (upd (upd (h) b1 (.own 39 ([.slice A0 l0.length c0]) 1)) b2 (.own 28 (sqC x4) 101)) h') (m := k2) ⟨0, x2, hk2, (Sub.cons rfl (Sub.cons rfl (Sub.cons rfl (Sub.cons rfl (Sub.cons rfl (Sub.cons rfl (Sub.cons rfl (Sub.cons rfl (Sub.cons rfl Sub.nil))))))))), (Le.upd_left (Le.upd_left (Le.under (Le.under (Le.refl _) hb1) hb2) ((upd_ne _ _ n_b2_b1.ne.symm).trans (upd_same _ _ _)) (by first | rfl | (simp; done))) (upd_same _ _ _) (by first | rfl | (simp; done)))⟩ ?_
       rintro k2 s' h' ⟨x3, x4, hk2, hsub, hle⟩
       refine wpA_weaken hsub.ok hle ?_
       clear hsub hle s' h'
       cases k2 with
       | zero => exact absurd hk2 (by simp [loopW])
       | succ k2 =>
        obtain ⟨o2, ho2, hk2⟩ := loopW_succ hk2
        unfold m_impl_SquareOfLists_l1 at ho2
        try dsimp only at ho2
        refine wpA_seq ?_
        refine wpA_region ?_
        refine Ops_quiet _ rfl rfl (QO.bin rfl rfl rfl rfl) ?_
        refine Ops_nil ?_
        refine thenA_n ?_
        refine wpA_seq ?_
        refine wpA_cond rfl (fun g4 => ?_) (fun g4 => ?_)
        ·replace ho2 := cond_t ho2 g4
         refine wpA_skip ?_
         refine thenA_n ?_
         refine wpA_seq ?_
         refine wpA_block ?_
         refine wpA_seq ?_
         refine wpA_region ?_
         have hq := chk ho2; clear ho2; obtain ⟨ck2, ho2⟩ := hq
         refine Ops_quiet _ rfl rfl (QO.idxRd2 rfl sz57 sz2 rfl rfl (by omega) (by omega) hsr1 (by simp [rowsC_length, rowsA_length, mpC_length, sqC_length, tbC_length, tabI_length, tabB_length, ints_length, plsC_length, trC_length, sqsC_length, strsC_length, boolsC_length, tbB_length, List.length_append, List.length_cons, List.length_nil, List.length_set, List.length_replicate, rep_length]) (by decide)) ?_
         refine Ops_quiet _ rfl rfl (QO.load rfl sz2 rfl rfl (by first | exact (RdS.rd (RdS.le hsr1 (Le.under (Le.under (Le.refl _) hb1) hb2)) (by first | rfl | exact sqC_get (by omega) (by omega) | exact tbC_get (by omega) (by omega) | exact tbB_get (by omega) (by omega) | exact tabI_get01 (by omega) | exact tabB_get01 (by omega) | exact ints_get01 (by omega) | exact boolsC_get01 (by omega) | exact tabI_get (by omega) | exact tabB_get (by omega) | exact ints_get1 (by omega) | exact strsC_get01 (by omega) | exact strsC_get1 (by omega) | exact plsC_get (by omega) (by omega) | exact trC_a (by omega) | exact trC_b (by omega) | exact trC_c (by omega) | exact sqsC_ord (by omega) | exact sqsC_get (by omega) (by omega) (by omega))) | exact (RdS.rd2 (RdS.le hsr1 (Le.under (Le.under (Le.refl _) hb1) hb2)) (by first | rfl | exact sqC_get (by omega) (by omega) | exact tbC_get (by omega) (by omega) | exact tbB_get (by omega) (by omega) | exact tabI_get01 (by omega) | exact tabB_get01 (by omega) | exact ints_get01 (by omega) | exact boolsC_get01 (by omega) | exact tabI_get (by omega) | exact tabB_get (by omega) | exact ints_get1 (by omega) | exact strsC_get01 (by omega) | exact strsC_get1 (by omega) | exact plsC_get (by omega) (by omega) | exact trC_a (by omega) | exact trC_b (by omega) | exact trC_c (by omega) | exact sqsC_ord (by omega) | exact sqsC_get (by omega) (by omega) (by omega))) | exact (RdS.rd3 (RdS.le hsr1 (Le.under (Le.under (Le.refl _) hb1) hb2)) (by first | rfl | exact sqC_get (by omega) (by omega) | exact tbC_get (by omega) (by omega) | exact tbB_get (by omega) (by omega) | exact tabI_get01 (by omega) | exact tabB_get01 (by omega) | exact ints_get01 (by omega) | exact boolsC_get01 (by omega) | exact tabI_get (by omega) | exact tabB_get (by omega) | exact ints_get1 (by omega) | exact strsC_get01 (by omega) | exact strsC_get1 (by omega) | exact plsC_get (by omega) (by omega) | exact trC_a (by omega) | exact trC_b (by omega) | exact trC_c (by omega) | exact sqsC_ord (by omega) | exact sqsC_get (by omega) (by omega) (by omega))))) ?_
         refine Ops_quiet _ rfl rfl (QO.assign rfl rfl) ?_
         refine Ops_nil ?_
         refine thenA_n ?_
         refine wpA_seq ?_
         refine wpA_region ?_
         refine Ops_quiet _ rfl rfl (QO.move rfl rfl) ?_
         refine Ops_quiet _ rfl rfl (QO.move rfl rfl) ?_
         refine Ops_quiet _ rfl rfl (QO.bin rfl rfl rfl rfl) ?_
         have hq := Option.bind_eq_some_iff.1 ho2; clear ho2; obtain ⟨r2, hr2, ho2⟩ := hq
         refine Ops_call _ _ rfl rfl (EO.fn rfl Try.func33 rfl rfl (Evs.cons rfl (Evs.cons rfl (Evs.cons rfl Evs.nil)))) (QC.cc (c_impl_within hr2 ) ?_)
         refine Ops_quiet _ rfl rfl (QO.not rfl rfl) ?_
         refine Ops_nil ?_
         refine thenA_n ?_
         refine wpA_cond rfl (fun g5 => ?_) (fun g5 => ?_)
         ·replace ho2 := cond_t ho2 g5
          refine wpA_seq ?_
          refine wpA_region ?_
          refine Ops_quiet _ rfl rfl (QO.build0 rfl bd28) ?_
          refine Ops_loud rfl (LO.storeAll (cs := sqC sq0) rfl sz28 rfl rfl (sqC_one _) (sqC_length _) (upd_same _ _ _) (sqC_length _) Chg.here rfl ?_)
          refine Ops_quiet _ rfl rfl (QO.assign rfl rfl) ?_
          refine Ops_nil ?_
          refine thenA_n ?_
          refine wpA_ret ?_
          refine blockA_r ?_
          refine thenA_r ?_
          refine thenA_r ?_
          obtain rfl := Option.some.inj ho2
          obtain rfl := Option.some.inj hk2
          exact ⟨rfl, (Sub.cons rfl (Sub.cons rfl Sub.nil)), (Le.upd_left (Le.under (Le.under (Le.refl _) hb1) hb2) (upd_same _ _ _) (by first | rfl | (simp; done)))⟩
         ·replace ho2 := cond_f ho2 g5
          refine wpA_skip ?_
          refine blockA_n ?_
          refine thenA_n ?_
          refine wpA_region ?_
          refine Ops_quiet _ rfl rfl (QO.bin rfl rfl rfl rfl) ?_
          refine Ops_quiet _ rfl rfl (QO.move rfl rfl) ?_
          refine Ops_nil ?_
          obtain rfl := Option.some.inj ho2
          dsimp only at hk2
          exact thenA_n ⟨k2, Nat.lt_succ_self _, _, _, hk2, (Sub.cons rfl (Sub.cons rfl (Sub.cons rfl (Sub.cons rfl (Sub.cons rfl (Sub.cons rfl (Sub.cons rfl (Sub.cons rfl (Sub.cons rfl Sub.nil))))))))), (Le.upd_left (Le.upd_left (Le.under (Le.under (Le.refl _) hb1) hb2) ((upd_ne _ _ n_b2_b1.ne.symm).trans (upd_same _ _ _)) (by first | rfl | (simp; done))) (upd_same _ _ _) (by first | rfl | (simp; done)))⟩
        ·replace ho2 := cond_f ho2 g4
         refine wpA_exit ?_
         refine thenA_e ?_
         refine thenA_e ?_
         obtain rfl := Option.some.inj ho2
         obtain rfl := Option.some.inj hk2
         exact ⟨rfl, _, _, rfl, (Sub.cons rfl (Sub.cons rfl (Sub.cons rfl (Sub.cons rfl (Sub.cons rfl (Sub.cons rfl (Sub.cons rfl (Sub.cons rfl (Sub.cons rfl Sub.nil))))))))), (Le.upd_left (Le.upd_left (Le.under (Le.under (Le.refl _) hb1) hb2) ((upd_ne _ _ n_b2_b1.ne.symm).trans (upd_same _ _ _)) (by first | rfl | (simp; done))) (upd_same _ _ _) (by first | rfl | (simp; done)))⟩
      ·intro e s' h' hq
       cases R2 with
       | next x => exact hq.elim
       | ret r =>
        obtain ⟨rfl, hsub1, hle1⟩ := hq
        try dsimp only at ho1
        refine blockA_r ?_
        refine blockA_r ?_
        refine thenA_r ?_
        refine thenA_r ?_
        obtain rfl := Option.some.inj ho1
        obtain rfl := Option.some.inj hk1
        exact ⟨rfl, (Sub.trans hsub1 (Sub.cons rfl (Sub.cons rfl Sub.nil))), (Le.trans (Le.upd_left (Le.under (Le.refl _) hb2) (upd_same _ _ _) (by first | rfl | (simp; done))) hle1)⟩
       | stop x id =>
        obtain ⟨rfl, x5, x6, rfl, hsub2, hle2⟩ := hq
        try dsimp only at ho1
        by_cases hid1 : id = 2
        ·subst hid1
         rw [if_pos rfl] at ho1
         refine blockA_s ?_
         refine blockA_n ?_
         refine thenA_n ?_
         refine wpA_weaken hsub2.ok hle2 ?_
         refine wpA_region ?_
         refine Ops_quiet _ rfl rfl (QO.bin rfl rfl rfl rfl) ?_
         refine Ops_quiet _ rfl rfl (QO.move rfl rfl) ?_
         refine Ops_nil ?_
         obtain rfl := Option.some.inj ho1
         dsimp only at hk1
         exact thenA_n ⟨k1, Nat.lt_succ_self _, _, _, hk1, (Sub.cons rfl (Sub.cons rfl (Sub.cons rfl (Sub.cons rfl (Sub.cons rfl (Sub.cons rfl Sub.nil)))))), (Le.upd_left (Le.upd_left (Le.under (Le.under (Le.refl _) hb1) hb2) ((upd_ne _ _ n_b2_b1.ne.symm).trans (upd_same _ _ _)) (by first | rfl | (simp; done))) (upd_same _ _ _) (by first | rfl | (simp; done)))⟩
        rw [if_neg hid1] at ho1
        exact absurd ho1 (by simp)
    ·replace ho1 := cond_f ho1 g2
     refine wpA_exit ?_
     refine thenA_e ?_
     refine thenA_e ?_
     obtain rfl := Option.some.inj ho1
     obtain rfl := Option.some.inj hk1
     exact ⟨rfl, _, _, rfl, (Sub.cons rfl (Sub.cons rfl (Sub.cons rfl (Sub.cons rfl (Sub.cons rfl (Sub.cons rfl Sub.nil)))))), (Le.upd_left (Le.upd_left (Le.under (Le.under (Le.refl _) hb1) hb2) ((upd_ne _ _ n_b2_b1.ne.symm).trans (upd_same _ _ _)) (by first | rfl | (simp; done))) (upd_same _ _ _) (by first | rfl | (simp; done)))⟩
  ·intro e s' h' hq
   cases R1 with
   | next x => exact hq.elim
   | ret r =>
    obtain ⟨rfl, hsub3, hle3⟩ := hq
    try dsimp only at hm
    refine blockA_r ?_
    refine thenA_r ?_
    obtain rfl := Option.some.inj hm
    refine retA_sub hsub3.ok hle3 ?_
    exact retA_r (h2 := h) (Res.two rfl (res1.row (cs := sqC r.1) (hr := (rdAll (upd_same _ _ _))) sz28 rfl rfl (sqC_length _)) (rfl)) (Le.under (Le.refl _) hb2) ⟨rfl, rfl⟩
   | stop x id =>
    obtain ⟨rfl, x7, x8, rfl, hsub4, hle4⟩ := hq
    try dsimp only at hm
    by_cases hid2 : id = 0
    ·subst hid2
     rw [if_pos rfl] at hm
     refine blockA_s ?_
     refine thenA_n ?_
     refine wpA_weaken hsub4.ok hle4 ?_
     refine wpA_seq ?_
     refine wpA_region ?_
     refine Ops_quiet _ rfl rfl (QO.move rfl rfl) ?_
     refine Ops_quiet _ rfl rfl (QO.makeClo rfl (Evs.cons rfl Evs.nil)) ?_
     have hq := Option.bind_eq_some_iff.1 hm; clear hm; obtain ⟨r3, hr3, hm⟩ := hq
     refine Ops_call _ _ rfl rfl (EO.fn rfl Try.func45 rfl rfl (Evs.cons rfl (Evs.cons rfl Evs.nil))) (QC.cc (c_impl_made hr3 ⟨_, _, Try.func46, rfl, rfl⟩ (fun _ _ _  hm => c_impl_SquareOfLists_1 hm ((upd_ne _ _ n_b2_b1.ne.symm).trans (upd_same _ _ _)) (RdSS.le hs0 (Le.under (Le.under (Le.refl _) hb1) hb2)))) ?_)
     refine Ops_loud rfl (LO.alloc rfl zr28 rfl (fun b3 hb3 => ?_))
     simp only [upd_noneA] at hb3
     obtain ⟨n_b3_b2, n_b3_b1, hb3⟩ := hb3
     refine Ops_loud rfl (LO.storeAll (cs := sqC r3) rfl sz28 rfl rfl (sqC_one _) (sqC_length _) (upd_same _ _ _) (sqC_length _) Chg.here rfl ?_)
     refine Ops_nil ?_
     refine thenA_n ?_
     refine wpA_seq ?_
     refine wpA_seq ?_
     refine wpA_region ?_
     refine Ops_quiet _ rfl rfl (QO.loadRow (cs := sqC r3) (hr := (rdAll (upd_same _ _ _))) rfl sz28 rfl rfl (sqC_length _)) ?_
     have hq := Option.bind_eq_some_iff.1 hm; clear hm; obtain ⟨r4, hr4, hm⟩ := hq
     refine Ops_call _ _ rfl rfl (EO.fn rfl Try.func8 rfl rfl (Evs.cons rfl Evs.nil)) (QC.cc (c_impl_IsSquare hr4 ) ?_)
     refine Ops_quiet _ rfl rfl (QO.not rfl rfl) ?_
     refine Ops_nil ?_
     refine thenA_n ?_
     refine wpA_cond rfl (fun g6 => ?_) (fun g6 => ?_)
     ·replace hm := cond_t hm g6
      refine wpA_seq ?_
      refine wpA_region ?_
      refine Ops_quiet _ rfl rfl (QO.build0 rfl bd28) ?_
      refine Ops_loud rfl (LO.storeAll (cs := sqC sq0) rfl sz28 rfl rfl (sqC_one _) (sqC_length _) ((upd_ne _ _ n_b3_b2.ne.symm).trans (upd_same _ _ _)) (sqC_length _) (Chg.there n_b3_b2.ne Chg.here) rfl ?_)
      refine Ops_quiet _ rfl rfl (QO.assign rfl rfl) ?_
      refine Ops_nil ?_
      refine thenA_n ?_
      refine wpA_ret ?_
      refine thenA_r ?_
      obtain rfl := Option.some.inj hm
      exact retA_r (h2 := h) (Res.two rfl (res1.row (cs := sqC sq0) (hr := (rdAll ((upd_ne _ _ n_b3_b2.ne.symm).trans (upd_same _ _ _)))) sz28 rfl rfl (sqC_length _)) (rfl)) (Le.under (Le.under (Le.under (Le.refl _) hb1) hb2) hb3) ⟨rfl, rfl⟩
     ·replace hm := cond_f hm g6
      refine wpA_skip ?_
      refine thenA_n ?_
      refine wpA_seq ?_
      refine wpA_region ?_
      refine Ops_quiet _ rfl rfl (QO.loadRow (cs := sqC r3) (hr := (rdAll (upd_same _ _ _))) rfl sz28 rfl rfl (sqC_length _)) ?_
      refine Ops_loud rfl (LO.storeAll (cs := sqC r3) rfl sz28 rfl rfl (sqC_one _) (sqC_length _) ((upd_ne _ _ n_b3_b2.ne.symm).trans (upd_same _ _ _)) (sqC_length _) (Chg.there n_b3_b2.ne Chg.here) rfl ?_)
      refine Ops_quiet _ rfl rfl (QO.assign rfl rfl) ?_
      refine Ops_nil ?_
      refine thenA_n ?_
      refine wpA_ret ?_
      obtain rfl := Option.some.inj hm
      exact retA_r (h2 := h) (Res.two rfl (res1.row (cs := sqC r3) (hr := (rdAll ((upd_ne _ _ n_b3_b2.ne.symm).trans (upd_same _ _ _)))) sz28 rfl rfl (sqC_length _)) (rfl)) (Le.under (Le.under (Le.under (Le.refl _) hb1) hb2) hb3) ⟨rfl, rfl⟩
    rw [if_neg hid2] at hm
    exact absurd hm (by simp)

/-! loop.example/g01195/impl.squareText -/
theorem c_impl_squareText {a0 : Sq} {h : Hp} {r : ByteArray} (hm : m_impl_squareText a0 = some r)  :
    QC Try.prog 47 #[.agg (sqC a0).toArray] h (.string r) := by
 unfold m_impl_squareText at hm
 refine CC.enter Try.func47 rfl Try.ntmps47 rfl ?_
 refine wpA_seq ?_
 refine wpA_region ?_
 refine Ops_loud rfl (LO.boxAgg rfl rfl rfl (fun b1 hb1 => ?_))
 refine Ops_quiet _ rfl rfl (QO.assign rfl rfl) ?_
 refine Ops_nil ?_
 refine thenA_n ?_
 refine wpA_seq ?_
 refine wpA_region ?_
 refine Ops_loud rfl (LO.sliceNil rfl sz22 sz5 rfl (fun b2 hb2 => ?_))
 simp only [upd_noneA] at hb2
 obtain ⟨n_b2_b1, hb2⟩ := hb2
 refine Ops_quiet _ rfl rfl (QO.assign rfl rfl) ?_
 refine Ops_nil ?_
 refine thenA_n ?_
 refine wpA_seq ?_
 refine wpA_seq ?_
 refine wpA_region ?_
 refine Ops_quiet _ rfl rfl (QO.loadRow (cs := sqC a0) (hr := (rdAll ((upd_ne _ _ n_b2_b1.ne.symm).trans (upd_same _ _ _)))) rfl sz28 rfl rfl (sqC_length _)) ?_
 have hq := Option.bind_eq_some_iff.1 hm; clear hm; obtain ⟨r1, hr1, hm⟩ := hq
 refine Ops_call _ _ rfl rfl (EO.fn rfl Try.func44 rfl rfl (Evs.cons rfl Evs.nil)) (CC.mono (c_impl_Square_elements hr1 ) ?_)
 rintro _ _ ⟨b3, cap_b3, rfl, hb3, hk_b3, hc_b3, rfl⟩
 simp only [upd_noneA] at hb3
 obtain ⟨n_b3_b2, n_b3_b1, hb3⟩ := hb3
 refine Ops_quiet _ rfl rfl (QO.lenSl rfl sz22 rfl) ?_
 refine Ops_quiet _ rfl rfl (QO.move rfl rfl) ?_
 refine Ops_nil ?_
 refine thenA_n ?_
 refine wpA_block ?_
 obtain ⟨R1, hR, hm⟩ := Option.bind_eq_some_iff.1 hm
 obtain ⟨k1, hk1⟩ := loopV_some hR
 clear hR
 refine wpA_mono (Q := fun e s' h' => match (generalizing := false) R1 with | .stop x id => e = .exit id ∧ ∃ (x1 : (List Int)) (x2 : Int) (b4 cap_b4 : Nat), (x1, x2) = x ∧ (upd (upd (h) b1 (.own 28 (sqC a0) 101)) b3 (.own 5 (ints .u8 r1) (cap_b3 * 1))) b4 = none ∧ x1.length ≤ cap_b4 ∧ cap_b4 ≤ maxLen ∧ Sub s' [(1, .pointer (some ⟨b1, 0, none⟩)), (3, .slice (some ⟨b4, 0, none⟩) x1.length cap_b4), (10, .slice (some ⟨b3, 0, none⟩) r1.length cap_b3), (11, .int .i64 ((r1.length : Nat) : Int)), (12, .int .i64 x2)] ∧ Le (upd (upd (upd (h) b1 (.own 28 (sqC a0) 101)) b3 (.own 5 (ints .u8 r1) (cap_b3 * 1))) b4 (.own 5 (ints .u8 x1) (cap_b4 * 1))) h' | .ret r => False | .next _ => False) ?_ ?_
 ·refine wpA_loop (fun k s' h' => ∃ (x1 : (List Int)) (x2 : Int) (b4 cap_b4 : Nat), loopW (m_impl_squareText_l0 a0 r1) k (x1, x2) = some R1 ∧ (upd (upd (h) b1 (.own 28 (sqC a0) 101)) b3 (.own 5 (ints .u8 r1) (cap_b3 * 1))) b4 = none ∧ x1.length ≤ cap_b4 ∧ cap_b4 ≤ maxLen ∧ Sub s' [(1, .pointer (some ⟨b1, 0, none⟩)), (3, .slice (some ⟨b4, 0, none⟩) x1.length cap_b4), (10, .slice (some ⟨b3, 0, none⟩) r1.length cap_b3), (11, .int .i64 ((r1.length : Nat) : Int)), (12, .int .i64 x2)] ∧ Le (upd (upd (upd (h) b1 (.own 28 (sqC a0) 101)) b3 (.own 5 (ints .u8 r1) (cap_b3 * 1))) b4 (.own 5 (ints .u8 x1) (cap_b4 * 1))) h') (m := k1) ⟨[], 0, b2, 0, hk1, (none_upd n_b3_b2.ne.symm (none_upd n_b2_b1.ne hb2)), (by first | assumption | (simp; done) | omega), (by first | assumption | (simp only [maxLen]; omega)), (Sub.cons rfl (Sub.cons rfl (Sub.cons rfl (Sub.cons rfl (Sub.cons rfl Sub.nil))))), (Le.upd_left (Le.upd_left (Le.upd_left (Le.under (Le.under (Le.under (Le.refl _) hb1) hb2) hb3) ((upd_ne _ _ n_b3_b1.ne.symm).trans ((upd_ne _ _ n_b2_b1.ne.symm).trans (upd_same _ _ _))) (by first | rfl | (simp; done))) (upd_same _ _ _) (by first | rfl | (simp; done))) ((upd_ne _ _ n_b3_b2.ne.symm).trans (upd_same _ _ _)) (by first | rfl | (simp; done)))⟩ ?_
  rintro k1 s' h' ⟨x1, x2, b4, cap_b4, hk1, hb4, hk_b4, hc_b4, hsub, hle⟩
  refine wpA_weaken hsub.ok hle ?_
  clear hsub hle s' h'
  simp only [upd_noneA] at hb4
  obtain ⟨n_b4_b3, n_b4_b1, hb4⟩ := hb4
  cases k1 with
  | zero => exact absurd hk1 (by simp [loopW])
  | succ k1 =>
   obtain ⟨o1, ho1, hk1⟩ := loopW_succ hk1
   unfold m_impl_squareText_l0 at ho1
   try dsimp only at ho1
   refine wpA_seq ?_
   refine wpA_region ?_
   refine Ops_quiet _ rfl rfl (QO.bin rfl rfl rfl rfl) ?_
   refine Ops_nil ?_
   refine thenA_n ?_
   refine wpA_seq ?_
   refine wpA_cond rfl (fun g1 => ?_) (fun g1 => ?_)
   ·replace ho1 := cond_t ho1 g1
    refine wpA_skip ?_
    refine thenA_n ?_
    refine wpA_seq ?_
    refine wpA_block ?_
    refine wpA_seq ?_
    refine wpA_region ?_
    have hq := chk ho1; clear ho1; obtain ⟨ck1, ho1⟩ := hq
    refine Ops_quiet _ rfl rfl (QO.idxSl rfl sz22 sz5 rfl rfl (by omega) (by omega)) ?_
    refine Ops_quiet _ rfl rfl (QO.load rfl sz5 rfl rfl (by (refine (rd_own ((upd_ne _ _ n_b4_b3.ne.symm).trans (upd_same _ _ _)) _).trans ?_); exact ints_get01 (by first | omega | (simp only [List.length_cons, List.length_nil]; omega)))) ?_
    refine Ops_quiet _ rfl rfl (QO.assign rfl rfl) ?_
    refine Ops_nil ?_
    refine thenA_n ?_
    refine wpA_seq ?_
    refine wpA_seq ?_
    refine wpA_region ?_
    refine Ops_quiet _ rfl rfl (QO.move rfl rfl) ?_
    refine Ops_quiet _ rfl rfl (QO.bin rfl rfl rfl rfl) ?_
    refine Ops_nil ?_
    refine thenA_n ?_
    refine wpA_cond rfl (fun g2 => ?_) (fun g2 => ?_)
    ·replace ho1 := cond_t ho1 g2
     refine wpA_region ?_
     refine Ops_quiet _ rfl rfl (QO.move rfl rfl) ?_
     refine Ops_loud rfl (LO.slice1 (r := ints .u8 [47]) rfl sz22 sz5 zr5 (by first | rfl | (simp [rowsC_length, rowsA_length, mpC_length, sqC_length, tbC_length, tabI_length, tabB_length, ints_length, plsC_length, trC_length, sqsC_length, strsC_length, boolsC_length, tbB_length, List.length_append, List.length_cons, List.length_nil, List.length_set, List.length_replicate, rep_length]; done)) (by decide) (by decide) rfl rfl (by first | rfl | (simp [rowsC_length, rowsA_length, mpC_length, sqC_length, tbC_length, tabI_length, tabB_length, ints_length, plsC_length, trC_length, sqsC_length, strsC_length, boolsC_length, tbB_length, List.length_append, List.length_cons, List.length_nil, List.length_set, List.length_replicate, rep_length]; done)) rfl (fun b5 hb5 => ?_))
     simp only [upd_noneA] at hb5
     obtain ⟨n_b5_b4, n_b5_b3, n_b5_b1, hb5⟩ := hb5
     have hq := chk ho1; clear ho1; obtain ⟨ck2, ho1⟩ := hq
     refine Ops_loud rfl (LO.append2 (ys := ints .u8 [47]) (k' := (x1 ++ [47]).length) (xs' := ints .u8 (x1 ++ [47])) rfl sz22 el5 rfl rfl (Del.drop n_b5_b4.ne (none_upd n_b5_b3.ne (none_upd n_b5_b1.ne hb5)) (Del.here (none_upd n_b4_b3.ne (none_upd n_b4_b1.ne hb4)))) (by first | assumption | omega) (by first | assumption | (simp only [maxLen]; omega)) (by first | rfl | (simp [rowsC_length, rowsA_length, mpC_length, sqC_length, tbC_length, tabI_length, tabB_length, ints_length, plsC_length, trC_length, sqsC_length, strsC_length, boolsC_length, tbB_length, List.length_append, List.length_cons, List.length_nil, List.length_set, List.length_replicate, rep_length]; done) | (simp [rowsC_length, rowsA_length, mpC_length, sqC_length, tbC_length, tabI_length, tabB_length, ints_length, plsC_length, trC_length, sqsC_length, strsC_length, boolsC_length, tbB_length, List.length_append, List.length_cons, List.length_nil, List.length_set, List.length_replicate, rep_length]; omega)) (by first | rfl | (simp [rowsC_length, rowsA_length, mpC_length, sqC_length, tbC_length, tabI_length, tabB_length, ints_length, plsC_length, trC_length, sqsC_length, strsC_length, boolsC_length, tbB_length, List.length_append, List.length_cons, List.length_nil, List.length_set, List.length_replicate, rep_length]; done) | (simp [rowsC_length, rowsA_length, mpC_length, sqC_length, tbC_length, tabI_length, tabB_length, ints_length, plsC_length, trC_length, sqsC_length, strsC_length, boolsC_length, tbB_length, List.length_append, List.length_cons, List.length_nil, List.length_set, List.length_replicate, rep_length]; omega)) (RdS.own (upd_same _ _ _)) (by first | assumption | exact tabI_one _ _ _ | exact tbC_one _ | exact sqC_one _ | exact tabB_one _ _ | exact ints_one _ _ | exact plsC_one _ | exact strsC_one _ | exact srcC_one _ _ _ _ | (intro v hv; simp at hv; subst hv; rfl)) (by decide) (by omega) (by decide) (by decide) rfl (by first | rfl | (simp [rowsC_length, rowsA_length, mpC_length, sqC_length, tbC_length, tabI_length, tabB_length, ints_length, plsC_length, trC_length, sqsC_length, strsC_length, boolsC_length, tbB_length, List.length_append, List.length_cons, List.length_nil, List.length_set, List.length_replicate, rep_length]; done) | (simp [rowsC_length, rowsA_length, mpC_length, sqC_length, tbC_length, tabI_length, tabB_length, ints_length, plsC_length, trC_length, sqsC_length, strsC_length, boolsC_length, tbB_length, List.length_append, List.length_cons, List.length_nil, List.length_set, List.length_replicate, rep_length]; omega)) (by first | rfl | (simp [ints, plsC, sqsC, boolsC, strsC]; done)) (fun b6 cap_b6 hb6 hk_b6 hc_b6 => ?_))
     simp only [upd_noneA] at hb6
     obtain ⟨n_b6_b3, n_b6_b1, hb6⟩ := hb6
     refine Ops_quiet _ rfl rfl (QO.assign rfl rfl) ?_
     refine Ops_nil ?_
     refine thenA_n ?_
     refine wpA_seq ?_
     refine wpA_region ?_
     refine Ops_quiet _ rfl rfl (QO.loadRow (cs := sqC a0) (hr := (rdAll ((upd_ne _ _ n_b6_b1.ne.symm).trans ((upd_ne _ _ n_b3_b1.ne.symm).trans (upd_same _ _ _))))) rfl sz28 rfl rfl (sqC_length _)) ?_
     have hq := Option.bind_eq_some_iff.1 ho1; clear ho1; obtain ⟨r2, hr2, ho1⟩ := hq
     refine Ops_call _ _ rfl rfl (EO.fn rfl Try.func44 rfl rfl (Evs.cons rfl Evs.nil)) (CC.mono (c_impl_Square_elements hr2 ) ?_)
     rintro _ _ ⟨b7, cap_b7, rfl, hb7, hk_b7, hc_b7, rfl⟩
     simp only [upd_noneA] at hb7
     obtain ⟨n_b7_b6, n_b7_b3, n_b7_b1, hb7⟩ := hb7
     refine Ops_quiet _ rfl rfl (QO.lenSl rfl sz22 rfl) ?_
     refine Ops_quiet _ rfl rfl (QO.move rfl rfl) ?_
     refine Ops_nil ?_
     refine thenA_n ?_
     refine wpA_block ?_
     obtain ⟨R2, hR, ho1⟩ := Option.bind_eq_some_iff.1 ho1
     obtain ⟨k2, hk2⟩ := loopV_some hR
     clear hR
     refine wpA_mono (Q := fun e s' h' => match (generalizing := false) R2 with | .stop x id => e = .exit id ∧ ∃ (x3 : (List Int)) (x4 : Int) (b8 cap_b8 : Nat), (x3, x4) = x ∧ (upd (upd (upd (h) b1 (.own 28 (sqC a0) 101)) b3 (.own 5 (ints .u8 r1) (cap_b3 * 1))) b7 (.own 5 (ints .u8 r2) (cap_b7 * 1))) b8 = none ∧ x3.length ≤ cap_b8 ∧ cap_b8 ≤ maxLen ∧ Sub s' [(1, .pointer (some ⟨b1, 0, none⟩)), (3, .slice (some ⟨b8, 0, none⟩) x3.length cap_b8), (5, .int .u8 (r1.getD (x2).toNat 0)), (10, .slice (some ⟨b3, 0, none⟩) r1.length cap_b3), (11, .int .i64 ((r1.length : Nat) : Int)), (12, .int .i64 x2), (22, .slice (some ⟨b7, 0, none⟩) r2.length cap_b7), (23, .int .i64 ((r2.length : Nat) : Int)), (24, .int .i64 x4)] ∧ Le (upd (upd (upd (upd (h) b1 (.own 28 (sqC a0) 101)) b3 (.own 5 (ints .u8 r1) (cap_b3 * 1))) b7 (.own 5 (ints .u8 r2) (cap_b7 * 1))) b8 (.own 5 (ints .u8 x3) (cap_b8 * 1))) h' | .ret r => False | .next _ => False) ?_ ?_
     ·refine wpA_loop (fun k s' h' => ∃ (x3 : (List Int)) (x4 : Int) (b8 cap_b8 : Nat), loopW (m_impl_squareText_l1 a0 r1 x2 r2) k (x3, x4) = some R2 ∧ (upd (upd (upd (h) b1 (.own 28 (sqC a0) 101)) b3 (.own 5 (ints .u8 r1) (cap_b3 * 1))) b7 (.own 5 (ints .u8 r2) (cap_b7 * 1))) b8 = none ∧ x3.length ≤ cap_b8 ∧ cap_b8 ≤ maxLen ∧ Sub s' [(1, .pointer (some ⟨b1, 0, none⟩)), (3, .slice (some ⟨b8, 0, none⟩) x3.length cap_b8), (5, .int .u8 (r1.getD (x2).toNat 0)), (10, .slice (some ⟨b3, 0, none⟩) r1.length cap_b3), (11, .int .i64 ((r1.length : Nat) : Int)), (12, .int .i64 x2), (22, .slice (some ⟨b7, 0, none⟩) r2.length cap_b7), (23, .int .i64 ((r2.length : Nat) : Int)), (24, .int .i64 x4)] ∧ Le (upd (upd (upd (upd (h) b1 (.own 28 (sqC a0) 101)) b3 (.own 5 (ints .u8 r1) (cap_b3 * 1))) b7 (.own 5 (ints .u8 r2) (cap_b7 * 1))) b8 (.own 5 (ints .u8 x3) (cap_b8 * 1))) h') (m := k2) ⟨(x1 ++ [47]), 0, b6, cap_b6, hk2, (none_upd n_b7_b6.ne.symm (none_upd n_b6_b3.ne (none_upd n_b6_b1.ne hb6))), (by first | assumption | (simp; done) | omega), (by first | assumption | (simp only [maxLen]; omega)), (Sub.cons rfl (Sub.cons rfl (Sub.cons rfl (Sub.cons rfl (Sub.cons rfl (Sub.cons rfl (Sub.cons rfl (Sub.cons rfl (Sub.cons rfl Sub.nil))))))))), (Le.upd_left (Le.upd_left (Le.upd_left (Le.upd_left (Le.under (Le.under (Le.under (Le.under (Le.refl _) hb1) hb3) hb6) hb7) ((upd_ne _ _ n_b7_b1.ne.symm).trans ((upd_ne _ _ n_b6_b1.ne.symm).trans ((upd_ne _ _ n_b3_b1.ne.symm).trans (upd_same _ _ _)))) (by first | rfl | (simp; done))) ((upd_ne _ _ n_b7_b3.ne.symm).trans ((upd_ne _ _ n_b6_b3.ne.symm).trans (upd_same _ _ _))) (by first | rfl | (simp; done))) (upd_same _ _ _) (by first | rfl | (simp; done))) ((upd_ne _ _ n_b7_b6.ne.symm).trans (upd_same _ _ _)) (by first | rfl | (simp; done)))⟩ ?_
      rintro k2 s' h' ⟨x3, x4, b8, cap_b8, hk2, hb8, hk_b8, hc_b8, hsub, hle⟩
      refine wpA_weaken hsub.ok hle ?_
      clear hsub hle s' h'
      simp only [upd_noneA] at hb8
      obtain ⟨n_b8_b7, n_b8_b3, n_b8_b1, hb8⟩ := hb8
      cases k2 with
      | zero => exact absurd hk2 (by simp [loopW])
      | succ k2 =>
       obtain ⟨o2, ho2, hk2⟩ := loopW_succ hk2
       unfold m_impl_squareText_l1 at ho2
       try dsimp only at ho2
       refine wpA_seq ?_
       refine wpA_region ?_
       refine Ops_quiet _ rfl rfl (QO.bin rfl rfl rfl rfl) ?_
       refine Ops_nil ?_
       refine thenA_n ?_
       refine wpA_seq ?_
       refine wpA_cond rfl (fun g3 => ?_) (fun g3 => ?_)
       ·replace ho2 := cond_t ho2 g3
        refine wpA_skip ?_
        refine thenA_n ?_
        refine wpA_seq ?_
        refine wpA_block ?_
        refine wpA_seq ?_
        refine wpA_region ?_
        have hq := chk ho2; clear ho2; obtain ⟨ck3, ho2⟩ := hq
        refine Ops_quiet _ rfl rfl (QO.idxSl rfl sz22 sz5 rfl rfl (by omega) (by omega)) ?_
        refine Ops_quiet _ rfl rfl (QO.load rfl sz5 rfl rfl (by (refine (rd_own ((upd_ne _ _ n_b8_b7.ne.symm).trans (upd_same _ _ _)) _).trans ?_); exact ints_get01 (by first | omega | (simp only [List.length_cons, List.length_nil]; omega)))) ?_
        refine Ops_quiet _ rfl rfl (QO.assign rfl rfl) ?_
        refine Ops_nil ?_
        refine thenA_n ?_
        refine wpA_region ?_
        refine Ops_quiet _ rfl rfl (QO.move rfl rfl) ?_
        refine Ops_quiet _ rfl rfl (QO.move rfl rfl) ?_
        refine Ops_quiet _ rfl rfl (QO.move rfl rfl) ?_
        refine Ops_quiet _ rfl rfl (QO.fieldAt (fo := 1) rfl sz28 rfl rfl sz26 rfl rfl) ?_
        have hq := chk ho2; clear ho2; obtain ⟨ck4, ho2⟩ := hq
        refine Ops_quiet _ rfl rfl (QO.idxArr rfl sz26 sz24 rfl rfl (by omega) (by omega)) ?_
        have hq := chk ho2; clear ho2; obtain ⟨ck5, ho2⟩ := hq
        refine Ops_quiet _ rfl rfl (QO.idxArr rfl sz24 sz5 rfl rfl (by omega) (by omega)) ?_
        refine Ops_quiet _ rfl rfl (QO.load rfl sz5 rfl rfl (by (refine (rd_own ((upd_ne _ _ n_b8_b1.ne.symm).trans ((upd_ne _ _ n_b7_b1.ne.symm).trans ((upd_ne _ _ n_b3_b1.ne.symm).trans (upd_same _ _ _)))) _).trans ?_); exact sqC_get (by omega) (by omega))) ?_
        refine Ops_quiet _ rfl rfl (QO.bin rfl rfl rfl rfl) ?_
        refine Ops_loud rfl (LO.slice1 (r := ints .u8 [(IntKind.u8.wrap (48 + ((a0.t ((r1.getD (x2).toNat 0)).toNat) ((r2.getD (x4).toNat 0)).toNat)))]) rfl sz22 sz5 zr5 (by first | rfl | (simp [rowsC_length, rowsA_length, mpC_length, sqC_length, tbC_length, tabI_length, tabB_length, ints_length, plsC_length, trC_length, sqsC_length, strsC_length, boolsC_length, tbB_length, List.length_append, List.length_cons, List.length_nil, List.length_set, List.length_replicate, rep_length]; done)) (by decide) (by decide) rfl rfl (by first | rfl | (simp [rowsC_length, rowsA_length, mpC_length, sqC_length, tbC_length, tabI_length, tabB_length, ints_length, plsC_length, trC_length, sqsC_length, strsC_length, boolsC_length, tbB_length, List.length_append, List.length_cons, List.length_nil, List.length_set, List.length_replicate, rep_length]; done)) rfl (fun b9 hb9 => ?_))
        simp only [upd_noneA] at hb9
        obtain ⟨n_b9_b8, n_b9_b7, n_b9_b3, n_b9_b1, hb9⟩ := hb9
        have hq := chk ho2; clear ho2; obtain ⟨ck6, ho2⟩ := hq
        refine Ops_loud rfl (LO.append2 (ys := ints .u8 [(IntKind.u8.wrap (48 + ((a0.t ((r1.getD (x2).toNat 0)).toNat) ((r2.getD (x4).toNat 0)).toNat)))]) (k' := (x3 ++ [(IntKind.u8.wrap (48 + ((a0.t ((r1.getD (x2).toNat 0)).toNat) ((r2.getD (x4).toNat 0)).toNat)))]).length) (xs' := ints .u8 (x3 ++ [(IntKind.u8.wrap (48 + ((a0.t ((r1.getD (x2).toNat 0)).toNat) ((r2.getD (x4).toNat 0)).toNat)))])) rfl sz22 el5 rfl rfl (Del.drop n_b9_b8.ne (none_upd n_b9_b7.ne (none_upd n_b9_b3.ne (none_upd n_b9_b1.ne hb9))) (Del.here (none_upd n_b8_b7.ne (none_upd n_b8_b3.ne (none_upd n_b8_b1.ne hb8))))) (by first | assumption | omega) (by first | assumption | (simp only [maxLen]; omega)) (by first | rfl | (simp [rowsC_length, rowsA_length, mpC_length, sqC_length, tbC_length, tabI_length, tabB_length, ints_length, plsC_length, trC_length, sqsC_length, strsC_length, boolsC_length, tbB_length, List.length_append, List.length_cons, List.length_nil, List.length_set, List.length_replicate, rep_length]; done) | (simp [rowsC_length, rowsA_length, mpC_length, sqC_length, tbC_length, tabI_length, tabB_length, ints_length, plsC_length, trC_length, sqsC_length, strsC_length, boolsC_length, tbB_length, List.length_append, List.length_cons, List.length_nil, List.length_set, List.length_replicate, rep_length]; omega)) (by first | rfl | (simp [rowsC_length, rowsA_length, mpC_length, sqC_length, tbC_length, tabI_length, tabB_length, ints_length, plsC_length, trC_length, sqsC_length, strsC_length, boolsC_length, tbB_length, List.length_append, List.length_cons, List.length_nil, List.length_set, List.length_replicate, rep_length]; done) | (simp [rowsC_length, rowsA_length, mpC_length, sqC_length, tbC_length, tabI_length, tabB_length, ints_length, plsC_length, trC_length, sqsC_length, strsC_length, boolsC_length, tbB_length, List.length_append, List.length_cons, List.length_nil, List.length_set, List.length_replicate, rep_length]; omega)) (RdS.own (upd_same _ _ _)) (by first | assumption | exact tabI_one _ _ _ | exact tbC_one _ | exact sqC_one _ | exact tabB_one _ _ | exact ints_one _ _ | exact plsC_one _ | exact strsC_one _ | exact srcC_one _ _ _ _ | (intro v hv; simp at hv; subst hv; rfl)) (by decide) (by omega) (by decide) (by decide) rfl (by first | rfl | (simp [rowsC_length, rowsA_length, mpC_length, sqC_length, tbC_length, tabI_length, tabB_length, ints_length, plsC_length, trC_length, sqsC_length, strsC_length, boolsC_length, tbB_length, List.length_append, List.length_cons, List.length_nil, List.length_set, List.length_replicate, rep_length]; done) | (simp [rowsC_length, rowsA_length, mpC_length, sqC_length, tbC_length, tabI_length, tabB_length, ints_length, plsC_length, trC_length, sqsC_length, strsC_length, boolsC_length, tbB_length, List.length_append, List.length_cons, List.length_nil, List.length_set, List.length_replicate, rep_length]; omega)) (by first | rfl | (simp [ints, plsC, sqsC, boolsC, strsC]; done)) (fun b10 cap_b10 hb10 hk_b10 hc_b10 => ?_))
        simp only [upd_noneA] at hb10
        obtain ⟨n_b10_b7, n_b10_b3, n_b10_b1, hb10⟩ := hb10
        refine Ops_quiet _ rfl rfl (QO.assign rfl rfl) ?_
        refine Ops_nil ?_
        refine blockA_n ?_
        refine thenA_n ?_
        refine wpA_region ?_
        refine Ops_quiet _ rfl rfl (QO.bin rfl rfl rfl rfl) ?_
        refine Ops_quiet _ rfl rfl (QO.move rfl rfl) ?_
        refine Ops_nil ?_
        obtain rfl := Option.some.inj ho2
        dsimp only at hk2
        exact thenA_n ⟨k2, Nat.lt_succ_self _, _, _, b10, cap_b10, hk2, (none_upd n_b10_b7.ne (none_upd n_b10_b3.ne (none_upd n_b10_b1.ne hb10))), (by first | assumption | (simp; done) | omega), (by first | assumption | (simp only [maxLen]; omega)), (Sub.cons rfl (Sub.cons rfl (Sub.cons rfl (Sub.cons rfl (Sub.cons rfl (Sub.cons rfl (Sub.cons rfl (Sub.cons rfl (Sub.cons rfl Sub.nil))))))))), (Le.upd_left (Le.upd_left (Le.upd_left (Le.upd_left (Le.under (Le.under (Le.under (Le.under (Le.refl _) hb1) hb3) hb7) hb10) ((upd_ne _ _ n_b10_b1.ne.symm).trans ((upd_ne _ _ n_b7_b1.ne.symm).trans ((upd_ne _ _ n_b3_b1.ne.symm).trans (upd_same _ _ _)))) (by first | rfl | (simp; done))) ((upd_ne _ _ n_b10_b3.ne.symm).trans ((upd_ne _ _ n_b7_b3.ne.symm).trans (upd_same _ _ _))) (by first | rfl | (simp; done))) ((upd_ne _ _ n_b10_b7.ne.symm).trans (upd_same _ _ _)) (by first | rfl | (simp; done))) (upd_same _ _ _) (by first | rfl | (simp; done)))⟩
       ·replace ho2 := cond_f ho2 g3
        refine wpA_exit ?_
        refine thenA_e ?_
        refine thenA_e ?_
        obtain rfl := Option.some.inj ho2
        obtain rfl := Option.some.inj hk2
        exact ⟨rfl, _, _, b8, cap_b8, rfl, (none_upd n_b8_b7.ne (none_upd n_b8_b3.ne (none_upd n_b8_b1.ne hb8))), (by first | assumption | (simp; done) | omega), (by first | assumption | (simp only [maxLen]; omega)), (Sub.cons rfl (Sub.cons rfl (Sub.cons rfl (Sub.cons rfl (Sub.cons rfl (Sub.cons rfl (Sub.cons rfl (Sub.cons rfl (Sub.cons rfl Sub.nil))))))))), (Le.upd_left (Le.upd_left (Le.upd_left (Le.upd_left (Le.under (Le.under (Le.under (Le.under (Le.refl _) hb1) hb3) hb7) hb8) ((upd_ne _ _ n_b8_b1.ne.symm).trans ((upd_ne _ _ n_b7_b1.ne.symm).trans ((upd_ne _ _ n_b3_b1.ne.symm).trans (upd_same _ _ _)))) (by first | rfl | (simp; done))) ((upd_ne _ _ n_b8_b3.ne.symm).trans ((upd_ne _ _ n_b7_b3.ne.symm).trans (upd_same _ _ _))) (by first | rfl | (simp; done))) ((upd_ne _ _ n_b8_b7.ne.symm).trans (upd_same _ _ _)) (by first | rfl | (simp; done))) (upd_same _ _ _) (by first | rfl | (simp; done)))⟩
     ·intro e s' h' hq
      cases R2 with
      | next x => exact hq.elim
      | ret r => exact hq.elim
      | stop x id =>
       obtain ⟨rfl, x5, x6, b11, cap_b11, rfl, hb11, hk_b11, hc_b11, hsub1, hle1⟩ := hq
       try dsimp only at ho1
       simp only [upd_noneA] at hb11
       obtain ⟨n_b11_b7, n_b11_b3, n_b11_b1, hb11⟩ := hb11
       by_cases hid1 : id = 2
       ·subst hid1
        rw [if_pos rfl] at ho1
        refine blockA_s ?_
        refine blockA_n ?_
        refine thenA_n ?_
        refine wpA_weaken hsub1.ok hle1 ?_
        refine wpA_region ?_
        refine Ops_quiet _ rfl rfl (QO.bin rfl rfl rfl rfl) ?_
        refine Ops_quiet _ rfl rfl (QO.move rfl rfl) ?_
        refine Ops_nil ?_
        obtain rfl := Option.some.inj ho1
        dsimp only at hk1
        exact thenA_n ⟨k1, Nat.lt_succ_self _, _, _, b11, cap_b11, hk1, (none_upd n_b11_b3.ne (none_upd n_b11_b1.ne hb11)), (by first | assumption | (simp; done) | omega), (by first | assumption | (simp only [maxLen]; omega)), (Sub.cons rfl (Sub.cons rfl (Sub.cons rfl (Sub.cons rfl (Sub.cons rfl Sub.nil))))), (Le.upd_left (Le.upd_left (Le.upd_left (Le.under (Le.under (Le.under (Le.under (Le.refl _) hb1) hb3) hb7) hb11) ((upd_ne _ _ n_b11_b1.ne.symm).trans ((upd_ne _ _ n_b7_b1.ne.symm).trans ((upd_ne _ _ n_b3_b1.ne.symm).trans (upd_same _ _ _)))) (by first | rfl | (simp; done))) ((upd_ne _ _ n_b11_b3.ne.symm).trans ((upd_ne _ _ n_b7_b3.ne.symm).trans (upd_same _ _ _))) (by first | rfl | (simp; done))) (upd_same _ _ _) (by first | rfl | (simp; done)))⟩
       rw [if_neg hid1] at ho1
       exact absurd ho1 (by simp)
    ·replace ho1 := cond_f ho1 g2
     refine wpA_skip ?_
     refine thenA_n ?_
     refine wpA_seq ?_
     refine wpA_region ?_
     refine Ops_quiet _ rfl rfl (QO.loadRow (cs := sqC a0) (hr := (rdAll ((upd_ne _ _ n_b4_b1.ne.symm).trans ((upd_ne _ _ n_b3_b1.ne.symm).trans (upd_same _ _ _))))) rfl sz28 rfl rfl (sqC_length _)) ?_
     have hq := Option.bind_eq_some_iff.1 ho1; clear ho1; obtain ⟨r3, hr3, ho1⟩ := hq
     refine Ops_call _ _ rfl rfl (EO.fn rfl Try.func44 rfl rfl (Evs.cons rfl Evs.nil)) (CC.mono (c_impl_Square_elements hr3 ) ?_)
     rintro _ _ ⟨b12, cap_b12, rfl, hb12, hk_b12, hc_b12, rfl⟩
     simp only [upd_noneA] at hb12
     obtain ⟨n_b12_b4, n_b12_b3, n_b12_b1, hb12⟩ := hb12
     refine Ops_quiet _ rfl rfl (QO.lenSl rfl sz22 rfl) ?_
     refine Ops_quiet _ rfl rfl (QO.move rfl rfl) ?_
     refine Ops_nil ?_
     refine thenA_n ?_
     refine wpA_block ?_
     obtain ⟨R3, hR, ho1⟩ := Option.bind_eq_some_iff.1 ho1
     obtain ⟨k3, hk3⟩ := loopV_some hR
     clear hR
     refine wpA_mono (Q := fun e s' h' => match (generalizing := false) R3 with | .stop x id => e = .exit id ∧ ∃ (x7 : (List Int)) (x8 : Int) (b13 cap_b13 : Nat), (x7, x8) = x ∧ (upd (upd (upd (h) b1 (.own 28 (sqC a0) 101)) b3 (.own 5 (ints .u8 r1) (cap_b3 * 1))) b12 (.own 5 (ints .u8 r3) (cap_b12 * 1))) b13 = none ∧ x7.length ≤ cap_b13 ∧ cap_b13 ≤ maxLen ∧ Sub s' [(1, .pointer (some ⟨b1, 0, none⟩)), (3, .slice (some ⟨b13, 0, none⟩) x7.length cap_b13), (5, .int .u8 (r1.getD (x2).toNat 0)), (10, .slice (some ⟨b3, 0, none⟩) r1.length cap_b3), (11, .int .i64 ((r1.length : Nat) : Int)), (12, .int .i64 x2), (22, .slice (some ⟨b12, 0, none⟩) r3.length cap_b12), (23, .int .i64 ((r3.length : Nat) : Int)), (24, .int .i64 x8)] ∧ Le (upd (upd (upd (upd (h) b1 (.own 28 (sqC a0) 101)) b3 (.own 5 (ints .u8 r1) (cap_b3 * 1))) b12 (.own 5 (ints .u8 r3) (cap_b12 * 1))) b13 (.own 5 (ints .u8 x7) (cap_b13 * 1))) h' | .ret r => False | .next _ => False) ?_ ?_
     ·refine wpA_loop (fun k s' h' => ∃ (x7 : (List Int)) (x8 : Int) (b13 cap_b13 : Nat), loopW (m_impl_squareText_l2 a0 r1 x2 r3) k (x7, x8) = some R3 ∧ (upd (upd (upd (h) b1 (.own 28 (sqC a0) 101)) b3 (.own 5 (ints .u8 r1) (cap_b3 * 1))) b12 (.own 5 (ints .u8 r3) (cap_b12 * 1))) b13 = none ∧ x7.length ≤ cap_b13 ∧ cap_b13 ≤ maxLen ∧ Sub s' [(1, .pointer (some ⟨b1, 0, none⟩)), (3, .slice (some ⟨b13, 0, none⟩) x7.length cap_b13), (5, .int .u8 (r1.getD (x2).toNat 0)), (10, .slice (some ⟨b3, 0, none⟩) r1.length cap_b3), (11, .int .i64 ((r1.length : Nat) : Int)), (12, .int .i64 x2), (22, .slice (some ⟨b12, 0, none⟩) r3.length cap_b12), (23, .int .i64 ((r3.length : Nat) : Int)), (24, .int .i64 x8)] ∧ Le (upd (upd (upd (upd (h) b1 (.own 28 (sqC a0) 101)) b3 (.own 5 (ints .u8 r1) (cap_b3 * 1))) b12 (.own 5 (ints .u8 r3) (cap_b12 * 1))) b13 (.own 5 (ints .u8 x7) (cap_b13 * 1))) h') (m := k3) ⟨x1, 0, b4, cap_b4, hk3, (none_upd n_b12_b4.ne.symm (none_upd n_b4_b3.ne (none_upd n_b4_b1.ne hb4))), (by first | assumption | (simp; done) | omega), (by first | assumption | (simp only [maxLen]; omega)), (Sub.cons rfl (Sub.cons rfl (Sub.cons rfl (Sub.cons rfl (Sub.cons rfl (Sub.cons rfl (Sub.cons rfl (Sub.cons rfl (Sub.cons rfl Sub.nil))))))))), (Le.upd_left (Le.upd_left (Le.upd_left (Le.upd_left (Le.under (Le.under (Le.under (Le.under (Le.refl _) hb1) hb3) hb4) hb12) ((upd_ne _ _ n_b12_b1.ne.symm).trans ((upd_ne _ _ n_b4_b1.ne.symm).trans ((upd_ne _ _ n_b3_b1.ne.symm).trans (upd_same _ _ _)))) (by first | rfl | (simp; done))) ((upd_ne _ _ n_b12_b3.ne.symm).trans ((upd_ne _ _ n_b4_b3.ne.symm).trans (upd_same _ _ _))) (by first | rfl | (simp; done))) (upd_same _ _ _) (by first | rfl | (simp; done))) ((upd_ne _ _ n_b12_b4.ne.symm).trans (upd_same _ _ _)) (by first | rfl | (simp; done)))⟩ ?_
      rintro k3 s' h' ⟨x7, x8, b13, cap_b13, hk3, hb13, hk_b13, hc_b13, hsub, hle⟩
      refine wpA_weaken hsub.ok hle ?_
      clear hsub hle s' h'
      simp only [upd_noneA] at hb13
      obtain ⟨n_b13_b12, n_b13_b3, n_b13_b1, hb13⟩ := hb13
      cases k3 with
      | zero => exact absurd hk3 (by simp [loopW])
      | succ k3 =>
       obtain ⟨o3, ho3, hk3⟩ := loopW_succ hk3
       unfold m_impl_squareText_l2 at ho3
       try dsimp only at ho3
       refine wpA_seq ?_
       refine wpA_region ?_
       refine Ops_quiet _ rfl rfl (QO.bin rfl rfl rfl rfl) ?_
       refine Ops_nil ?_
       refine thenA_n ?_
       refine wpA_seq ?_
       refine wpA_cond rfl (fun g4 => ?_) (fun g4 => ?_)
       ·replace ho3 := cond_t ho3 g4
        refine wpA_skip ?_
        refine thenA_n ?_
        refine wpA_seq ?_
        refine wpA_block ?_
        refine wpA_seq ?_
        refine wpA_region ?_
        have hq := chk ho3; clear ho3; obtain ⟨ck7, ho3⟩ := hq
        refine Ops_quiet _ rfl rfl (QO.idxSl rfl sz22 sz5 rfl rfl (by omega) (by omega)) ?_
        refine Ops_quiet _ rfl rfl (QO.load rfl sz5 rfl rfl (by (refine (rd_own ((upd_ne _ _ n_b13_b12.ne.symm).trans (upd_same _ _ _)) _).trans ?_); exact ints_get01 (by first | omega | (simp only [List.length_cons, List.length_nil]; omega)))) ?_
        refine Ops_quiet _ rfl rfl (QO.assign rfl rfl) ?_
        refine Ops_nil ?_
        refine thenA_n ?_
        refine wpA_region ?_
        refine Ops_quiet _ rfl rfl (QO.move rfl rfl) ?_
        refine Ops_quiet _ rfl rfl (QO.move rfl rfl) ?_
        refine Ops_quiet _ rfl rfl (QO.move rfl rfl) ?_
        refine Ops_quiet _ rfl rfl (QO.fieldAt (fo := 1) rfl sz28 rfl rfl sz26 rfl rfl) ?_
        have hq := chk ho3; clear ho3; obtain ⟨ck8, ho3⟩ := hq
        refine Ops_quiet _ rfl rfl (QO.idxArr rfl sz26 sz24 rfl rfl (by omega) (by omega)) ?_
        have hq := chk ho3; clear ho3; obtain ⟨ck9, ho3⟩ := hq
        refine Ops_quiet _ rfl rfl (QO.idxArr rfl sz24 sz5 rfl rfl (by omega) (by omega)) ?_
        refine Ops_quiet _ rfl rfl (QO.load rfl sz5 rfl rfl (by (refine (rd_own ((upd_ne _ _ n_b13_b1.ne.symm).trans ((upd_ne _ _ n_b12_b1.ne.symm).trans ((upd_ne _ _ n_b3_b1.ne.symm).trans (upd_same _ _ _)))) _).trans ?_); exact sqC_get (by omega) (by omega))) ?_
        refine Ops_quiet _ rfl rfl (QO.bin rfl rfl rfl rfl) ?_
        refine Ops_loud rfl (LO.slice1 (r := ints .u8 [(IntKind.u8.wrap (48 + ((a0.t ((r1.getD (x2).toNat 0)).toNat) ((r3.getD (x8).toNat 0)).toNat)))]) rfl sz22 sz5 zr5 (by first | rfl | (simp [rowsC_length, rowsA_length, mpC_length, sqC_length, tbC_length, tabI_length, tabB_length, ints_length, plsC_length, trC_length, sqsC_length, strsC_length, boolsC_length, tbB_length, List.length_append, List.length_cons, List.length_nil, List.length_set, List.length_replicate, rep_length]; done)) (by decide) (by decide) rfl rfl (by first | rfl | (simp [rowsC_length, rowsA_length, mpC_length, sqC_length, tbC_length, tabI_length, tabB_length, ints_length, plsC_length, trC_length, sqsC_length, strsC_length, boolsC_length, tbB_length, List.length_append, List.length_cons, List.length_nil, List.length_set, List.length_replicate, rep_length]; done)) rfl (fun b14 hb14 => ?_))
        simp only [upd_noneA] at hb14
        obtain ⟨n_b14_b13, n_b14_b12, n_b14_b3, n_b14_b1, hb14⟩ := hb14
        have hq := chk ho3; clear ho3; obtain ⟨ck10, ho3⟩ := hq
        refine Ops_loud rfl (LO.append2 (ys := ints .u8 [(IntKind.u8.wrap (48 + ((a0.t ((r1.getD (x2).toNat 0)).toNat) ((r3.getD (x8).toNat 0)).toNat)))]) (k' := (x7 ++ [(IntKind.u8.wrap (48 + ((a0.t ((r1.getD (x2).toNat 0)).toNat) ((r3.getD (x8).toNat 0)).toNat)))]).length) (xs' := ints .u8 (x7 ++ [(IntKind.u8.wrap (48 + ((a0.t ((r1.getD (x2).toNat 0)).toNat) ((r3.getD (x8).toNat 0)).toNat)))])) rfl sz22 el5 rfl rfl (Del.drop n_b14_b13.ne (none_upd n_b14_b12.ne (none_upd n_b14_b3.ne (none_upd n_b14_b1.ne hb14))) (Del.here (none_upd n_b13_b12.ne (none_upd n_b13_b3.ne (none_upd n_b13_b1.ne hb13))))) (by first | assumption | omega) (by first | assumption | (simp only [maxLen]; omega)) (by first | rfl | (simp [rowsC_length, rowsA_length, mpC_length, sqC_length, tbC_length, tabI_length, tabB_length, ints_length, plsC_length, trC_length, sqsC_length, strsC_length, boolsC_length, tbB_length, List.length_append, List.length_cons, List.length_nil, List.length_set, List.length_replicate, rep_length]; done) | (simp [rowsC_length, rowsA_length, mpC_length, sqC_length, tbC_length, tabI_length, tabB_length, ints_length, plsC_length, trC_length, sqsC_length, strsC_length, boolsC_length, tbB_length, List.length_append, List.length_cons, List.length_nil, List.length_set, List.length_replicate, rep_length]; omega)) (by first | rfl | (simp [rowsC_length, rowsA_length, mpC_length, sqC_length, tbC_length, tabI_length, tabB_length, ints_length, plsC_length, trC_length, sqsC_length, strsC_length, boolsC_length, tbB_length, List.length_append, List.length_cons, List.length_nil, List.length_set, List.length_replicate, rep_length]; done) | (simp [rowsC_length, rowsA_length, mpC_length, sqC_length, tbC_length, tabI_length, tabB_length, ints_length, plsC_length, trC_length, sqsC_length, strsC_length, boolsC_length, tbB_length, List.length_append, List.length_cons, List.length_nil, List.length_set, List.length_replicate, rep_length]; omega)) (RdS.own (upd_same _ _ _)) (by first | assumption | exact tabI_one _ _ _ | exact tbC_one _ | exact sqC_one _ | exact tabB_one _ _ | exact ints_one _ _ | exact plsC_one _ | exact strsC_one _ | exact srcC_one _ _ _ _ | (intro v hv; simp at hv; subst hv; rfl)) (by decide) (by omega) (by decide) (by decide) rfl (by first | rfl | (simp [rowsC_length, rowsA_length, mpC_length, sqC_length, tbC_length, tabI_length, tabB_length, ints_length, plsC_length, trC_length, sqsC_length, strsC_length, boolsC_length, tbB_length, List.length_append, List.length_cons, List.length_nil, List.length_set, List.length_replicate, rep_length]; done) | (simp [rowsC_length, rowsA_length, mpC_length, sqC_length, tbC_length, tabI_length, tabB_length, ints_length, plsC_length, trC_length, sqsC_length, strsC_length, boolsC_length, tbB_length, List.length_append, List.length_cons, List.length_nil, List.length_set, List.length_replicate, rep_length]; omega)) (by first | rfl | (simp [ints, plsC, sqsC, boolsC, strsC]; done)) (fun b15 cap_b15 hb15 hk_b15 hc_b15 => ?_))
        simp only [upd_noneA] at hb15
        obtain ⟨n_b15_b12, n_b15_b3, n_b15_b1, hb15⟩ := hb15
        refine Ops_quiet _ rfl rfl (QO.assign rfl rfl) ?_
        refine Ops_nil ?_
        refine blockA_n ?_
        refine thenA_n ?_
        refine wpA_region ?_
        refine Ops_quiet _ rfl rfl (QO.bin rfl rfl rfl rfl) ?_
        refine Ops_quiet _ rfl rfl (QO.move rfl rfl) ?_
        refine Ops_nil ?_
        obtain rfl := Option.some.inj ho3
        dsimp only at hk3
        exact thenA_n ⟨k3, Nat.lt_succ_self _, _, _, b15, cap_b15, hk3, (none_upd n_b15_b12.ne (none_upd n_b15_b3.ne (none_upd n_b15_b1.ne hb15))), (by first | assumption | (simp; done) | omega), (by first | assumption | (simp only [maxLen]; omega)), (Sub.cons rfl (Sub.cons rfl (Sub.cons rfl (Sub.cons rfl (Sub.cons rfl (Sub.cons rfl (Sub.cons rfl (Sub.cons rfl (Sub.cons rfl Sub.nil))))))))), (Le.upd_left (Le.upd_left (Le.upd_left (Le.upd_left (Le.under (Le.under (Le.under (Le.under (Le.refl _) hb1) hb3) hb12) hb15) ((upd_ne _ _ n_b15_b1.ne.symm).trans ((upd_ne _ _ n_b12_b1.ne.symm).trans ((upd_ne _ _ n_b3_b1.ne.symm).trans (upd_same _ _ _)))) (by first | rfl | (simp; done))) ((upd_ne _ _ n_b15_b3.ne.symm).trans ((upd_ne _ _ n_b12_b3.ne.symm).trans (upd_same _ _ _))) (by first | rfl | (simp; done))) ((upd_ne _ _ n_b15_b12.ne.symm).trans (upd_same _ _ _)) (by first | rfl | (simp; done))) (upd_same _ _ _) (by first | rfl | (simp; done)))⟩
       ·replace ho3 := cond_f ho3 g4
        refine wpA_exit ?_
        refine thenA_e ?_
        refine thenA_e ?_
        obtain rfl := Option.some.inj ho3
        obtain rfl := Option.some.inj hk3
        exact ⟨rfl, _, _, b13, cap_b13, rfl, (none_upd n_b13_b12.ne (none_upd n_b13_b3.ne (none_upd n_b13_b1.ne hb13))), (by first | assumption | (simp; done) | omega), (by first | assumption | (simp only [maxLen]; omega)), (Sub.cons rfl (Sub.cons rfl (Sub.cons rfl (Sub.cons rfl (Sub.cons rfl (Sub.cons rfl (Sub.cons rfl (Sub.cons rfl (Sub.cons rfl Sub.nil))))))))), (Le.upd_left (Le.upd_left (Le.upd_left (Le.upd_left (Le.under (Le.under (Le.under (Le.under (Le.refl _) hb1) hb3) hb12) hb13) ((upd_ne _ _ n_b13_b1.ne.symm).trans ((upd_ne _ _ n_b12_b1.ne.symm).trans ((upd_ne _ _ n_b3_b1.ne.symm).trans (upd_same _ _ _)))) (by first | rfl | (simp; done))) ((upd_ne _ _ n_b13_b3.ne.symm).trans ((upd_ne _ _ n_b12_b3.ne.symm).trans (upd_same _ _ _))) (by first | rfl | (simp; done))) ((upd_ne _ _ n_b13_b12.ne.symm).trans (upd_same _ _ _)) (by first | rfl | (simp; done))) (upd_same _ _ _) (by first | rfl | (simp; done)))⟩
     ·intro e s' h' hq
      cases R3 with
      | next x => exact hq.elim
      | ret r => exact hq.elim
      | stop x id =>
       obtain ⟨rfl, x9, x10, b16, cap_b16, rfl, hb16, hk_b16, hc_b16, hsub2, hle2⟩ := hq
       try dsimp only at ho1
       simp only [upd_noneA] at hb16
       obtain ⟨n_b16_b12, n_b16_b3, n_b16_b1, hb16⟩ := hb16
       by_cases hid2 : id = 2
       ·subst hid2
        rw [if_pos rfl] at ho1
        refine blockA_s ?_
        refine blockA_n ?_
        refine thenA_n ?_
        refine wpA_weaken hsub2.ok hle2 ?_
        refine wpA_region ?_
        refine Ops_quiet _ rfl rfl (QO.bin rfl rfl rfl rfl) ?_
        refine Ops_quiet _ rfl rfl (QO.move rfl rfl) ?_
        refine Ops_nil ?_
        obtain rfl := Option.some.inj ho1
        dsimp only at hk1
        exact thenA_n ⟨k1, Nat.lt_succ_self _, _, _, b16, cap_b16, hk1, (none_upd n_b16_b3.ne (none_upd n_b16_b1.ne hb16)), (by first | assumption | (simp; done) | omega), (by first | assumption | (simp only [maxLen]; omega)), (Sub.cons rfl (Sub.cons rfl (Sub.cons rfl (Sub.cons rfl (Sub.cons rfl Sub.nil))))), (Le.upd_left (Le.upd_left (Le.upd_left (Le.under (Le.under (Le.under (Le.under (Le.refl _) hb1) hb3) hb12) hb16) ((upd_ne _ _ n_b16_b1.ne.symm).trans ((upd_ne _ _ n_b12_b1.ne.symm).trans ((upd_ne _ _ n_b3_b1.ne.symm).trans (upd_same _ _ _)))) (by first | rfl | (simp; done))) ((upd_ne _ _ n_b16_b3.ne.symm).trans ((upd_ne _ _ n_b12_b3.ne.symm).trans (upd_same _ _ _))) (by first | rfl | (simp; done))) (upd_same _ _ _) (by first | rfl | (simp; done)))⟩
       rw [if_neg hid2] at ho1
       exact absurd ho1 (by simp)
   ·replace ho1 := cond_f ho1 g1
    refine wpA_exit ?_
    refine thenA_e ?_
    refine thenA_e ?_
    obtain rfl := Option.some.inj ho1
    obtain rfl := Option.some.inj hk1
    exact ⟨rfl, _, _, b4, cap_b4, rfl, (none_upd n_b4_b3.ne (none_upd n_b4_b1.ne hb4)), (by first | assumption | (simp; done) | omega), (by first | assumption | (simp only [maxLen]; omega)), (Sub.cons rfl (Sub.cons rfl (Sub.cons rfl (Sub.cons rfl (Sub.cons rfl Sub.nil))))), (Le.upd_left (Le.upd_left (Le.upd_left (Le.under (Le.under (Le.under (Le.refl _) hb1) hb3) hb4) ((upd_ne _ _ n_b4_b1.ne.symm).trans ((upd_ne _ _ n_b3_b1.ne.symm).trans (upd_same _ _ _))) (by first | rfl | (simp; done))) ((upd_ne _ _ n_b4_b3.ne.symm).trans (upd_same _ _ _)) (by first | rfl | (simp; done))) (upd_same _ _ _) (by first | rfl | (simp; done)))⟩
 ·intro e s' h' hq
  cases R1 with
  | next x => exact hq.elim
  | ret r => exact hq.elim
  | stop x id =>
   obtain ⟨rfl, x11, x12, b17, cap_b17, rfl, hb17, hk_b17, hc_b17, hsub3, hle3⟩ := hq
   try dsimp only at hm
   simp only [upd_noneA] at hb17
   obtain ⟨n_b17_b3, n_b17_b1, hb17⟩ := hb17
   by_cases hid3 : id = 0
   ·subst hid3
    rw [if_pos rfl] at hm
    refine blockA_s ?_
    refine thenA_n ?_
    refine wpA_weaken hsub3.ok hle3 ?_
    refine wpA_seq ?_
    refine wpA_region ?_
    refine Ops_quiet _ rfl rfl (QO.move rfl rfl) ?_
    refine Ops_quiet _ rfl rfl (QO.bytesStr (l := x11) rfl sz22 sz5 sz9 rfl (by first | rfl | (simp; done)) (RdS.own (upd_same _ _ _))) ?_
    refine Ops_quiet _ rfl rfl (QO.assign rfl rfl) ?_
    refine Ops_nil ?_
    refine thenA_n ?_
    refine wpA_ret ?_
    obtain rfl := Option.some.inj hm
    exact retA_r (h2 := h) (Res.one rfl (rfl)) (Le.under (Le.under (Le.under (Le.refl _) hb1) hb3) hb17) ⟨rfl, rfl⟩
   rw [if_neg hid3] at hm
   exact absurd hm (by simp)

/-! loop.example/g01195/impl.SquareText -/
theorem c_impl_SquareText {a0 : Sq} {h : Hp} {r : ByteArray × Int} (hm : m_impl_SquareText a0 = some r)  :
    QC Try.prog 21 #[.agg (sqC a0).toArray] h (.tuple #[.string r.1, .int .i64 r.2]) := by
 unfold m_impl_SquareText at hm
 refine CC.enter Try.func21 rfl Try.ntmps21 rfl ?_
 refine wpA_seq ?_
 refine wpA_region ?_
 refine Ops_loud rfl (LO.boxAgg rfl rfl rfl (fun b1 hb1 => ?_))
 refine Ops_quiet _ rfl rfl (QO.assign rfl rfl) ?_
 refine Ops_quiet _ rfl rfl (QO.assign rfl rfl) ?_
 refine Ops_nil ?_
 refine thenA_n ?_
 refine wpA_seq ?_
 refine wpA_seq ?_
 refine wpA_region ?_
 refine Ops_quiet _ rfl rfl (QO.loadRow (cs := sqC a0) (hr := (rdAll (upd_same _ _ _))) rfl sz28 rfl rfl (sqC_length _)) ?_
 have hq := Option.bind_eq_some_iff.1 hm; clear hm; obtain ⟨r1, hr1, hm⟩ := hq
 refine Ops_call _ _ rfl rfl (EO.fn rfl Try.func8 rfl rfl (Evs.cons rfl Evs.nil)) (QC.cc (c_impl_IsSquare hr1 ) ?_)
 refine Ops_quiet _ rfl rfl (QO.not rfl rfl) ?_
 refine Ops_nil ?_
 refine thenA_n ?_
 refine wpA_cond rfl (fun g1 => ?_) (fun g1 => ?_)
 ·replace hm := cond_t hm g1
  refine wpA_seq ?_
  refine wpA_region ?_
  refine Ops_quiet _ rfl rfl (QO.assign rfl rfl) ?_
  refine Ops_quiet _ rfl rfl (QO.assign rfl rfl) ?_
  refine Ops_nil ?_
  refine thenA_n ?_
  refine wpA_ret ?_
  refine thenA_r ?_
  obtain rfl := Option.some.inj hm
  exact retA_r (h2 := h) (Res.two rfl (rfl) (rfl)) (Le.under (Le.refl _) hb1) ⟨rfl, rfl⟩
 ·replace hm := cond_f hm g1
  refine wpA_skip ?_
  refine thenA_n ?_
  refine wpA_seq ?_
  refine wpA_region ?_
  refine Ops_quiet _ rfl rfl (QO.loadRow (cs := sqC a0) (hr := (rdAll (upd_same _ _ _))) rfl sz28 rfl rfl (sqC_length _)) ?_
  have hq := Option.bind_eq_some_iff.1 hm; clear hm; obtain ⟨r2, hr2, hm⟩ := hq
  refine Ops_call _ _ rfl rfl (EO.fn rfl Try.func47 rfl rfl (Evs.cons rfl Evs.nil)) (QC.cc (c_impl_squareText hr2 ) ?_)
  refine Ops_quiet _ rfl rfl (QO.assign rfl rfl) ?_
  refine Ops_quiet _ rfl rfl (QO.assign rfl rfl) ?_
  refine Ops_nil ?_
  refine thenA_n ?_
  refine wpA_ret ?_
  obtain rfl := Option.some.inj hm
  exact retA_r (h2 := h) (Res.two rfl (rfl) (rfl)) (Le.under (Le.refl _) hb1) ⟨rfl, rfl⟩

/-! loop.example/g01195/impl.ParseSquare$1 -/
theorem c_impl_ParseSquare_1 {a0 : Int} {a1 : Int} {v0 : ByteArray} {q0 : Nat} {v1 : Int} {q1 : Nat} {h : Hp} {r : Int} (hm : m_impl_ParseSquare_1 a0 a1 v0 v1 = some r) (hq0 : h q0 = some (.own 9 ([.string v0]) 1)) (hq1 : h q1 = some (.own 2 ([.int .i64 v1]) 1)) :
    QC Try.prog 48 #[.int .u8 a0, .int .u8 a1, .pointer (some ⟨q0, 0, none⟩), .pointer (some ⟨q1, 0, none⟩)] h (.int .u8 r) := by
 unfold m_impl_ParseSquare_1 at hm
 refine CC.enter Try.func48 rfl Try.ntmps48 rfl ?_
 refine wpA_seq ?_
 refine wpA_region ?_
 refine Ops_quiet _ rfl rfl (QO.assign rfl rfl) ?_
 refine Ops_nil ?_
 refine thenA_n ?_
 refine wpA_seq ?_
 refine wpA_region ?_
 refine Ops_quiet _ rfl rfl (QO.load rfl sz9 rfl rfl (by (refine (rd_own hq0 _).trans ?_); exact rfl)) ?_
 refine Ops_quiet _ rfl rfl (QO.move rfl rfl) ?_
 refine Ops_quiet _ rfl rfl (QO.conv rfl sz5 sz2 rfl) ?_
 refine Ops_quiet _ rfl rfl (QO.load rfl sz2 rfl rfl (by (refine (rd_own hq1 _).trans ?_); exact rfl)) ?_
 refine Ops_quiet _ rfl rfl (QO.bin rfl rfl rfl rfl) ?_
 refine Ops_quiet _ rfl rfl (QO.bin rfl rfl rfl rfl) ?_
 refine Ops_quiet _ rfl rfl (QO.move rfl rfl) ?_
 refine Ops_quiet _ rfl rfl (QO.conv rfl sz5 sz2 rfl) ?_
 refine Ops_quiet _ rfl rfl (QO.bin rfl rfl rfl rfl) ?_
 have hq := chk hm; clear hm; obtain ⟨ck1, hm⟩ := hq
 refine Ops_quiet _ rfl rfl (QO.idxStr rfl sz9 rfl rfl (by omega) (bt_some (by omega))) ?_
 refine Ops_quiet _ rfl rfl (QO.bin rfl rfl rfl rfl) ?_
 refine Ops_quiet _ rfl rfl (QO.assign rfl rfl) ?_
 refine Ops_nil ?_
 refine thenA_n ?_
 refine wpA_ret ?_
 obtain rfl := Option.some.inj hm
 exact retA_r (h2 := h) (Res.one rfl (rfl)) (Le.refl _) ⟨rfl, rfl⟩

/-! loop.example/g01195/impl.ParseSquare -/
theorem c_impl_ParseSquare {a0 : ByteArray} {h : Hp} {r : Sq × Int} (hm : m_impl_ParseSquare a0 = some r)  :
    QC Try.prog 22 #[.string a0] h (.tuple #[.agg (sqC r.1).toArray, .int .i64 r.2]) := by
 unfold m_impl_ParseSquare at hm
 refine CC.enter Try.func22 rfl Try.ntmps22 rfl ?_
 refine wpA_seq ?_
 refine wpA_region ?_
 refine Ops_loud rfl (LO.boxOne rfl rfl rfl rfl (fun b1 hb1 => ?_))
 refine Ops_loud rfl (LO.alloc rfl zr28 rfl (fun b2 hb2 => ?_))
 simp only [upd_noneA] at hb2
 obtain ⟨n_b2_b1, hb2⟩ := hb2
 refine Ops_quiet _ rfl rfl (QO.assign rfl rfl) ?_
 refine Ops_nil ?_
 refine thenA_n ?_
 refine wpA_seq ?_
 refine wpA_seq ?_
 refine wpA_region ?_
 refine Ops_loud rfl (LO.alloc rfl zr2 rfl (fun b3 hb3 => ?_))
 simp only [upd_noneA] at hb3
 obtain ⟨n_b3_b2, n_b3_b1, hb3⟩ := hb3
 refine Ops_loud rfl (LO.store' (xs' := [.int .i64 1]) rfl sz2 rfl rfl rfl (upd_same _ _ _) (by first | ((try simp only [rowsC_length, rowsA_length, mpC_length, sqC_length, tbC_length, tabI_length, tabB_length, ints_length, plsC_length, trC_length, sqsC_length, strsC_length, boolsC_length, tbB_length, List.length_append, List.length_cons, List.length_nil, List.length_set, List.length_replicate, rep_length]); first | omega | decide) | exact Nat.le_of_ble_eq_true rfl) rfl Chg.here rfl ?_)
 refine Ops_nil ?_
 refine thenA_n ?_
 refine wpA_block ?_
 obtain ⟨R1, hR, hm⟩ := Option.bind_eq_some_iff.1 hm
 obtain ⟨k1, hk1⟩ := loopV_some hR
 clear hR
 refine wpA_mono (Q := fun e s' h' => match (generalizing := false) R1 with | .stop x id => e = .exit id ∧ ∃ (x1 : Int) (x2 : Sq) (b4 : Nat), (x1, x2) = x ∧ (upd (upd (h) b1 (.own 9 ([.string a0]) 1)) b2 (.own 28 (sqC x2) 101)) b4 = none ∧ Sub s' [(1, .pointer (some ⟨b1, 0, none⟩)), (2, .pointer (some ⟨b2, 0, none⟩)), (4, .pointer (some ⟨b4, 0, none⟩))] ∧ Le (upd (upd (upd (h) b1 (.own 9 ([.string a0]) 1)) b2 (.own 28 (sqC x2) 101)) b4 (.own 2 ([.int .i64 x1]) 1)) h' | .ret r => e = .ret ∧ Sub s' [(2, .pointer (some ⟨b2, 0, none⟩)), (3, .int .i64 r.2)] ∧ Le (upd (h) b2 (.own 28 (sqC r.1) 101)) h' | .next _ => False) ?_ ?_
 ·refine wpA_loop (fun k s' h' => ∃ (x1 : Int) (x2 : Sq) (b4 : Nat), loopW (m_impl_ParseSquare_l0 a0) k (x1, x2) = some R1 ∧ (upd (upd (h) b1 (.own 9 ([.string a0]) 1)) b2 (.own 28 (sqC x2) 101)) b4 = none ∧ Sub s' [(1, .pointer (some ⟨b1, 0, none⟩)), (2, .pointer (some ⟨b2, 0, none⟩)), (4, .pointer (some ⟨b4, 0, none⟩))] ∧ Le (upd (upd (upd (h) b1 (.own 9 ([.string a0]) 1)) b2 (.own 28 (sqC x2) 101)) b4 (.own 2 ([.int .i64 x1]) 1)) h') (m := k1) ⟨1, sq0, b3, hk1, (none_upd n_b3_b2.ne (none_upd n_b3_b1.ne hb3)), (Sub.cons rfl (Sub.cons rfl (Sub.cons rfl Sub.nil))), (Le.upd_left (Le.upd_left (Le.upd_left (Le.under (Le.under (Le.under (Le.refl _) hb1) hb2) hb3) ((upd_ne _ _ n_b3_b1.ne.symm).trans ((upd_ne _ _ n_b2_b1.ne.symm).trans (upd_same _ _ _))) (by first | rfl | (simp; done))) ((upd_ne _ _ n_b3_b2.ne.symm).trans (upd_same _ _ _)) (by first | rfl | (simp; done))) (upd_same _ _ _) (by first | rfl | (simp; done)))⟩ ?_
  rintro k1 s' h' ⟨x1, x2, b4, hk1, hb4, hsub, hle⟩
  refine wpA_weaken hsub.ok hle ?_
  clear hsub hle s' h'
  simp only [upd_noneA] at hb4
  obtain ⟨n_b4_b2, n_b4_b1, hb4⟩ := hb4
  cases k1 with
  | zero => exact absurd hk1 (by simp [loopW])
  | succ k1 =>
   obtain ⟨o1, ho1, hk1⟩ := loopW_succ hk1
   unfold m_impl_ParseSquare_l0 at ho1
   try dsimp only at ho1
   refine wpA_seq ?_
   refine wpA_seq ?_
   refine wpA_region ?_
   refine Ops_quiet _ rfl rfl (QO.load rfl sz2 rfl rfl (by (refine (rd_own (upd_same _ _ _) _).trans ?_); exact rfl)) ?_
   refine Ops_quiet _ rfl rfl (QO.bin rfl rfl rfl rfl) ?_
   refine Ops_nil ?_
   refine thenA_n ?_
   refine wpA_cond rfl (fun g1 => ?_) (fun g1 => ?_)
   ·replace ho1 := cond_t ho1 g1
    refine wpA_skip ?_
    refine thenA_n ?_
    refine wpA_seq ?_
    refine wpA_block ?_
    refine wpA_seq ?_
    refine wpA_seq ?_
    refine wpA_region ?_
    refine Ops_quiet _ rfl rfl (QO.load rfl sz9 rfl rfl (by (refine (rd_own ((upd_ne _ _ n_b4_b1.ne.symm).trans ((upd_ne _ _ n_b2_b1.ne.symm).trans (upd_same _ _ _))) _).trans ?_); exact rfl)) ?_
    refine Ops_quiet _ rfl rfl (QO.lenStr rfl sz9 rfl) ?_
    refine Ops_quiet _ rfl rfl (QO.load rfl sz2 rfl rfl (by (refine (rd_own (upd_same _ _ _) _).trans ?_); exact rfl)) ?_
    refine Ops_quiet _ rfl rfl (QO.load rfl sz2 rfl rfl (by (refine (rd_own (upd_same _ _ _) _).trans ?_); exact rfl)) ?_
    refine Ops_quiet _ rfl rfl (QO.bin rfl rfl rfl rfl) ?_
    refine Ops_quiet _ rfl rfl (QO.bin rfl rfl rfl rfl) ?_
    refine Ops_quiet _ rfl rfl (QO.bin rfl rfl rfl rfl) ?_
    refine Ops_quiet _ rfl rfl (QO.bin rfl rfl rfl rfl) ?_
    refine Ops_nil ?_
    refine thenA_n ?_
    refine wpA_cond rfl (fun g2 => ?_) (fun g2 => ?_)
    ·replace ho1 := cond_t ho1 g2
     refine wpA_exit ?_
     refine thenA_e ?_
     refine blockA_s ?_
     refine thenA_n ?_
     refine wpA_seq ?_
     refine wpA_seq ?_
     refine wpA_region ?_
     refine Ops_quiet _ rfl rfl (QO.load rfl sz2 rfl rfl (by (refine (rd_own (upd_same _ _ _) _).trans ?_); exact rfl)) ?_
     refine Ops_nil ?_
     refine thenA_n ?_
     refine wpA_region ?_
     refine Ops_loud rfl (LO.alloc rfl zr2 rfl (fun b5 hb5 => ?_))
     simp only [upd_noneA] at hb5
     obtain ⟨n_b5_b4, n_b5_b2, n_b5_b1, hb5⟩ := hb5
     refine Ops_loud rfl (LO.store' (xs' := [.int .i64 x1]) rfl sz2 rfl rfl rfl (upd_same _ _ _) (by first | ((try simp only [rowsC_length, rowsA_length, mpC_length, sqC_length, tbC_length, tabI_length, tabB_length, ints_length, plsC_length, trC_length, sqsC_length, strsC_length, boolsC_length, tbB_length, List.length_append, List.length_cons, List.length_nil, List.length_set, List.length_replicate, rep_length]); first | omega | decide) | exact Nat.le_of_ble_eq_true rfl) rfl Chg.here rfl ?_)
     refine Ops_nil ?_
     refine thenA_n ?_
     refine wpA_region ?_
     refine Ops_quiet _ rfl rfl (QO.load rfl sz2 rfl rfl (by (refine (rd_own (upd_same _ _ _) _).trans ?_); exact rfl)) ?_
     refine Ops_quiet _ rfl rfl (QO.bin rfl rfl rfl rfl) ?_
     refine Ops_loud rfl (LO.store' (xs' := [.int .i64 (IntKind.i64.wrap (x1 + 1))]) rfl sz2 rfl rfl rfl (upd_same _ _ _) (by first | ((try simp only [rowsC_length, rowsA_length, mpC_length, sqC_length, tbC_length, tabI_length, tabB_length, ints_length, plsC_length, trC_length, sqsC_length, strsC_length, boolsC_length, tbB_length, List.length_append, List.length_cons, List.length_nil, List.length_set, List.length_replicate, rep_length]); first | omega | decide) | exact Nat.le_of_ble_eq_true rfl) rfl Chg.here rfl ?_)
     refine Ops_nil ?_
     obtain rfl := Option.some.inj ho1
     dsimp only at hk1
     exact thenA_n ⟨k1, Nat.lt_succ_self _, _, _, b5, hk1, (none_upd n_b5_b2.ne (none_upd n_b5_b1.ne hb5)), (Sub.cons rfl (Sub.cons rfl (Sub.cons rfl Sub.nil))), (Le.upd_left (Le.upd_left (Le.upd_left (Le.under (Le.under (Le.under (Le.under (Le.refl _) hb1) hb2) hb4) hb5) ((upd_ne _ _ n_b5_b1.ne.symm).trans ((upd_ne _ _ n_b4_b1.ne.symm).trans ((upd_ne _ _ n_b2_b1.ne.symm).trans (upd_same _ _ _)))) (by first | rfl | (simp; done))) ((upd_ne _ _ n_b5_b2.ne.symm).trans ((upd_ne _ _ n_b4_b2.ne.symm).trans (upd_same _ _ _))) (by first | rfl | (simp; done))) (upd_same _ _ _) (by first | rfl | (simp; done)))⟩
    ·replace ho1 := cond_f ho1 g2
     refine wpA_skip ?_
     refine thenA_n ?_
     refine wpA_seq ?_
     refine wpA_region ?_
     refine Ops_quiet _ rfl rfl (QO.load rfl sz2 rfl rfl (by (refine (rd_own (upd_same _ _ _) _).trans ?_); exact rfl)) ?_
     refine Ops_quiet _ rfl rfl (QO.makeClo rfl (Evs.cons rfl (Evs.cons rfl Evs.nil))) ?_
     have hq := Option.bind_eq_some_iff.1 ho1; clear ho1; obtain ⟨r1, hr1, ho1⟩ := hq
     refine Ops_call _ _ rfl rfl (EO.fn rfl Try.func45 rfl rfl (Evs.cons rfl (Evs.cons rfl Evs.nil))) (QC.cc (c_impl_made hr1 ⟨_, _, Try.func48, rfl, rfl⟩ (fun _ _ _  hm => c_impl_ParseSquare_1 hm ((upd_ne _ _ n_b4_b1.ne.symm).trans ((upd_ne _ _ n_b2_b1.ne.symm).trans (upd_same _ _ _))) (upd_same _ _ _))) ?_)
     refine Ops_loud rfl (LO.alloc rfl zr28 rfl (fun b6 hb6 => ?_))
     simp only [upd_noneA] at hb6
     obtain ⟨n_b6_b4, n_b6_b2, n_b6_b1, hb6⟩ := hb6
     refine Ops_loud rfl (LO.storeAll (cs := sqC r1) rfl sz28 rfl rfl (sqC_one _) (sqC_length _) (upd_same _ _ _) (sqC_length _) Chg.here rfl ?_)
     refine Ops_nil ?_
     refine thenA_n ?_
     refine wpA_seq ?_
     refine wpA_drawn (by kernel_rfl) (by kernel_rfl) ?_
     refine QOps.quiet _ rfl rfl (QO.loadRow (cs := sqC r1) (hr := (rdAll (upd_same _ _ _))) rfl sz28 rfl rfl (sqC_length _)) ?_
     have hq := Option.bind_eq_some_iff.1 ho1; clear ho1; obtain ⟨r2, hr2, ho1⟩ := hq
     refine QOps.call _ _ _ rfl rfl (EO.fn rfl Try.func8 rfl rfl (Evs.cons rfl Evs.nil)) (c_impl_IsSquare hr2 ) ?_
     refine QOps.quiet _ rfl rfl (QO.move rfl rfl) ?_
     refine QOps.split 23 rfl (fun g3 => ?_) (fun g3 => ?_)
     ·replace ho1 := cond_t ho1 g3
      refine QOps.quiet _ rfl rfl (QO.loadRow (cs := sqC r1) (hr := (rdAll (upd_same _ _ _))) rfl sz28 rfl rfl (sqC_length _)) ?_
      have hq := Option.bind_eq_some_iff.1 ho1; clear ho1; obtain ⟨r3, hr3, ho1⟩ := hq
      refine QOps.call _ _ _ rfl rfl (EO.fn rfl Try.func47 rfl rfl (Evs.cons rfl Evs.nil)) (c_impl_squareText hr3 ) ?_
      refine QOps.quiet _ rfl rfl (QO.load rfl sz9 rfl rfl (by (refine (rd_own ((upd_ne _ _ n_b6_b1.ne.symm).trans ((upd_ne _ _ n_b4_b1.ne.symm).trans ((upd_ne _ _ n_b2_b1.ne.symm).trans (upd_same _ _ _)))) _).trans ?_); exact rfl)) ?_
      refine QOps.quiet _ rfl rfl (QO.str_eq rfl rfl rfl) ?_
      refine QOps.quiet _ rfl rfl (QO.pick_t rfl rfl rfl) ?_
      refine QOps.nil ?_
      refine thenA_n ?_
      refine wpA_cond rfl (fun g4 => ?_) (fun g4 => ?_)
      ·replace ho1 := cond_t ho1 g4
       refine wpA_seq ?_
       refine wpA_region ?_
       refine Ops_quiet _ rfl rfl (QO.loadRow (cs := sqC r1) (hr := (rdAll (upd_same _ _ _))) rfl sz28 rfl rfl (sqC_length _)) ?_
       refine Ops_loud rfl (LO.storeAll (cs := sqC r1) rfl sz28 rfl rfl (sqC_one _) (sqC_length _) ((upd_ne _ _ n_b6_b2.ne.symm).trans ((upd_ne _ _ n_b4_b2.ne.symm).trans (upd_same _ _ _))) (sqC_length _) (Chg.there n_b6_b2.ne (Chg.there n_b4_b2.ne Chg.here)) rfl ?_)
       refine Ops_quiet _ rfl rfl (QO.assign rfl rfl) ?_
       refine Ops_nil ?_
       refine thenA_n ?_
       refine wpA_ret ?_
       refine blockA_r ?_
       refine thenA_r ?_
       refine thenA_r ?_
       obtain rfl := Option.some.inj ho1
       obtain rfl := Option.some.inj hk1
       exact ⟨rfl, (Sub.cons rfl (Sub.cons rfl Sub.nil)), (Le.upd_left (Le.under (Le.under (Le.under (Le.under (Le.refl _) hb1) hb2) hb4) hb6) ((upd_ne _ _ n_b6_b2.ne.symm).trans ((upd_ne _ _ n_b4_b2.ne.symm).trans (upd_same _ _ _))) (by first | rfl | (simp; done)))⟩
      ·replace ho1 := cond_f ho1 g4
       refine wpA_skip ?_
       refine blockA_n ?_
       refine thenA_n ?_
       refine wpA_seq ?_
       refine wpA_seq ?_
       refine wpA_region ?_
       refine Ops_quiet _ rfl rfl (QO.load rfl sz2 rfl rfl (by (refine (rd_own ((upd_ne _ _ n_b6_b4.ne.symm).trans (upd_same _ _ _)) _).trans ?_); exact rfl)) ?_
       refine Ops_nil ?_
       refine thenA_n ?_
       refine wpA_region ?_
       refine Ops_loud rfl (LO.alloc rfl zr2 rfl (fun b7 hb7 => ?_))
       simp only [upd_noneA] at hb7
       obtain ⟨n_b7_b6, n_b7_b4, n_b7_b2, n_b7_b1, hb7⟩ := hb7
       refine Ops_loud rfl (LO.store' (xs' := [.int .i64 x1]) rfl sz2 rfl rfl rfl (upd_same _ _ _) (by first | ((try simp only [rowsC_length, rowsA_length, mpC_length, sqC_length, tbC_length, tabI_length, tabB_length, ints_length, plsC_length, trC_length, sqsC_length, strsC_length, boolsC_length, tbB_length, List.length_append, List.length_cons, List.length_nil, List.length_set, List.length_replicate, rep_length]); first | omega | decide) | exact Nat.le_of_ble_eq_true rfl) rfl Chg.here rfl ?_)
       refine Ops_nil ?_
       refine thenA_n ?_
       refine wpA_region ?_
       refine Ops_quiet _ rfl rfl (QO.load rfl sz2 rfl rfl (by (refine (rd_own (upd_same _ _ _) _).trans ?_); exact rfl)) ?_
       refine Ops_quiet _ rfl rfl (QO.bin rfl rfl rfl rfl) ?_
       refine Ops_loud rfl (LO.store' (xs' := [.int .i64 (IntKind.i64.wrap (x1 + 1))]) rfl sz2 rfl rfl rfl (upd_same _ _ _) (by first | ((try simp only [rowsC_length, rowsA_length, mpC_length, sqC_length, tbC_length, tabI_length, tabB_length, ints_length, plsC_length, trC_length, sqsC_length, strsC_length, boolsC_length, tbB_length, List.length_append, List.length_cons, List.length_nil, List.length_set, List.length_replicate, rep_length]); first | omega | decide) | exact Nat.le_of_ble_eq_true rfl) rfl Chg.here rfl ?_)
       refine Ops_nil ?_
       obtain rfl := Option.some.inj ho1
       dsimp only at hk1
       exact thenA_n ⟨k1, Nat.lt_succ_self _, _, _, b7, hk1, (none_upd n_b7_b2.ne (none_upd n_b7_b1.ne hb7)), (Sub.cons rfl (Sub.cons rfl (Sub.cons rfl Sub.nil))), (Le.upd_left (Le.upd_left (Le.upd_left (Le.under (Le.under (Le.under (Le.under (Le.under (Le.refl _) hb1) hb2) hb4) hb6) hb7) ((upd_ne _ _ n_b7_b1.ne.symm).trans ((upd_ne _ _ n_b6_b1.ne.symm).trans ((upd_ne _ _ n_b4_b1.ne.symm).trans ((upd_ne _ _ n_b2_b1.ne.symm).trans (upd_same _ _ _))))) (by first | rfl | (simp; done))) ((upd_ne _ _ n_b7_b2.ne.symm).trans ((upd_ne _ _ n_b6_b2.ne.symm).trans ((upd_ne _ _ n_b4_b2.ne.symm).trans (upd_same _ _ _)))) (by first | rfl | (simp; done))) (upd_same _ _ _) (by first | rfl | (simp; done)))⟩
     ·replace ho1 := cond_f ho1 g3
      refine QOps.skip rfl rfl ?_
      refine QOps.skip rfl rfl ?_
      refine QOps.skip rfl rfl ?_
      refine QOps.skip rfl rfl ?_
      refine QOps.quiet _ rfl rfl (QO.pick_f rfl rfl rfl) ?_
      refine QOps.nil ?_
      refine thenA_n ?_
      refine wpA_cond_f rfl ?_
      refine wpA_skip ?_
      refine blockA_n ?_
      refine thenA_n ?_
      refine wpA_seq ?_
      refine wpA_seq ?_
      refine wpA_region ?_
      refine Ops_quiet _ rfl rfl (QO.load rfl sz2 rfl rfl (by (refine (rd_own ((upd_ne _ _ n_b6_b4.ne.symm).trans (upd_same _ _ _)) _).trans ?_); exact rfl)) ?_
      refine Ops_nil ?_
      refine thenA_n ?_
      refine wpA_region ?_
      refine Ops_loud rfl (LO.alloc rfl zr2 rfl (fun b8 hb8 => ?_))
      simp only [upd_noneA] at hb8
      obtain ⟨n_b8_b6, n_b8_b4, n_b8_b2, n_b8_b1, hb8⟩ := hb8
      refine Ops_loud rfl (LO.store' (xs' := [.int .i64 x1]) rfl sz2 rfl rfl rfl (upd_same _ _ _) (by first | ((try simp only [rowsC_length, rowsA_length, mpC_length, sqC_length, tbC_length, tabI_length, tabB_length, ints_length, plsC_length, trC_length, sqsC_length, strsC_length, boolsC_length, tbB_length, List.length_append, List.length_cons, List.length_nil, List.length_set, List.length_replicate, rep_length]); first | omega | decide) | exact Nat.le_of_ble_eq_true rfl) rfl Chg.here rfl ?_)
      refine Ops_nil ?_
      refine thenA_n ?_
      refine wpA_region ?_
      refine Ops_quiet _ rfl rfl (QO.load rfl sz2 rfl rfl (by (refine (rd_own (upd_same _ _ _) _).trans ?_); exact rfl)) ?_
      refine Ops_quiet _ rfl rfl (QO.bin rfl rfl rfl rfl) ?_
      refine Ops_loud rfl (LO.store' (xs' := [.int .i64 (IntKind.i64.wrap (x1 + 1))]) rfl sz2 rfl rfl rfl (upd_same _ _ _) (by first | ((try simp only [rowsC_length, rowsA_length, mpC_length, sqC_length, tbC_length, tabI_length, tabB_length, ints_length, plsC_length, trC_length, sqsC_length, strsC_length, boolsC_length, tbB_length, List.length_append, List.length_cons, List.length_nil, List.length_set, List.length_replicate, rep_length]); first | omega | decide) | exact Nat.le_of_ble_eq_true rfl) rfl Chg.here rfl ?_)
      refine Ops_nil ?_
      obtain rfl := Option.some.inj ho1
      dsimp only at hk1
      exact thenA_n ⟨k1, Nat.lt_succ_self _, _, _, b8, hk1, (none_upd n_b8_b2.ne (none_upd n_b8_b1.ne hb8)), (Sub.cons rfl (Sub.cons rfl (Sub.cons rfl Sub.nil))), (Le.upd_left (Le.upd_left (Le.upd_left (Le.under (Le.under (Le.under (Le.under (Le.under (Le.refl _) hb1) hb2) hb4) hb6) hb8) ((upd_ne _ _ n_b8_b1.ne.symm).trans ((upd_ne _ _ n_b6_b1.ne.symm).trans ((upd_ne _ _ n_b4_b1.ne.symm).trans ((upd_ne _ _ n_b2_b1.ne.symm).trans (upd_same _ _ _))))) (by first | rfl | (simp; done))) ((upd_ne _ _ n_b8_b2.ne.symm).trans ((upd_ne _ _ n_b6_b2.ne.symm).trans ((upd_ne _ _ n_b4_b2.ne.symm).trans (upd_same _ _ _)))) (by first | rfl | (simp; done))) (upd_same _ _ _) (by first | rfl | (simp; done)))⟩
   ·replace ho1 := cond_f ho1 g1
    refine wpA_exit ?_
    refine thenA_e ?_
    refine thenA_e ?_
    obtain rfl := Option.some.inj ho1
    obtain rfl := Option.some.inj hk1
    exact ⟨rfl, _, _, b4, rfl, (none_upd n_b4_b2.ne (none_upd n_b4_b1.ne hb4)), (Sub.cons rfl (Sub.cons rfl (Sub.cons rfl Sub.nil))), (Le.upd_left (Le.upd_left (Le.upd_left (Le.under (Le.under (Le.under (Le.refl _) hb1) hb2) hb4) ((upd_ne _ _ n_b4_b1.ne.symm).trans ((upd_ne _ _ n_b2_b1.ne.symm).trans (upd_same _ _ _))) (by first | rfl | (simp; done))) ((upd_ne _ _ n_b4_b2.ne.symm).trans (upd_same _ _ _)) (by first | rfl | (simp; done))) (upd_same _ _ _) (by first | rfl | (simp; done)))⟩
 ·intro e s' h' hq
  cases R1 with
  | next x => exact hq.elim
  | ret r =>
   obtain ⟨rfl, hsub1, hle1⟩ := hq
   try dsimp only at hm
   refine blockA_r ?_
   refine thenA_r ?_
   obtain rfl := Option.some.inj hm
   refine retA_sub hsub1.ok hle1 ?_
   exact retA_r (h2 := h) (Res.two rfl (res1.row (cs := sqC r.1) (hr := (rdAll (upd_same _ _ _))) sz28 rfl rfl (sqC_length _)) (rfl)) (Le.under (Le.refl _) hb2) ⟨rfl, rfl⟩
  | stop x id =>
   obtain ⟨rfl, x3, x4, b9, rfl, hb9, hsub2, hle2⟩ := hq
   try dsimp only at hm
   simp only [upd_noneA] at hb9
   obtain ⟨n_b9_b2, n_b9_b1, hb9⟩ := hb9
   by_cases hid1 : id = 0
   ·subst hid1
    rw [if_pos rfl] at hm
    refine blockA_s ?_
    refine thenA_n ?_
    refine wpA_weaken hsub2.ok hle2 ?_
    refine wpA_seq ?_
    refine wpA_region ?_
    refine Ops_quiet _ rfl rfl (QO.build0 rfl bd28) ?_
    refine Ops_loud rfl (LO.storeAll (cs := sqC sq0) rfl sz28 rfl rfl (sqC_one _) (sqC_length _) ((upd_ne _ _ n_b9_b2.ne.symm).trans (upd_same _ _ _)) (sqC_length _) (Chg.there n_b9_b2.ne Chg.here) rfl ?_)
    refine Ops_quiet _ rfl rfl (QO.assign rfl rfl) ?_
    refine Ops_nil ?_
    refine thenA_n ?_
    refine wpA_ret ?_
    obtain rfl := Option.some.inj hm
    exact retA_r (h2 := h) (Res.two rfl (res1.row (cs := sqC sq0) (hr := (rdAll ((upd_ne _ _ n_b9_b2.ne.symm).trans (upd_same _ _ _)))) sz28 rfl rfl (sqC_length _)) (rfl)) (Le.under (Le.under (Le.under (Le.refl _) hb1) hb2) hb9) ⟨rfl, rfl⟩
   rw [if_neg hid1] at hm
   exact absurd hm (by simp)

/-! loop.example/g01195/spec.DrawLeftQuotient -/
theorem c_spec_DrawLeftQuotient {l0 : (List Int)} {A0 : Option Addr} {c0 : Nat} {h : Hp} {r : Sq × Int × Int} (hm : m_spec_DrawLeftQuotient l0 = some r) (hs0 : RdS h A0 (ints .u8 l0)) :
    QC Try.prog 23 #[.slice A0 l0.length c0] h (.tuple #[.agg (sqC r.1).toArray, .int .u8 r.2.1, .int .u8 r.2.2]) := by
 unfold m_spec_DrawLeftQuotient at hm
 refine CC.enter Try.func23 rfl Try.ntmps23 rfl ?_
 refine wpA_seq ?_
 refine wpA_region ?_
 refine Ops_loud rfl (LO.alloc rfl zr28 rfl (fun b1 hb1 => ?_))
 refine Ops_quiet _ rfl rfl (QO.assign rfl rfl) ?_
 refine Ops_quiet _ rfl rfl (QO.assign rfl rfl) ?_
 refine Ops_nil ?_
 refine thenA_n ?_
 refine wpA_seq ?_
 refine wpA_region ?_
 refine Ops_quiet _ rfl rfl (QO.move rfl rfl) ?_
 have hq := Option.bind_eq_some_iff.1 hm; clear hm; obtain ⟨r1, hr1, hm⟩ := hq
 refine Ops_call _ _ rfl rfl (EO.fn rfl Try.func30 rfl rfl (Evs.cons rfl Evs.nil)) (QC.cc (c_spec_l01Pair (l0 := l0) (A0 := A0) (c0 := c0) hr1 (RdS.le hs0 (Le.under (Le.refl _) hb1))) ?_)
 refine Ops_quiet _ rfl rfl (QO.move rfl rfl) ?_
 refine Ops_quiet _ rfl rfl (QO.extract rfl rfl rfl) ?_
 refine Ops_quiet _ rfl rfl (QO.extract rfl rfl rfl) ?_
 refine Ops_quiet _ rfl rfl (QO.extract rfl rfl rfl) ?_
 refine Ops_loud rfl (LO.alloc rfl zr28 rfl (fun b2 hb2 => ?_))
 simp only [upd_noneA] at hb2
 obtain ⟨n_b2_b1, hb2⟩ := hb2
 refine Ops_loud rfl (LO.storeAll (cs := sqC r1.1) rfl sz28 rfl rfl (sqC_one _) (sqC_length _) (upd_same _ _ _) (sqC_length _) Chg.here rfl ?_)
 refine Ops_quiet _ rfl rfl (QO.assign rfl rfl) ?_
 refine Ops_quiet _ rfl rfl (QO.assign rfl rfl) ?_
 refine Ops_nil ?_
 refine thenA_n ?_
 refine wpA_seq ?_
 refine wpA_region ?_
 refine Ops_quiet _ rfl rfl (QO.loadRow (cs := sqC r1.1) (hr := (rdAll (upd_same _ _ _))) rfl sz28 rfl rfl (sqC_length _)) ?_
 refine Ops_quiet _ rfl rfl (QO.move rfl rfl) ?_
 refine Ops_quiet _ rfl rfl (QO.move rfl rfl) ?_
 refine Ops_loud rfl (LO.storeAll (cs := sqC r1.1) rfl sz28 rfl rfl (sqC_one _) (sqC_length _) ((upd_ne _ _ n_b2_b1.ne.symm).trans (upd_same _ _ _)) (sqC_length _) (Chg.there n_b2_b1.ne Chg.here) rfl ?_)
 refine Ops_quiet _ rfl rfl (QO.assign rfl rfl) ?_
 refine Ops_quiet _ rfl rfl (QO.assign rfl rfl) ?_
 refine Ops_nil ?_
 refine thenA_n ?_
 refine wpA_ret ?_
 obtain rfl := Option.some.inj hm
 exact retA_r (h2 := h) (Res.three rfl (res1.row (cs := sqC r1.1) (hr := (rdAll ((upd_ne _ _ n_b2_b1.ne.symm).trans (upd_same _ _ _)))) sz28 rfl rfl (sqC_length _)) (rfl) (rfl)) (Le.under (Le.under (Le.refl _) hb1) hb2) ⟨rfl, rfl⟩

/-! loop.example/g01195/spec.l01Left -/
theorem c_spec_l01Left {a0 : Sq} {a1 : Int} {a2 : Int} {h : Hp} {r : Int} (hm : m_spec_l01Left a0 a1 a2 = some r)  :
    QC Try.prog 49 #[.agg (sqC a0).toArray, .int .u8 a1, .int .u8 a2] h (.int .u8 r) := by
 unfold m_spec_l01Left at hm
 refine CC.enter Try.func49 rfl Try.ntmps49 rfl ?_
 refine wpA_seq ?_
 refine wpA_region ?_
 refine Ops_loud rfl (LO.boxAgg rfl rfl rfl (fun b1 hb1 => ?_))
 refine Ops_quiet _ rfl rfl (QO.assign rfl rfl) ?_
 refine Ops_nil ?_
 refine thenA_n ?_
 refine wpA_seq ?_
 refine wpA_region ?_
 refine Ops_quiet _ rfl rfl (QO.assign rfl rfl) ?_
 refine Ops_nil ?_
 refine thenA_n ?_
 refine wpA_seq ?_
 refine wpA_block ?_
 obtain ⟨R1, hR, hm⟩ := Option.bind_eq_some_iff.1 hm
 obtain ⟨k1, hk1⟩ := loopV_some hR
 clear hR
 refine wpA_mono (Q := fun e s' h' => match (generalizing := false) R1 with | .stop x id => e = .exit id ∧ ∃ (x1 : Int), x1 = x ∧ Sub s' [(1, .int .u8 a1), (2, .int .u8 a2), (3, .pointer (some ⟨b1, 0, none⟩)), (7, .int .u8 x1)] ∧ Le (upd (h) b1 (.own 28 (sqC a0) 101)) h' | .ret r => False | .next _ => False) ?_ ?_
 ·refine wpA_loop (fun k s' h' => ∃ (x1 : Int), loopW (m_spec_l01Left_l0 a0 a1 a2) k x1 = some R1 ∧ Sub s' [(1, .int .u8 a1), (2, .int .u8 a2), (3, .pointer (some ⟨b1, 0, none⟩)), (7, .int .u8 x1)] ∧ Le (upd (h) b1 (.own 28 (sqC a0) 101)) h') (m := k1) ⟨0, hk1, (Sub.cons rfl (Sub.cons rfl (Sub.cons rfl (Sub.cons rfl Sub.nil)))), (Le.upd_left (Le.under (Le.refl _) hb1) (upd_same _ _ _) (by first | rfl | (simp; done)))⟩ ?_
  rintro k1 s' h' ⟨x1, hk1, hsub, hle⟩
  refine wpA_weaken hsub.ok hle ?_
  clear hsub hle s' h'
  cases k1 with
  | zero => exact absurd hk1 (by simp [loopW])
  | succ k1 =>
   obtain ⟨o1, ho1, hk1⟩ := loopW_succ hk1
   unfold m_spec_l01Left_l0 at ho1
   try dsimp only at ho1
   refine wpA_seq ?_
   refine wpA_seq ?_
   refine wpA_region ?_
   refine Ops_quiet _ rfl rfl (QO.move rfl rfl) ?_
   refine Ops_quiet _ rfl rfl (QO.move rfl rfl) ?_
   refine Ops_quiet _ rfl rfl (QO.fieldAt (fo := 1) rfl sz28 rfl rfl sz26 rfl rfl) ?_
   have hq := chk ho1; clear ho1; obtain ⟨ck1, ho1⟩ := hq
   refine Ops_quiet _ rfl rfl (QO.idxArr rfl sz26 sz24 rfl rfl (by omega) (by omega)) ?_
   have hq := chk ho1; clear ho1; obtain ⟨ck2, ho1⟩ := hq
   refine Ops_quiet _ rfl rfl (QO.idxArr rfl sz24 sz5 rfl rfl (by omega) (by omega)) ?_
   refine Ops_quiet _ rfl rfl (QO.load rfl sz5 rfl rfl (by (refine (rd_own (upd_same _ _ _) _).trans ?_); exact sqC_get (by omega) (by omega))) ?_
   refine Ops_quiet _ rfl rfl (QO.move rfl rfl) ?_
   refine Ops_quiet _ rfl rfl (QO.bin rfl rfl rfl rfl) ?_
   refine Ops_nil ?_
   refine thenA_n ?_
   refine wpA_cond rfl (fun g1 => ?_) (fun g1 => ?_)
   ·replace ho1 := cond_t ho1 g1
    refine wpA_skip ?_
    refine thenA_n ?_
    refine wpA_block ?_
    refine wpA_region ?_
    refine Ops_quiet _ rfl rfl (QO.move rfl rfl) ?_
    refine Ops_quiet _ rfl rfl (QO.bin rfl rfl rfl rfl) ?_
    refine Ops_quiet _ rfl rfl (QO.assign rfl rfl) ?_
    refine Ops_nil ?_
    refine blockA_n ?_
    obtain rfl := Option.some.inj ho1
    dsimp only at hk1
    exact thenA_n ⟨k1, Nat.lt_succ_self _, _, hk1, (Sub.cons rfl (Sub.cons rfl (Sub.cons rfl (Sub.cons rfl Sub.nil)))), (Le.upd_left (Le.under (Le.refl _) hb1) (upd_same _ _ _) (by first | rfl | (simp; done)))⟩
   ·replace ho1 := cond_f ho1 g1
    refine wpA_exit ?_
    refine thenA_e ?_
    refine thenA_e ?_
    obtain rfl := Option.some.inj ho1
    obtain rfl := Option.some.inj hk1
    exact ⟨rfl, _, rfl, (Sub.cons rfl (Sub.cons rfl (Sub.cons rfl (Sub.cons rfl Sub.nil)))), (Le.upd_left (Le.under (Le.refl _) hb1) (upd_same _ _ _) (by first | rfl | (simp; done)))⟩
 ·intro e s' h' hq
  cases R1 with
  | next x => exact hq.elim
  | ret r => exact hq.elim
  | stop x id =>
   obtain ⟨rfl, x2, rfl, hsub1, hle1⟩ := hq
   try dsimp only at hm
   by_cases hid1 : id = 0
   ·subst hid1
    rw [if_pos rfl] at hm
    refine blockA_s ?_
    refine thenA_n ?_
    refine wpA_weaken hsub1.ok hle1 ?_
    refine wpA_seq ?_
    refine wpA_region ?_
    refine Ops_quiet _ rfl rfl (QO.move rfl rfl) ?_
    refine Ops_quiet _ rfl rfl (QO.assign rfl rfl) ?_
    refine Ops_nil ?_
    refine thenA_n ?_
    refine wpA_ret ?_
    obtain rfl := Option.some.inj hm
    exact retA_r (h2 := h) (Res.one rfl (rfl)) (Le.under (Le.refl _) hb1) ⟨rfl, rfl⟩
   rw [if_neg hid1] at hm
   exact absurd hm (by simp)

/-! loop.example/g01195/spec.LeftQuotient -/
theorem c_spec_LeftQuotient {a0 : Sq} {a1 : Int} {a2 : Int} {h : Hp} {r : Int × Int} (hm : m_spec_LeftQuotient a0 a1 a2 = some r)  :
    QC Try.prog 24 #[.agg (sqC a0).toArray, .int .u8 a1, .int .u8 a2] h (.tuple #[.int .u8 r.1, .int .i64 r.2]) := by
 unfold m_spec_LeftQuotient at hm
 refine CC.enter Try.func24 rfl Try.ntmps24 rfl ?_
 refine wpA_seq ?_
 refine wpA_region ?_
 refine Ops_loud rfl (LO.boxAgg rfl rfl rfl (fun b1 hb1 => ?_))
 refine Ops_quiet _ rfl rfl (QO.assign rfl rfl) ?_
 refine Ops_quiet _ rfl rfl (QO.assign rfl rfl) ?_
 refine Ops_nil ?_
 refine thenA_n ?_
 refine wpA_seq ?_
 refine wpA_seq ?_
 refine wpA_region ?_
 refine Ops_quiet _ rfl rfl (QO.loadRow (cs := sqC a0) (hr := (rdAll (upd_same _ _ _))) rfl sz28 rfl rfl (sqC_length _)) ?_
 refine Ops_quiet _ rfl rfl (QO.move rfl rfl) ?_
 refine Ops_quiet _ rfl rfl (QO.move rfl rfl) ?_
 have hq := Option.bind_eq_some_iff.1 hm; clear hm; obtain ⟨r1, hr1, hm⟩ := hq
 refine Ops_call _ _ rfl rfl (EO.fn rfl Try.func32 rfl rfl (Evs.cons rfl (Evs.cons rfl (Evs.cons rfl Evs.nil)))) (QC.cc (c_spec_l01Two hr1 ) ?_)
 refine Ops_quiet _ rfl rfl (QO.assign rfl rfl) ?_
 refine Ops_nil ?_
 refine thenA_n ?_
 refine wpA_seq ?_
 refine wpA_region ?_
 refine Ops_quiet _ rfl rfl (QO.move rfl rfl) ?_
 refine Ops_quiet _ rfl rfl (QO.bin rfl rfl rfl rfl) ?_
 refine Ops_nil ?_
 refine thenA_n ?_
 refine wpA_cond rfl (fun g1 => ?_) (fun g1 => ?_)
 ·replace hm := cond_t hm g1
  refine wpA_seq ?_
  refine wpA_region ?_
  refine Ops_quiet _ rfl rfl (QO.move rfl rfl) ?_
  refine Ops_quiet _ rfl rfl (QO.assign rfl rfl) ?_
  refine Ops_quiet _ rfl rfl (QO.assign rfl rfl) ?_
  refine Ops_nil ?_
  refine thenA_n ?_
  refine wpA_ret ?_
  refine thenA_r ?_
  obtain rfl := Option.some.inj hm
  exact retA_r (h2 := h) (Res.two rfl (rfl) (rfl)) (Le.under (Le.refl _) hb1) ⟨rfl, rfl⟩
 ·replace hm := cond_f hm g1
  refine wpA_skip ?_
  refine thenA_n ?_
  refine wpA_seq ?_
  refine wpA_region ?_
  refine Ops_quiet _ rfl rfl (QO.loadRow (cs := sqC a0) (hr := (rdAll (upd_same _ _ _))) rfl sz28 rfl rfl (sqC_length _)) ?_
  refine Ops_quiet _ rfl rfl (QO.move rfl rfl) ?_
  refine Ops_quiet _ rfl rfl (QO.move rfl rfl) ?_
  have hq := Option.bind_eq_some_iff.1 hm; clear hm; obtain ⟨r2, hr2, hm⟩ := hq
  refine Ops_call _ _ rfl rfl (EO.fn rfl Try.func49 rfl rfl (Evs.cons rfl (Evs.cons rfl (Evs.cons rfl Evs.nil)))) (QC.cc (c_spec_l01Left hr2 ) ?_)
  refine Ops_quiet _ rfl rfl (QO.assign rfl rfl) ?_
  refine Ops_quiet _ rfl rfl (QO.assign rfl rfl) ?_
  refine Ops_nil ?_
  refine thenA_n ?_
  refine wpA_ret ?_
  obtain rfl := Option.some.inj hm
  exact retA_r (h2 := h) (Res.two rfl (rfl) (rfl)) (Le.under (Le.refl _) hb1) ⟨rfl, rfl⟩

/-! loop.example/g01195/spec.l01Right -/
theorem c_spec_l01Right {a0 : Sq} {a1 : Int} {a2 : Int} {h : Hp} {r : Int} (hm : m_spec_l01Right a0 a1 a2 = some r)  :
    QC Try.prog 50 #[.agg (sqC a0).toArray, .int .u8 a1, .int .u8 a2] h (.int .u8 r) := by
 unfold m_spec_l01Right at hm
 refine CC.enter Try.func50 rfl Try.ntmps50 rfl ?_
 refine wpA_seq ?_
 refine wpA_region ?_
 refine Ops_loud rfl (LO.boxAgg rfl rfl rfl (fun b1 hb1 => ?_))
 refine Ops_quiet _ rfl rfl (QO.assign rfl rfl) ?_
 refine Ops_nil ?_
 refine thenA_n ?_
 refine wpA_seq ?_
 refine wpA_region ?_
 refine Ops_quiet _ rfl rfl (QO.assign rfl rfl) ?_
 refine Ops_nil ?_
 refine thenA_n ?_
 refine wpA_seq ?_
 refine wpA_block ?_
 obtain ⟨R1, hR, hm⟩ := Option.bind_eq_some_iff.1 hm
 obtain ⟨k1, hk1⟩ := loopV_some hR
 clear hR
 refine wpA_mono (Q := fun e s' h' => match (generalizing := false) R1 with | .stop x id => e = .exit id ∧ ∃ (x1 : Int), x1 = x ∧ Sub s' [(1, .int .u8 a1), (2, .int .u8 a2), (3, .pointer (some ⟨b1, 0, none⟩)), (7, .int .u8 x1)] ∧ Le (upd (h) b1 (.own 28 (sqC a0) 101)) h' | .ret r => False | .next _ => False) ?_ ?_
 ·refine wpA_loop (fun k s' h' => ∃ (x1 : Int), loopW (m_spec_l01Right_l0 a0 a1 a2) k x1 = some R1 ∧ Sub s' [(1, .int .u8 a1), (2, .int .u8 a2), (3, .pointer (some ⟨b1, 0, none⟩)), (7, .int .u8 x1)] ∧ Le (upd (h) b1 (.own 28 (sqC a0) 101)) h') (m := k1) ⟨0, hk1, (Sub.cons rfl (Sub.cons rfl (Sub.cons rfl (Sub.cons rfl Sub.nil)))), (Le.upd_left (Le.under (Le.refl _) hb1) (upd_same _ _ _) (by first | rfl | (simp; done)))⟩ ?_
  rintro k1 s' h' ⟨x1, hk1, hsub, hle⟩
  refine wpA_weaken hsub.ok hle ?_
  clear hsub hle s' h'
  cases k1 with
  | zero => exact absurd hk1 (by simp [loopW])
  | succ k1 =>
   obtain ⟨o1, ho1, hk1⟩ := loopW_succ hk1
   unfold m_spec_l01Right_l0 at ho1
   try dsimp only at ho1
   refine wpA_seq ?_
   refine wpA_seq ?_
   refine wpA_region ?_
   refine Ops_quiet _ rfl rfl (QO.move rfl rfl) ?_
   refine Ops_quiet _ rfl rfl (QO.move rfl rfl) ?_
   refine Ops_quiet _ rfl rfl (QO.fieldAt (fo := 1) rfl sz28 rfl rfl sz26 rfl rfl) ?_
   have hq := chk ho1; clear ho1; obtain ⟨ck1, ho1⟩ := hq
   refine Ops_quiet _ rfl rfl (QO.idxArr rfl sz26 sz24 rfl rfl (by omega) (by omega)) ?_
   have hq := chk ho1; clear ho1; obtain ⟨ck2, ho1⟩ := hq
   refine Ops_quiet _ rfl rfl (QO.idxArr rfl sz24 sz5 rfl rfl (by omega) (by omega)) ?_
   refine Ops_quiet _ rfl rfl (QO.load rfl sz5 rfl rfl (by (refine (rd_own (upd_same _ _ _) _).trans ?_); exact sqC_get (by omega) (by omega))) ?_
   refine Ops_quiet _ rfl rfl (QO.move rfl rfl) ?_
   refine Ops_quiet _ rfl rfl (QO.bin rfl rfl rfl rfl) ?_
   refine Ops_nil ?_
   refine thenA_n ?_
   refine wpA_cond rfl (fun g1 => ?_) (fun g1 => ?_)
   ·replace ho1 := cond_t ho1 g1
    refine wpA_skip ?_
    refine thenA_n ?_
    refine wpA_block ?_
    refine wpA_region ?_
    refine Ops_quiet _ rfl rfl (QO.move rfl rfl) ?_
    refine Ops_quiet _ rfl rfl (QO.bin rfl rfl rfl rfl) ?_
    refine Ops_quiet _ rfl rfl (QO.assign rfl rfl) ?_
    refine Ops_nil ?_
    refine blockA_n ?_
    obtain rfl := Option.some.inj ho1
    dsimp only at hk1
    exact thenA_n ⟨k1, Nat.lt_succ_self _, _, hk1, (Sub.cons rfl (Sub.cons rfl (Sub.cons rfl (Sub.cons rfl Sub.nil)))), (Le.upd_left (Le.under (Le.refl _) hb1) (upd_same _ _ _) (by first | rfl | (simp; done)))⟩
   ·replace ho1 := cond_f ho1 g1
    refine wpA_exit ?_
    refine thenA_e ?_
    refine thenA_e ?_
    obtain rfl := Option.some.inj ho1
    obtain rfl := Option.some.inj hk1
    exact ⟨rfl, _, rfl, (Sub.cons rfl (Sub.cons rfl (Sub.cons rfl (Sub.cons rfl Sub.nil)))), (Le.upd_left (Le.under (Le.refl _) hb1) (upd_same _ _ _) (by first | rfl | (simp; done)))⟩
 ·intro e s' h' hq
  cases R1 with
  | next x => exact hq.elim
  | ret r => exact hq.elim
  | stop x id =>
   obtain ⟨rfl, x2, rfl, hsub1, hle1⟩ := hq
   try dsimp only at hm
   by_cases hid1 : id = 0
   ·subst hid1
    rw [if_pos rfl] at hm
    refine blockA_s ?_
    refine thenA_n ?_
    refine wpA_weaken hsub1.ok hle1 ?_
    refine wpA_seq ?_
    refine wpA_region ?_
    refine Ops_quiet _ rfl rfl (QO.move rfl rfl) ?_
    refine Ops_quiet _ rfl rfl (QO.assign rfl rfl) ?_
    refine Ops_nil ?_
    refine thenA_n ?_
    refine wpA_ret ?_
    obtain rfl := Option.some.inj hm
    exact retA_r (h2 := h) (Res.one rfl (rfl)) (Le.under (Le.refl _) hb1) ⟨rfl, rfl⟩
   rw [if_neg hid1] at hm
   exact absurd hm (by simp)

/-! loop.example/g01195/spec.RightQuotient -/
theorem c_spec_RightQuotient {a0 : Sq} {a1 : Int} {a2 : Int} {h : Hp} {r : Int × Int} (hm : m_spec_RightQuotient a0 a1 a2 = some r)  :
    QC Try.prog 25 #[.agg (sqC a0).toArray, .int .u8 a1, .int .u8 a2] h (.tuple #[.int .u8 r.1, .int .i64 r.2]) := by
 unfold m_spec_RightQuotient at hm
 refine CC.enter Try.func25 rfl Try.ntmps25 rfl ?_
 refine wpA_seq ?_
 refine wpA_region ?_
 refine Ops_loud rfl (LO.boxAgg rfl rfl rfl (fun b1 hb1 => ?_))
 refine Ops_quiet _ rfl rfl (QO.assign rfl rfl) ?_
 refine Ops_quiet _ rfl rfl (QO.assign rfl rfl) ?_
 refine Ops_nil ?_
 refine thenA_n ?_
 refine wpA_seq ?_
 refine wpA_seq ?_
 refine wpA_region ?_
 refine Ops_quiet _ rfl rfl (QO.loadRow (cs := sqC a0) (hr := (rdAll (upd_same _ _ _))) rfl sz28 rfl rfl (sqC_length _)) ?_
 refine Ops_quiet _ rfl rfl (QO.move rfl rfl) ?_
 refine Ops_quiet _ rfl rfl (QO.move rfl rfl) ?_
 have hq := Option.bind_eq_some_iff.1 hm; clear hm; obtain ⟨r1, hr1, hm⟩ := hq
 refine Ops_call _ _ rfl rfl (EO.fn rfl Try.func32 rfl rfl (Evs.cons rfl (Evs.cons rfl (Evs.cons rfl Evs.nil)))) (QC.cc (c_spec_l01Two hr1 ) ?_)
 refine Ops_quiet _ rfl rfl (QO.assign rfl rfl) ?_
 refine Ops_nil ?_
 refine thenA_n ?_
 refine wpA_seq ?_
 refine wpA_region ?_
 refine Ops_quiet _ rfl rfl (QO.move rfl rfl) ?_
 refine Ops_quiet _ rfl rfl (QO.bin rfl rfl rfl rfl) ?_
 refine Ops_nil ?_
 refine thenA_n ?_
 refine wpA_cond rfl (fun g1 => ?_) (fun g1 => ?_)
 ·replace hm := cond_t hm g1
  refine wpA_seq ?_
  refine wpA_region ?_
  refine Ops_quiet _ rfl rfl (QO.move rfl rfl) ?_
  refine Ops_quiet _ rfl rfl (QO.assign rfl rfl) ?_
  refine Ops_quiet _ rfl rfl (QO.assign rfl rfl) ?_
  refine Ops_nil ?_
  refine thenA_n ?_
  refine wpA_ret ?_
  refine thenA_r ?_
  obtain rfl := Option.some.inj hm
  exact retA_r (h2 := h) (Res.two rfl (rfl) (rfl)) (Le.under (Le.refl _) hb1) ⟨rfl, rfl⟩
 ·replace hm := cond_f hm g1
  refine wpA_skip ?_
  refine thenA_n ?_
  refine wpA_seq ?_
  refine wpA_region ?_
  refine Ops_quiet _ rfl rfl (QO.loadRow (cs := sqC a0) (hr := (rdAll (upd_same _ _ _))) rfl sz28 rfl rfl (sqC_length _)) ?_
  refine Ops_quiet _ rfl rfl (QO.move rfl rfl) ?_
  refine Ops_quiet _ rfl rfl (QO.move rfl rfl) ?_
  have hq := Option.bind_eq_some_iff.1 hm; clear hm; obtain ⟨r2, hr2, hm⟩ := hq
  refine Ops_call _ _ rfl rfl (EO.fn rfl Try.func50 rfl rfl (Evs.cons rfl (Evs.cons rfl (Evs.cons rfl Evs.nil)))) (QC.cc (c_spec_l01Right hr2 ) ?_)
  refine Ops_quiet _ rfl rfl (QO.assign rfl rfl) ?_
  refine Ops_quiet _ rfl rfl (QO.assign rfl rfl) ?_
  refine Ops_nil ?_
  refine thenA_n ?_
  refine wpA_ret ?_
  obtain rfl := Option.some.inj hm
  exact retA_r (h2 := h) (Res.two rfl (rfl) (rfl)) (Le.under (Le.refl _) hb1) ⟨rfl, rfl⟩

/-! loop.example/g01195/spec.ListsOfSquare -/
theorem c_spec_ListsOfSquare {a0 : Sq} {h : Hp} {r : (List (List Int)) × Int} (hm : m_spec_ListsOfSquare a0 = some r)  :
    CC Try.prog 53 #[.agg (sqC a0).toArray] (h) (fun v h' => ∃ (g0 : List (Option Nat × Nat)) (b0 : Option Nat) (cap0 : Nat), FrF (h) g0 ∧ OkF g0 r.1 ∧ FrO (famH (h) 2 1 (ints .i64) g0 r.1) b0 ∧ OkO b0 r.1.length cap0 ∧ v = .tuple #[.slice (adO b0) r.1.length cap0, .int .i64 r.2] ∧ h' = updO (famH (h) 2 1 (ints .i64) g0 r.1) b0 (.own 57 (rowsC g0 r.1) (cap0 * 1))) := by
 unfold m_spec_ListsOfSquare at hm
 refine CC.enter Try.func53 rfl Try.ntmps53 rfl ?_
 refine wpA_seq ?_
 refine wpA_region ?_
 refine Ops_loud rfl (LO.boxAgg rfl rfl rfl (fun b1 hb1 => ?_))
 refine Ops_quiet _ rfl rfl (QO.assign rfl rfl) ?_
 refine Ops_quiet _ rfl rfl (QO.assign rfl rfl) ?_
 refine Ops_nil ?_
 refine thenA_n ?_
 refine wpA_seq ?_
 refine wpA_seq ?_
 refine wpA_region ?_
 refine Ops_quiet _ rfl rfl (QO.loadRow (cs := sqC a0) (hr := (rdAll (upd_same _ _ _))) rfl sz28 rfl rfl (sqC_length _)) ?_
 have hq := Option.bind_eq_some_iff.1 hm; clear hm; obtain ⟨r1, hr1, hm⟩ := hq
 refine Ops_call _ _ rfl rfl (EO.fn rfl Try.func34 rfl rfl (Evs.cons rfl Evs.nil)) (QC.cc (c_spec_l01Is hr1 ) ?_)
 refine Ops_quiet _ rfl rfl (QO.not rfl rfl) ?_
 refine Ops_nil ?_
 refine thenA_n ?_
 refine wpA_cond rfl (fun g1 => ?_) (fun g1 => ?_)
 ·replace hm := cond_t hm g1
  refine wpA_seq ?_
  refine wpA_region ?_
  refine Ops_quiet _ rfl rfl (QO.assign rfl rfl) ?_
  refine Ops_quiet _ rfl rfl (QO.assign rfl rfl) ?_
  refine Ops_nil ?_
  refine thenA_n ?_
  refine wpA_ret ?_
  refine thenA_r ?_
  obtain rfl := Option.some.inj hm
  exact retA_r (h2 := h) (Res.two rfl (rfl) (rfl)) (Le.under (Le.refl _) hb1) ⟨[], none, 0, FrF.nil, OkF.nil, frO_none, OkO.none, rfl, rfl⟩
 ·replace hm := cond_f hm g1
  refine wpA_skip ?_
  refine thenA_n ?_
  refine wpA_seq ?_
  refine wpA_region ?_
  refine Ops_loud rfl (LO.sliceNil rfl sz39 sz57 rfl (fun b2 hb2 => ?_))
  simp only [upd_noneA] at hb2
  obtain ⟨n_b2_b1, hb2⟩ := hb2
  refine Ops_quiet _ rfl rfl (QO.assign rfl rfl) ?_
  refine Ops_nil ?_
  refine thenA_n ?_
  refine wpA_seq ?_
  refine wpA_seq ?_
  refine wpA_region ?_
  refine Ops_quiet _ rfl rfl (QO.assign rfl rfl) ?_
  refine Ops_nil ?_
  refine thenA_n ?_
  refine wpA_block ?_
  obtain ⟨R1, hR, hm⟩ := Option.bind_eq_some_iff.1 hm
  obtain ⟨k1, hk1⟩ := loopV_some hR
  clear hR
  refine wpA_mono (Q := fun e s' h' => match (generalizing := false) R1 with | .stop x id => e = .exit id ∧ ∃ (x1 : (List (List Int))) (x2 : Int) (g_f1 : List (Option Nat × Nat)) (b3 cap_b3 : Nat), (x1, x2) = x ∧ FrF (upd (h) b1 (.own 28 (sqC a0) 101)) g_f1 ∧ OkF g_f1 x1 ∧ (famH (upd (h) b1 (.own 28 (sqC a0) 101)) 2 1 (ints .i64) g_f1 x1) b3 = none ∧ x1.length ≤ cap_b3 ∧ cap_b3 ≤ maxLen ∧ Sub s' [(1, .pointer (some ⟨b1, 0, none⟩)), (4, .slice (some ⟨b3, 0, none⟩) x1.length cap_b3), (5, .int .i64 x2)] ∧ Le (upd (famH (upd (h) b1 (.own 28 (sqC a0) 101)) 2 1 (ints .i64) g_f1 x1) b3 (.own 57 (rowsC g_f1 x1) (cap_b3 * 1))) h' | .ret r => False | .next _ => False) ?_ ?_
  ·refine wpA_loop (fun k s' h' => ∃ (x1 : (List (List Int))) (x2 : Int) (g_f1 : List (Option Nat × Nat)) (b3 cap_b3 : Nat), loopW (m_spec_ListsOfSquare_l0 a0) k (x1, x2) = some R1 ∧ FrF (upd (h) b1 (.own 28 (sqC a0) 101)) g_f1 ∧ OkF g_f1 x1 ∧ (famH (upd (h) b1 (.own 28 (sqC a0) 101)) 2 1 (ints .i64) g_f1 x1) b3 = none ∧ x1.length ≤ cap_b3 ∧ cap_b3 ≤ maxLen ∧ Sub s' [(1, .pointer (some ⟨b1, 0, none⟩)), (4, .slice (some ⟨b3, 0, none⟩) x1.length cap_b3), (5, .int .i64 x2)] ∧ Le (upd (famH (upd (h) b1 (.own 28 (sqC a0) 101)) 2 1 (ints .i64) g_f1 x1) b3 (.own 57 (rowsC g_f1 x1) (cap_b3 * 1))) h') (m := k1) ⟨[], 0, [], b2, 0, hk1, FrF.nil, OkF.nil, (none_famH NeF.nil (none_upd n_b2_b1.ne hb2)), (by first | assumption | (simp; done) | omega), (by first | assumption | (simp only [maxLen]; omega)), (Sub.cons rfl (Sub.cons rfl (Sub.cons rfl Sub.nil))), (Le.upd_left (Le.upd_left (Le.under (Le.under (Le.refl _) hb1) hb2) ((upd_ne _ _ n_b2_b1.ne.symm).trans (upd_same _ _ _)) (by first | rfl | (simp; done))) (upd_same _ _ _) (by first | rfl | (simp; done)))⟩ ?_
   rintro k1 s' h' ⟨x1, x2, g_f1, b3, cap_b3, hk1, hf1, okf_f1, hb3, hk_b3, hc_b3, hsub, hle⟩
   refine wpA_weaken hsub.ok hle ?_
   clear hsub hle s' h'
   simp only [frF_updA, frF_updOA] at hf1
   obtain ⟨n_f1_b1, hf1⟩ := hf1
   simp only [upd_noneA, updO_noneA, famH_noneA] at hb3
   obtain ⟨n_b3_f1, n_b3_b1, hb3⟩ := hb3
   cases k1 with
   | zero => exact absurd hk1 (by simp [loopW])
   | succ k1 =>
    obtain ⟨o1, ho1, hk1⟩ := loopW_succ hk1
    unfold m_spec_ListsOfSquare_l0 at ho1
    try dsimp only at ho1
    refine wpA_seq ?_
    refine wpA_seq ?_
    refine wpA_region ?_
    refine Ops_quiet _ rfl rfl (QO.move rfl rfl) ?_
    refine Ops_quiet _ rfl rfl (QO.fieldAt (fo := 0) rfl sz28 rfl rfl sz2 rfl rfl) ?_
    refine Ops_quiet _ rfl rfl (QO.load rfl sz2 rfl rfl (by (refine (rd_own ((upd_ne _ _ n_b3_b1.ne.symm).trans ((famH_ne n_f1_b1).trans (upd_same _ _ _))) _).trans ?_); exact rfl)) ?_
    refine Ops_quiet _ rfl rfl (QO.bin rfl rfl rfl rfl) ?_
    refine Ops_nil ?_
    refine thenA_n ?_
    refine wpA_cond rfl (fun g2 => ?_) (fun g2 => ?_)
    ·replace ho1 := cond_t ho1 g2
     refine wpA_skip ?_
     refine thenA_n ?_
     refine wpA_seq ?_
     refine wpA_block ?_
     refine wpA_seq ?_
     refine wpA_region ?_
     refine Ops_loud rfl (LO.sliceNil rfl sz57 sz2 rfl (fun b4 hb4 => ?_))
     simp only [upd_noneA, updO_noneA, famH_noneA] at hb4
     obtain ⟨n_b4_b3, n_b4_f1, n_b4_b1, hb4⟩ := hb4
     refine Ops_quiet _ rfl rfl (QO.assign rfl rfl) ?_
     refine Ops_nil ?_
     refine thenA_n ?_
     refine wpA_seq ?_
     refine wpA_seq ?_
     refine wpA_region ?_
     refine Ops_quiet _ rfl rfl (QO.assign rfl rfl) ?_
     refine Ops_nil ?_
     refine thenA_n ?_
     refine wpA_block ?_
     obtain ⟨R2, hR, ho1⟩ := Option.bind_eq_some_iff.1 ho1
     obtain ⟨k2, hk2⟩ := loopV_some hR
     clear hR
     refine wpA_mono (Q := fun e s' h' => match (generalizing := false) R2 with | .stop x id => e = .exit id ∧ ∃ (x3 : (List Int)) (x4 : Int) (b5 cap_b5 : Nat), (x3, x4) = x ∧ (upd (famH (upd (h) b1 (.own 28 (sqC a0) 101)) 2 1 (ints .i64) g_f1 x1) b3 (.own 57 (rowsC g_f1 x1) (cap_b3 * 1))) b5 = none ∧ x3.length ≤ cap_b5 ∧ cap_b5 ≤ maxLen ∧ Sub s' [(1, .pointer (some ⟨b1, 0, none⟩)), (4, .slice (some ⟨b3, 0, none⟩) x1.length cap_b3), (5, .int .i64 x2), (6, .slice (some ⟨b5, 0, none⟩) x3.length cap_b5), (7, .int .i64 x4)] ∧ Le (upd (upd (famH (upd (h) b1 (.own 28 (sqC a0) 101)) 2 1 (ints .i64) g_f1 x1) b3 (.own 57 (rowsC g_f1 x1) (cap_b3 * 1))) b5 (.own 2 (ints .i64 x3) (cap_b5 * 1))) h' | .ret r => False | .next _ => False) ?_ ?_
     ·refine wpA_loop (fun k s' h' => ∃ (x3 : (List Int)) (x4 : Int) (b5 cap_b5 : Nat), loopW (m_spec_ListsOfSquare_l1 a0 x2) k (x3, x4) = some R2 ∧ (upd (famH (upd (h) b1 (.own 28 (sqC a0) 101)) 2 1 (ints .i64) g_f1 x1) b3 (.own 57 (rowsC g_f1 x1) (cap_b3 * 1))) b5 = none ∧ x3.length ≤ cap_b5 ∧ cap_b5 ≤ maxLen ∧ Sub s' [(1, .pointer (some ⟨b1, 0, none⟩)), (4, .slice (some ⟨b3, 0, none⟩) x1.length cap_b3), (5, .int .i64 x2), (6, .slice (some ⟨b5, 0, none⟩) x3.length cap_b5), (7, .int .i64 x4)] ∧ Le (upd (upd (famH (upd (h) b1 (.own 28 (sqC a0) 101)) 2 1 (ints .i64) g_f1 x1) b3 (.own 57 (rowsC g_f1 x1) (cap_b3 * 1))) b5 (.own 2 (ints .i64 x3) (cap_b5 * 1))) h') (m := k2) ⟨[], 0, b4, 0, hk2, (none_upd n_b4_b3.ne (none_famH n_b4_f1 (none_upd n_b4_b1.ne hb4))), (by first | assumption | (simp; done) | omega), (by first | assumption | (simp only [maxLen]; omega)), (Sub.cons rfl (Sub.cons rfl (Sub.cons rfl (Sub.cons rfl (Sub.cons rfl Sub.nil))))), (Le.upd_left (Le.upd_left (Le.famH_left (Le.upd_left (Le.under (Le.under (Le.underF (Le.under (Le.refl _) hb1) hf1) hb3) hb4) ((upd_ne _ _ n_b4_b1.ne.symm).trans ((upd_ne _ _ n_b3_b1.ne.symm).trans ((famH_ne n_f1_b1).trans (upd_same _ _ _)))) (by first | rfl | (simp; done))) okf_f1 (fun i hi => (LkO.there (NeF.neO n_b4_f1 i) (LkO.there (NeF.neO n_b3_f1 i) (famH_row okf_f1 hi))))) ((upd_ne _ _ n_b4_b3.ne.symm).trans (upd_same _ _ _)) (by first | rfl | (simp; done))) (upd_same _ _ _) (by first | rfl | (simp; done)))⟩ ?_
      rintro k2 s' h' ⟨x3, x4, b5, cap_b5, hk2, hb5, hk_b5, hc_b5, hsub, hle⟩
      refine wpA_weaken hsub.ok hle ?_
      clear hsub hle s' h'
      simp only [upd_noneA, updO_noneA, famH_noneA] at hb5
      obtain ⟨n_b5_b3, n_b5_f1, n_b5_b1, hb5⟩ := hb5
      cases k2 with
      | zero => exact absurd hk2 (by simp [loopW])
      | succ k2 =>
       obtain ⟨o2, ho2, hk2⟩ := loopW_succ hk2
       unfold m_spec_ListsOfSquare_l1 at ho2
       try dsimp only at ho2
       refine wpA_seq ?_
       refine wpA_seq ?_
       refine wpA_region ?_
       refine Ops_quiet _ rfl rfl (QO.move rfl rfl) ?_
       refine Ops_quiet _ rfl rfl (QO.fieldAt (fo := 0) rfl sz28 rfl rfl sz2 rfl rfl) ?_
       refine Ops_quiet _ rfl rfl (QO.load rfl sz2 rfl rfl (by (refine (rd_own ((upd_ne _ _ n_b5_b1.ne.symm).trans ((upd_ne _ _ n_b3_b1.ne.symm).trans ((famH_ne n_f1_b1).trans (upd_same _ _ _)))) _).trans ?_); exact rfl)) ?_
       refine Ops_quiet _ rfl rfl (QO.bin rfl rfl rfl rfl) ?_
       refine Ops_nil ?_
       refine thenA_n ?_
       refine wpA_cond rfl (fun g3 => ?_) (fun g3 => ?_)
       ·replace ho2 := cond_t ho2 g3
        refine wpA_skip ?_
        refine thenA_n ?_
        refine wpA_seq ?_
        refine wpA_block ?_
        refine wpA_region ?_
        refine Ops_quiet _ rfl rfl (QO.move rfl rfl) ?_
        refine Ops_quiet _ rfl rfl (QO.move rfl rfl) ?_
        refine Ops_quiet _ rfl rfl (QO.move rfl rfl) ?_
        refine Ops_quiet _ rfl rfl (QO.fieldAt (fo := 1) rfl sz28 rfl rfl sz26 rfl rfl) ?_
        have hq := chk ho2; clear ho2; obtain ⟨ck1, ho2⟩ := hq
        refine Ops_quiet _ rfl rfl (QO.idxArr rfl sz26 sz24 rfl rfl (by omega) (by omega)) ?_
        have hq := chk ho2; clear ho2; obtain ⟨ck2, ho2⟩ := hq
        refine Ops_quiet _ rfl rfl (QO.idxArr rfl sz24 sz5 rfl rfl (by omega) (by omega)) ?_
        refine Ops_quiet _ rfl rfl (QO.load rfl sz5 rfl rfl (by (refine (rd_own ((upd_ne _ _ n_b5_b1.ne.symm).trans ((upd_ne _ _ n_b3_b1.ne.symm).trans ((famH_ne n_f1_b1).trans (upd_same _ _ _)))) _).trans ?_); exact sqC_get (by omega) (by omega))) ?_
        refine Ops_quiet _ rfl rfl (QO.conv rfl sz5 sz2 rfl) ?_
        refine Ops_loud rfl (LO.slice1 (r := ints .i64 [(IntKind.i64.wrap (a0.t (x2).toNat (x4).toNat))]) rfl sz57 sz2 zr2 (by first | rfl | (simp [rowsC_length, rowsA_length, mpC_length, sqC_length, tbC_length, tabI_length, tabB_length, ints_length, plsC_length, trC_length, sqsC_length, strsC_length, boolsC_length, tbB_length, List.length_append, List.length_cons, List.length_nil, List.length_set, List.length_replicate, rep_length]; done)) (by decide) (by decide) rfl rfl (by first | rfl | (simp [rowsC_length, rowsA_length, mpC_length, sqC_length, tbC_length, tabI_length, tabB_length, ints_length, plsC_length, trC_length, sqsC_length, strsC_length, boolsC_length, tbB_length, List.length_append, List.length_cons, List.length_nil, List.length_set, List.length_replicate, rep_length]; done)) rfl (fun b6 hb6 => ?_))
        simp only [upd_noneA, updO_noneA, famH_noneA] at hb6
        obtain ⟨n_b6_b5, n_b6_b3, n_b6_f1, n_b6_b1, hb6⟩ := hb6
        have hq := chk ho2; clear ho2; obtain ⟨ck3, ho2⟩ := hq
        refine Ops_loud rfl (LO.append2 (ys := ints .i64 [(IntKind.i64.wrap (a0.t (x2).toNat (x4).toNat))]) (k' := (x3 ++ [(IntKind.i64.wrap (a0.t (x2).toNat (x4).toNat))]).length) (xs' := ints .i64 (x3 ++ [(IntKind.i64.wrap (a0.t (x2).toNat (x4).toNat))])) rfl sz57 el2 rfl rfl (Del.drop n_b6_b5.ne (none_upd n_b6_b3.ne (none_famH n_b6_f1 (none_upd n_b6_b1.ne hb6))) (Del.here (none_upd n_b5_b3.ne (none_famH n_b5_f1 (none_upd n_b5_b1.ne hb5))))) (by first | assumption | omega) (by first | assumption | (simp only [maxLen]; omega)) (by first | rfl | (simp [rowsC_length, rowsA_length, mpC_length, sqC_length, tbC_length, tabI_length, tabB_length, ints_length, plsC_length, trC_length, sqsC_length, strsC_length, boolsC_length, tbB_length, List.length_append, List.length_cons, List.length_nil, List.length_set, List.length_replicate, rep_length]; done) | (simp [rowsC_length, rowsA_length, mpC_length, sqC_length, tbC_length, tabI_length, tabB_length, ints_length, plsC_length, trC_length, sqsC_length, strsC_length, boolsC_length, tbB_length, List.length_append, List.length_cons, List.length_nil, List.length_set, List.length_replicate, rep_length]; omega)) (by first | rfl | (simp [rowsC_length, rowsA_length, mpC_length, sqC_length, tbC_length, tabI_length, tabB_length, ints_length, plsC_length, trC_length, sqsC_length, strsC_length, boolsC_length, tbB_length, List.length_append, List.length_cons, List.length_nil, List.length_set, List.length_replicate, rep_length]; done) | (simp [rowsC_length, rowsA_length, mpC_length, sqC_length, tbC_length, tabI_length, tabB_length, ints_length, plsC_length, trC_length, sqsC_length, strsC_length, boolsC_length, tbB_length, List.length_append, List.length_cons, List.length_nil, List.length_set, List.length_replicate, rep_length]; omega)) (RdS.own (upd_same _ _ _)) (by first | assumption | exact tabI_one _ _ _ | exact tbC_one _ | exact sqC_one _ | exact tabB_one _ _ | exact ints_one _ _ | exact plsC_one _ | exact strsC_one _ | exact srcC_one _ _ _ _ | (intro v hv; simp at hv; subst hv; rfl)) (by decide) (by omega) (by decide) (by decide) rfl (by first | rfl | (simp [rowsC_length, rowsA_length, mpC_length, sqC_length, tbC_length, tabI_length, tabB_length, ints_length, plsC_length, trC_length, sqsC_length, strsC_length, boolsC_length, tbB_length, List.length_append, List.length_cons, List.length_nil, List.length_set, List.length_replicate, rep_length]; done) | (simp [rowsC_length, rowsA_length, mpC_length, sqC_length, tbC_length, tabI_length, tabB_length, ints_length, plsC_length, trC_length, sqsC_length, strsC_length, boolsC_length, tbB_length, List.length_append, List.length_cons, List.length_nil, List.length_set, List.length_replicate, rep_length]; omega)) (by first | rfl | (simp [ints, plsC, sqsC, boolsC, strsC]; done)) (fun b7 cap_b7 hb7 hk_b7 hc_b7 => ?_))
        simp only [upd_noneA, updO_noneA, famH_noneA] at hb7
        obtain ⟨n_b7_b3, n_b7_f1, n_b7_b1, hb7⟩ := hb7
        refine Ops_quiet _ rfl rfl (QO.assign rfl rfl) ?_
        refine Ops_nil ?_
        refine blockA_n ?_
        refine thenA_n ?_
        refine wpA_region ?_
        refine Ops_quiet _ rfl rfl (QO.move rfl rfl) ?_
        refine Ops_quiet _ rfl rfl (QO.bin rfl rfl rfl rfl) ?_
        refine Ops_quiet _ rfl rfl (QO.assign rfl rfl) ?_
        refine Ops_nil ?_
        obtain rfl := Option.some.inj ho2
        dsimp only at hk2
        exact thenA_n ⟨k2, Nat.lt_succ_self _, _, _, b7, cap_b7, hk2, (none_upd n_b7_b3.ne (none_famH n_b7_f1 (none_upd n_b7_b1.ne hb7))), (by first | assumption | (simp; done) | omega), (by first | assumption | (simp only [maxLen]; omega)), (Sub.cons rfl (Sub.cons rfl (Sub.cons rfl (Sub.cons rfl (Sub.cons rfl Sub.nil))))), (Le.upd_left (Le.upd_left (Le.famH_left (Le.upd_left (Le.under (Le.under (Le.underF (Le.under (Le.refl _) hb1) hf1) hb3) hb7) ((upd_ne _ _ n_b7_b1.ne.symm).trans ((upd_ne _ _ n_b3_b1.ne.symm).trans ((famH_ne n_f1_b1).trans (upd_same _ _ _)))) (by first | rfl | (simp; done))) okf_f1 (fun i hi => (LkO.there (NeF.neO n_b7_f1 i) (LkO.there (NeF.neO n_b3_f1 i) (famH_row okf_f1 hi))))) ((upd_ne _ _ n_b7_b3.ne.symm).trans (upd_same _ _ _)) (by first | rfl | (simp; done))) (upd_same _ _ _) (by first | rfl | (simp; done)))⟩
       ·replace ho2 := cond_f ho2 g3
        refine wpA_exit ?_
        refine thenA_e ?_
        refine thenA_e ?_
        obtain rfl := Option.some.inj ho2
        obtain rfl := Option.some.inj hk2
        exact ⟨rfl, _, _, b5, cap_b5, rfl, (none_upd n_b5_b3.ne (none_famH n_b5_f1 (none_upd n_b5_b1.ne hb5))), (by first | assumption | (simp; done) | omega), (by first | assumption | (simp only [maxLen]; omega)), (Sub.cons rfl (Sub.cons rfl (Sub.cons rfl (Sub.cons rfl (Sub.cons rfl Sub.nil))))), (Le.upd_left (Le.upd_left (Le.famH_left (Le.upd_left (Le.under (Le.under (Le.underF (Le.under (Le.refl _) hb1) hf1) hb3) hb5) ((upd_ne _ _ n_b5_b1.ne.symm).trans ((upd_ne _ _ n_b3_b1.ne.symm).trans ((famH_ne n_f1_b1).trans (upd_same _ _ _)))) (by first | rfl | (simp; done))) okf_f1 (fun i hi => (LkO.there (NeF.neO n_b5_f1 i) (LkO.there (NeF.neO n_b3_f1 i) (famH_row okf_f1 hi))))) ((upd_ne _ _ n_b5_b3.ne.symm).trans (upd_same _ _ _)) (by first | rfl | (simp; done))) (upd_same _ _ _) (by first | rfl | (simp; done)))⟩
     ·intro e s' h' hq
      cases R2 with
      | next x => exact hq.elim
      | ret r => exact hq.elim
      | stop x id =>
       obtain ⟨rfl, x5, x6, b8, cap_b8, rfl, hb8, hk_b8, hc_b8, hsub1, hle1⟩ := hq
       try dsimp only at ho1
       simp only [upd_noneA, updO_noneA, famH_noneA] at hb8
       obtain ⟨n_b8_b3, n_b8_f1, n_b8_b1, hb8⟩ := hb8
       by_cases hid1 : id = 2
       ·subst hid1
        rw [if_pos rfl] at ho1
        refine blockA_s ?_
        refine thenA_n ?_
        refine wpA_weaken hsub1.ok hle1 ?_
        refine wpA_region ?_
        refine Ops_quiet _ rfl rfl (QO.move rfl rfl) ?_
        refine Ops_quiet _ rfl rfl (QO.move rfl rfl) ?_
        refine Ops_loud rfl (LO.slice1 (r := [.slice (some ⟨b8, 0, none⟩) x5.length cap_b8]) rfl sz39 sz57 zr57 rfl (by decide) (by decide) rfl rfl rfl rfl (fun b9 hb9 => ?_))
        simp only [upd_noneA, updO_noneA, famH_noneA] at hb9
        obtain ⟨n_b9_b8, n_b9_b3, n_b9_f1, n_b9_b1, hb9⟩ := hb9
        have hq := chk ho1; clear ho1; obtain ⟨ck4, ho1⟩ := hq
        refine Ops_loud rfl (LO.append2 (ys := [.slice (some ⟨b8, 0, none⟩) x5.length cap_b8]) (k' := (x1 ++ [x5]).length) (xs' := rowsC (g_f1 ++ [((some b8), cap_b8)]) (x1 ++ [x5])) rfl sz39 el57 rfl rfl (Del.drop n_b9_b3.ne (none_upd n_b9_b8.ne (none_famH n_b9_f1 (none_upd n_b9_b1.ne hb9))) (Del.there n_b8_b3.ne.symm (Del.here (none_famH n_b3_f1 (none_upd n_b3_b1.ne hb3))))) (by first | assumption | omega | decide | (simp only [List.length_set, List.length_replicate]; first | done | assumption | omega)) (by first | assumption | (simp only [maxLen]; omega)) (by first | rfl | (simp [rowsC_length, rowsA_length, mpC_length, sqC_length, tbC_length, tabI_length, tabB_length, ints_length, plsC_length, trC_length, sqsC_length, strsC_length, boolsC_length, tbB_length, List.length_append, List.length_cons, List.length_nil, List.length_set, List.length_replicate, rep_length]; done) | (simp [rowsC_length, rowsA_length, mpC_length, sqC_length, tbC_length, tabI_length, tabB_length, ints_length, plsC_length, trC_length, sqsC_length, strsC_length, boolsC_length, tbB_length, List.length_append, List.length_cons, List.length_nil, List.length_set, List.length_replicate, rep_length]; omega)) (by first | rfl | (simp [rowsC_length, rowsA_length, mpC_length, sqC_length, tbC_length, tabI_length, tabB_length, ints_length, plsC_length, trC_length, sqsC_length, strsC_length, boolsC_length, tbB_length, List.length_append, List.length_cons, List.length_nil, List.length_set, List.length_replicate, rep_length]; done) | (simp [rowsC_length, rowsA_length, mpC_length, sqC_length, tbC_length, tabI_length, tabB_length, ints_length, plsC_length, trC_length, sqsC_length, strsC_length, boolsC_length, tbB_length, List.length_append, List.length_cons, List.length_nil, List.length_set, List.length_replicate, rep_length]; omega)) (RdS.own (upd_same _ _ _)) (by intro v hv; simp at hv; subst hv; rfl) (by decide) (by omega) (by decide) (by decide) rfl (by first | rfl | (simp [rowsC_length, rowsA_length, mpC_length, sqC_length, tbC_length, tabI_length, tabB_length, ints_length, plsC_length, trC_length, sqsC_length, strsC_length, boolsC_length, tbB_length, List.length_append, List.length_cons, List.length_nil, List.length_set, List.length_replicate, rep_length]; done) | (simp [rowsC_length, rowsA_length, mpC_length, sqC_length, tbC_length, tabI_length, tabB_length, ints_length, plsC_length, trC_length, sqsC_length, strsC_length, boolsC_length, tbB_length, List.length_append, List.length_cons, List.length_nil, List.length_set, List.length_replicate, rep_length]; omega)) (rowsC_snoc (B := (some b8)) (l' := x5) (c' := cap_b8) (okf_f1).len) (fun b10 cap_b10 hb10 hk_b10 hc_b10 => ?_))
        simp only [upd_noneA, updO_noneA, famH_noneA] at hb10
        obtain ⟨n_b10_b8, n_b10_f1, n_b10_b1, hb10⟩ := hb10
        refine Ops_quiet _ rfl rfl (QO.assign rfl rfl) ?_
        refine Ops_nil ?_
        refine blockA_n ?_
        refine thenA_n ?_
        refine wpA_region ?_
        refine Ops_quiet _ rfl rfl (QO.move rfl rfl) ?_
        refine Ops_quiet _ rfl rfl (QO.bin rfl rfl rfl rfl) ?_
        refine Ops_quiet _ rfl rfl (QO.assign rfl rfl) ?_
        refine Ops_nil ?_
        obtain rfl := Option.some.inj ho1
        dsimp only at hk1
        exact thenA_n ⟨k1, Nat.lt_succ_self _, _, _, (g_f1 ++ [((some b8), cap_b8)]), b10, cap_b10, hk1, (FrF.snoc (frF_upd n_f1_b1 hf1) (frO_some (none_upd n_b8_b1.ne hb8))), (OkF.snoc okf_f1 (NeF.of n_b8_f1) (OkO.some (by first | assumption | omega | decide | (simp only [List.length_set, List.length_replicate]; first | done | assumption | omega)) (by first | assumption | (simp only [maxLen]; omega)))), (none_famH (NeF.snoc n_b10_f1 (NeO.of ⟨n_b10_b8.ne⟩)) (none_upd n_b10_b1.ne hb10)), (by first | assumption | (simp; done) | omega), (by first | assumption | (simp only [maxLen]; omega)), (Sub.cons rfl (Sub.cons rfl (Sub.cons rfl Sub.nil))), (Le.upd_left (Le.snocRow okf_f1 (Le.famH_left (Le.upd_left (Le.under (Le.under (Le.underF (Le.under (Le.refl _) hb1) hf1) hb8) hb10) ((upd_ne _ _ n_b10_b1.ne.symm).trans ((upd_ne _ _ n_b8_b1.ne.symm).trans ((famH_ne n_f1_b1).trans (upd_same _ _ _)))) (by first | rfl | (simp; done))) okf_f1 (fun i hi => (LkO.there (NeF.neO n_b10_f1 i) (LkO.there (NeF.neO n_b8_f1 i) (famH_row okf_f1 hi))))) (LkO.of ((upd_ne _ _ n_b10_b8.ne.symm).trans (upd_same _ _ _)))) (upd_same _ _ _) (by first | rfl | (simp; done)))⟩
       rw [if_neg hid1] at ho1
       exact absurd ho1 (by simp)
    ·replace ho1 := cond_f ho1 g2
     refine wpA_exit ?_
     refine thenA_e ?_
     refine thenA_e ?_
     obtain rfl := Option.some.inj ho1
     obtain rfl := Option.some.inj hk1
     exact ⟨rfl, _, _, g_f1, b3, cap_b3, rfl, (frF_upd n_f1_b1 hf1), okf_f1, (none_famH n_b3_f1 (none_upd n_b3_b1.ne hb3)), (by first | assumption | (simp; done) | omega), (by first | assumption | (simp only [maxLen]; omega)), (Sub.cons rfl (Sub.cons rfl (Sub.cons rfl Sub.nil))), (Le.upd_left (Le.famH_left (Le.upd_left (Le.under (Le.underF (Le.under (Le.refl _) hb1) hf1) hb3) ((upd_ne _ _ n_b3_b1.ne.symm).trans ((famH_ne n_f1_b1).trans (upd_same _ _ _))) (by first | rfl | (simp; done))) okf_f1 (fun i hi => (LkO.there (NeF.neO n_b3_f1 i) (famH_row okf_f1 hi)))) (upd_same _ _ _) (by first | rfl | (simp; done)))⟩
  ·intro e s' h' hq
   cases R1 with
   | next x => exact hq.elim
   | ret r => exact hq.elim
   | stop x id =>
    obtain ⟨rfl, x7, x8, g_f2, b11, cap_b11, rfl, hf2, okf_f2, hb11, hk_b11, hc_b11, hsub2, hle2⟩ := hq
    try dsimp only at hm
    simp only [frF_updA, frF_updOA] at hf2
    obtain ⟨n_f2_b1, hf2⟩ := hf2
    simp only [upd_noneA, updO_noneA, famH_noneA] at hb11
    obtain ⟨n_b11_f2, n_b11_b1, hb11⟩ := hb11
    by_cases hid2 : id = 0
    ·subst hid2
     rw [if_pos rfl] at hm
     refine blockA_s ?_
     refine thenA_n ?_
     refine wpA_weaken hsub2.ok hle2 ?_
     refine wpA_seq ?_
     refine wpA_region ?_
     refine Ops_quiet _ rfl rfl (QO.move rfl rfl) ?_
     refine Ops_quiet _ rfl rfl (QO.assign rfl rfl) ?_
     refine Ops_quiet _ rfl rfl (QO.assign rfl rfl) ?_
     refine Ops_nil ?_
     refine thenA_n ?_
     refine wpA_ret ?_
     obtain rfl := Option.some.inj hm
     exact retA_r (h2 := upd (famH (h) 2 1 (ints .i64) g_f2 x7) b11 (.own 57 (rowsC g_f2 x7) (cap_b11 * 1))) (Res.two rfl (rfl) (rfl)) (Le.upd_left (Le.famH_left (Le.under (Le.underF (Le.under (Le.refl _) hb1) hf2) hb11) okf_f2 (fun i hi => (LkO.there (NeF.neO n_b11_f2 i) (famH_row okf_f2 hi)))) (upd_same _ _ _) (by first | rfl | (simp; done))) ⟨g_f2, (some b11), cap_b11, hf2, okf_f2, (frO_some (none_famH n_b11_f2 hb11)), (OkO.some (by first | assumption | omega | decide | (simp only [List.length_set, List.length_replicate]; first | done | assumption | omega)) (by first | assumption | (simp only [maxLen]; omega))), rfl, rfl⟩
    rw [if_neg hid2] at hm
    exact absurd hm (by simp)

/-! loop.example/g01195/spec.DrawSquareOfLists -/
theorem c_spec_DrawSquareOfLists {l0 : (List Int)} {A0 : Option Addr} {c0 : Nat} {h : Hp} {r : (List (List Int))} (hm : m_spec_DrawSquareOfLists l0 = some r) (hs0 : RdS h A0 (ints .u8 l0)) :
    CC Try.prog 26 #[.slice A0 l0.length c0] (h) (fun v h' => ∃ (g0 : List (Option Nat × Nat)) (b0 : Option Nat) (cap0 : Nat), FrF (h) g0 ∧ OkF g0 r ∧ FrO (famH (h) 2 1 (ints .i64) g0 r) b0 ∧ OkO b0 r.length cap0 ∧ v = .slice (adO b0) r.length cap0 ∧ h' = updO (famH (h) 2 1 (ints .i64) g0 r) b0 (.own 57 (rowsC g0 r) (cap0 * 1))) := by
 unfold m_spec_DrawSquareOfLists at hm
 refine CC.enter Try.func26 rfl Try.ntmps26 rfl ?_
 refine wpA_seq ?_
 refine wpA_region ?_
 refine Ops_quiet _ rfl rfl (QO.assign rfl rfl) ?_
 refine Ops_nil ?_
 refine thenA_n ?_
 refine wpA_seq ?_
 refine wpA_region ?_
 refine Ops_quiet _ rfl rfl (QO.move rfl rfl) ?_
 have hq := Option.bind_eq_some_iff.1 hm; clear hm; obtain ⟨r1, hr1, hm⟩ := hq
 refine Ops_call _ _ rfl rfl (EO.fn rfl Try.func51 rfl rfl (Evs.cons rfl Evs.nil)) (CC.mono (c_spec_l01From (l0 := l0) (A0 := A0) (c0 := c0) hr1 (RdS.le hs0 (Le.refl _))) ?_)
 rintro _ _ ⟨b1, hb1, rfl, rfl⟩
 refine Ops_quiet _ rfl rfl (QO.assign rfl rfl) ?_
 refine Ops_nil ?_
 refine thenA_n ?_
 refine wpA_seq ?_
 refine wpA_region ?_
 refine Ops_quiet _ rfl rfl (QO.move rfl rfl) ?_
 have hq := Option.bind_eq_some_iff.1 hm; clear hm; obtain ⟨r2, hr2, hm⟩ := hq
 have hd1 : Del (upd (h) b1 (.own 74 (srcC A0 l0.length c0 r1) 3)) b1 (.own 74 (srcC A0 l0.length c0 r1) 3) (h) := (Del.here hb1)
 refine Ops_call _ _ rfl rfl (EO.fn rfl Try.func52 rfl rfl (Evs.cons rfl Evs.nil)) (CC.mono (CC.atLe (c_spec_l01DrawSquare (h := h) hr2 (RdS.le hs0 (Le.refl _)) hd1.none) hd1.le) ?_)
 rintro _ _ ⟨rfl, rfl⟩
 refine Ops_loud rfl (LO.alloc rfl zr28 rfl (fun b2 hb2 => ?_))
 simp only [upd_noneA] at hb2
 obtain ⟨n_b2_b1, hb2⟩ := hb2
 refine Ops_loud rfl (LO.storeAll (cs := sqC r2.1) rfl sz28 rfl rfl (sqC_one _) (sqC_length _) (upd_same _ _ _) (sqC_length _) Chg.here rfl ?_)
 refine Ops_nil ?_
 refine thenA_n ?_
 refine wpA_seq ?_
 refine wpA_region ?_
 refine Ops_quiet _ rfl rfl (QO.loadRow (cs := sqC r2.1) (hr := (rdAll (upd_same _ _ _))) rfl sz28 rfl rfl (sqC_length _)) ?_
 have hq := Option.bind_eq_some_iff.1 hm; clear hm; obtain ⟨r3, hr3, hm⟩ := hq
 refine Ops_call _ _ rfl rfl (EO.fn rfl Try.func53 rfl rfl (Evs.cons rfl Evs.nil)) (CC.mono (c_spec_ListsOfSquare hr3 ) ?_)
 rintro _ _ ⟨g_f1, b3, cap_b3, hf1, okf_f1, hb3, ho_b3, rfl, rfl⟩
 simp only [frF_updA, frF_updOA] at hf1
 obtain ⟨n_f1_b2, n_f1_b1, hf1⟩ := hf1
 simp only [frO_updA, frO_updOA, frO_famHA] at hb3
 obtain ⟨n_b3_f1, n_b3_b2, n_b3_b1, hb3⟩ := hb3
 refine Ops_quiet _ rfl rfl (QO.move rfl rfl) ?_
 refine Ops_quiet _ rfl rfl (QO.extract rfl rfl rfl) ?_
 refine Ops_quiet _ rfl rfl (QO.extract rfl rfl rfl) ?_
 refine Ops_quiet _ rfl rfl (QO.assign rfl rfl) ?_
 refine Ops_quiet _ rfl rfl (QO.assign rfl rfl) ?_
 refine Ops_nil ?_
 refine thenA_n ?_
 refine wpA_seq ?_
 refine wpA_region ?_
 refine Ops_quiet _ rfl rfl (QO.move rfl rfl) ?_
 refine Ops_quiet _ rfl rfl (QO.move rfl rfl) ?_
 refine Ops_quiet _ rfl rfl (QO.fieldAt (fo := 0) rfl sz28 rfl rfl sz2 rfl rfl) ?_
 refine Ops_quiet _ rfl rfl (QO.load rfl sz2 rfl rfl (by (refine (rd_own ((updO_ne n_b3_b2).trans ((famH_ne n_f1_b2).trans (upd_same _ _ _))) _).trans ?_); exact rfl)) ?_
 have hq := Option.bind_eq_some_iff.1 hm; clear hm; obtain ⟨r4, hr4, hm⟩ := hq
 have hd2 : Del (updO (famH (upd (upd (h) b1 (.own 74 (srcC A0 l0.length c0 r2.2) 3)) b2 (.own 28 (sqC r2.1) 101)) 2 1 (ints .i64) g_f1 r3.1) b3 (.own 57 (rowsC g_f1 r3.1) (cap_b3 * 1))) b1 (.own 74 (srcC A0 l0.length c0 r2.2) 3) (updO (famH (upd (h) b2 (.own 28 (sqC r2.1) 101)) 2 1 (ints .i64) g_f1 r3.1) b3 (.own 57 (rowsC g_f1 r3.1) (cap_b3 * 1))) := (Del.thereO n_b3_b1 (Del.thereF n_f1_b1 (Del.there n_b2_b1.ne.symm (Del.here hb1))))
 refine Ops_call _ _ rfl rfl (EO.fn rfl Try.func54 rfl rfl (Evs.cons rfl (Evs.cons rfl Evs.nil))) (CC.mono (CC.atLe (c_spec_l01Next (h := updO (famH (upd (h) b2 (.own 28 (sqC r2.1) 101)) 2 1 (ints .i64) g_f1 r3.1) b3 (.own 57 (rowsC g_f1 r3.1) (cap_b3 * 1))) hr4 (RdS.le hs0 (Le.underO (Le.underF (Le.under (Le.refl _) hb2) hf1) hb3)) hd2.none) hd2.le) ?_)
 rintro _ _ ⟨rfl, rfl⟩
 have hq := chk hm; clear hm; obtain ⟨ck1, hm⟩ := hq
 obtain ⟨b4, rfl⟩ := ho_b3.ex (by omega)
 have n_b4_b2 := n_b3_b2.ap'
 have n_b4_f1 := n_b3_f1.ne _ rfl
 have n_b4_b1 := n_b3_b1.ap'
 have hb4 := hb3.of
 have hk_b4 := ho_b3.le; have hc_b4 := ho_b3.mx
 refine Ops_quiet _ rfl rfl (QO.idxSl rfl sz39 sz57 rfl rfl (by omega) (by omega)) ?_
 refine Ops_quiet (.slice (adO (g_f1.getD (r4.1).toNat (none, 0)).1) (r3.1.getD (r4.1).toNat []).length (g_f1.getD (r4.1).toNat (none, 0)).2) rfl rfl (QO.load rfl sz57 rfl rfl (by (refine (rd_own ((upd_ne _ _ n_b4_b1.ne).trans (upd_same _ _ _)) _).trans ?_); exact rowsC_get (by omega))) ?_
 refine Ops_quiet _ rfl rfl (QO.assign rfl rfl) ?_
 refine Ops_nil ?_
 refine thenA_n ?_
 refine wpA_seq ?_
 refine wpA_seq ?_
 refine wpA_region ?_
 refine Ops_quiet _ rfl rfl (QO.move rfl rfl) ?_
 have hq := Option.bind_eq_some_iff.1 hm; clear hm; obtain ⟨r5, hr5, hm⟩ := hq
 have hd3 : Del (upd (upd (famH (upd (h) b2 (.own 28 (sqC r2.1) 101)) 2 1 (ints .i64) g_f1 r3.1) b4 (.own 57 (rowsC g_f1 r3.1) (cap_b3 * 1))) b1 (.own 74 (srcC A0 l0.length c0 r4.2) 3)) b1 (.own 74 (srcC A0 l0.length c0 r4.2) 3) (upd (famH (upd (h) b2 (.own 28 (sqC r2.1) 101)) 2 1 (ints .i64) g_f1 r3.1) b4 (.own 57 (rowsC g_f1 r3.1) (cap_b3 * 1))) := (Del.here (none_upd n_b4_b1.ne.symm (none_famH n_f1_b1 (none_upd n_b2_b1.ne.symm hb1))))
 refine Ops_call _ _ rfl rfl (EO.fn rfl Try.func54 rfl rfl (Evs.cons rfl (Evs.cons rfl Evs.nil))) (CC.mono (CC.atLe (c_spec_l01Next (h := upd (famH (upd (h) b2 (.own 28 (sqC r2.1) 101)) 2 1 (ints .i64) g_f1 r3.1) b4 (.own 57 (rowsC g_f1 r3.1) (cap_b3 * 1))) hr5 (RdS.le hs0 (Le.under (Le.underF (Le.under (Le.refl _) hb2) hf1) hb4)) hd3.none) hd3.le) ?_)
 rintro _ _ ⟨rfl, rfl⟩
 refine Ops_nil ?_
 refine thenA_n ?_
 refine wpA_block ?_
 refine wpA_seq ?_
 refine wpA_region ?_
 refine Ops_quiet _ rfl rfl (QO.bin rfl rfl rfl rfl) ?_
 refine Ops_quiet _ rfl rfl (QO.assign rfl rfl) ?_
 refine Ops_nil ?_
 refine thenA_n ?_
 refine wpA_cond rfl (fun g1 => ?_) (fun g1 => ?_)
 ·replace hm := cond_t hm g1
  refine wpA_region ?_
  refine Ops_quiet _ rfl rfl (QO.move rfl rfl) ?_
  refine Ops_quiet _ rfl rfl (QO.move rfl rfl) ?_
  refine Ops_quiet _ rfl rfl (QO.fieldAt (fo := 0) rfl sz28 rfl rfl sz2 rfl rfl) ?_
  refine Ops_quiet _ rfl rfl (QO.load rfl sz2 rfl rfl (by (refine (rd_own ((upd_ne _ _ n_b2_b1.ne).trans ((upd_ne _ _ n_b4_b2.ne.symm).trans ((famH_ne n_f1_b2).trans (upd_same _ _ _)))) _).trans ?_); exact rfl)) ?_
  refine Ops_loud rfl (LO.slice' [(0, .int .i64 (-1)), (1, .int .i64 r2.1.order), (2, .int .i64 0)] (r := ints .i64 [(-1), r2.1.order, 0]) rfl sz57 sz2 zr2 (by first | rfl | (simp [rowsC_length, rowsA_length, mpC_length, sqC_length, tbC_length, tabI_length, tabB_length, ints_length, plsC_length, trC_length, sqsC_length, strsC_length, boolsC_length, tbB_length, List.length_append, List.length_cons, List.length_nil, List.length_set, List.length_replicate, rep_length]; done)) (by decide) (by decide) (by decide) rfl rfl (by first | rfl | (simp [rowsC_length, rowsA_length, mpC_length, sqC_length, tbC_length, tabI_length, tabB_length, ints_length, plsC_length, trC_length, sqsC_length, strsC_length, boolsC_length, tbB_length, List.length_append, List.length_cons, List.length_nil, List.length_set, List.length_replicate, rep_length]; done)) rfl (fun b5 hb5 => ?_))
  simp only [updO_some, upd_noneA, updO_noneA, famH_noneA] at hb5
  obtain ⟨n_b5_b1, n_b5_b4, n_b5_f1, n_b5_b2, hb5⟩ := hb5
  have hq := Option.bind_eq_some_iff.1 hm; clear hm; obtain ⟨r6, hr6, hm⟩ := hq
  have hd4 : Del (upd (upd (upd (famH (upd (h) b2 (.own 28 (sqC r2.1) 101)) 2 1 (ints .i64) g_f1 r3.1) b4 (.own 57 (rowsC g_f1 r3.1) (cap_b3 * 1))) b1 (.own 74 (srcC A0 l0.length c0 r5.2) 3)) b5 (.own 2 (ints .i64 [(-1), r2.1.order, 0]) (3 * 1))) b1 (.own 74 (srcC A0 l0.length c0 r5.2) 3) (upd (upd (famH (upd (h) b2 (.own 28 (sqC r2.1) 101)) 2 1 (ints .i64) g_f1 r3.1) b4 (.own 57 (rowsC g_f1 r3.1) (cap_b3 * 1))) b5 (.own 2 (ints .i64 [(-1), r2.1.order, 0]) (3 * 1))) := (Del.there n_b5_b1.ne.symm (Del.here (none_upd n_b4_b1.ne.symm (none_famH n_f1_b1 (none_upd n_b2_b1.ne.symm hb1)))))
  refine Ops_call _ _ rfl rfl (EO.fn rfl Try.func55 rfl rfl (Evs.cons rfl (Evs.cons rfl Evs.nil))) (CC.mono (CC.atLe (c_spec_l01Pick (l1 := [(-1), r2.1.order, 0]) (A1 := some ⟨b5, 0, none⟩) (c1 := 3) (h := upd (upd (famH (upd (h) b2 (.own 28 (sqC r2.1) 101)) 2 1 (ints .i64) g_f1 r3.1) b4 (.own 57 (rowsC g_f1 r3.1) (cap_b3 * 1))) b5 (.own 2 (ints .i64 [(-1), r2.1.order, 0]) (3 * 1))) hr6 (RdS.le hs0 (Le.under (Le.under (Le.underF (Le.under (Le.refl _) hb2) hf1) hb4) hb5)) (RdS.own (upd_same _ _ _)) hd4.none) hd4.le) ?_)
  rintro _ _ ⟨rfl, rfl⟩
  have hq := chk hm; clear hm; obtain ⟨ck2, hm⟩ := hq
  obtain ⟨b6, he_b6⟩ := (okf_f1.ok (r4.1).toNat (by omega)).ex (by omega)
  refine Ops_quiet _ rfl rfl (QO.idxSl rfl sz57 sz2 (congrArg (fun B => some (Value.slice (adO B) ((r3.1.getD (r4.1).toNat []).length) ((g_f1.getD (r4.1).toNat (none, 0)).2))) he_b6) rfl (by omega) (by omega)) ?_
  refine Ops_loud rfl (LO.store' (xs' := ints .i64 ((r3.1.getD (r4.1).toNat []).set 0 r6.1)) rfl sz2 rfl rfl rfl ((LkO.there (NeF.neO n_f1_b1 (r4.1).toNat) (LkO.there (NeF.neO n_b5_f1 (r4.1).toNat) (LkO.there (NeF.neO n_b4_f1 (r4.1).toNat) (famH_row okf_f1 (by omega))))).lk _ he_b6) (by first | ((try simp only [rowsC_length, rowsA_length, mpC_length, sqC_length, tbC_length, tabI_length, tabB_length, ints_length, plsC_length, trC_length, sqsC_length, strsC_length, boolsC_length, tbB_length, List.length_append, List.length_cons, List.length_nil, List.length_set, List.length_replicate, rep_length]); first | omega | decide) | exact Nat.le_of_ble_eq_true rfl) ints_set01 (Chg.there (NeF.nei n_f1_b1 he_b6) (Chg.there (NeF.nei n_b5_f1 he_b6) (Chg.there (NeF.nei n_b4_f1 he_b6) (Chg.eqn (famH_set okf_f1 (by omega) he_b6))))) rfl ?_)
  have okf_1 := okf_f1.setrow (i := (r4.1).toNat) (l' := ((r3.1.getD (r4.1).toNat []).set 0 r6.1)) (by simp)
  refine Ops_nil ?_
  refine blockA_n ?_
  refine thenA_n ?_
  refine wpA_seq ?_
  refine wpA_region ?_
  refine Ops_quiet _ rfl rfl (QO.move rfl rfl) ?_
  refine Ops_quiet _ rfl rfl (QO.assign rfl rfl) ?_
  refine Ops_nil ?_
  refine thenA_n ?_
  refine wpA_ret ?_
  obtain rfl := Option.some.inj hm
  exact retA_r (h2 := upd (famH (h) 2 1 (ints .i64) g_f1 (r3.1.set (r4.1).toNat ((r3.1.getD (r4.1).toNat []).set 0 r6.1))) b4 (.own 57 (rowsC g_f1 (r3.1.set (r4.1).toNat ((r3.1.getD (r4.1).toNat []).set 0 r6.1))) (cap_b3 * 1))) (Res.one rfl (rfl)) (Le.upd_left (Le.famH_left (Le.under (Le.under (Le.under (Le.underF (Le.under (Le.refl _) hb2) hf1) hb4) hb5) hb1) okf_1 (fun i hi => (LkO.there (NeF.neO n_f1_b1 i) (LkO.there (NeF.neO n_b5_f1 i) (LkO.there (NeF.neO n_b4_f1 i) (famH_row okf_1 hi)))))) ((upd_ne _ _ n_b4_b1.ne).trans ((upd_ne _ _ n_b5_b4.ne.symm).trans (upd_same _ _ _))) (by first | rfl | (simp only [rowsC_setlen (ll := r3.1) (i := (r4.1).toNat) (l' := ((r3.1.getD (r4.1).toNat []).set 0 r6.1)) (List.length_set)]) | (rw [rowsC_setlen (ll := r3.1) (i := (r4.1).toNat) (l' := ((r3.1.getD (r4.1).toNat []).set 0 r6.1)) (List.length_set)]))) ⟨g_f1, (some b4), cap_b3, hf1, okf_1, (frO_some (none_famH n_b4_f1 hb4)), (OkO.some (by first | assumption | omega | decide | (simp only [List.length_set, List.length_replicate]; first | done | assumption | omega)) (by first | assumption | (simp only [maxLen]; omega))), (by first | rfl | (simp only [List.length_set]; done) | (simp only [List.length_set]; rfl)), rfl⟩
 ·replace hm := cond_f hm g1
  refine wpA_seq ?_
  refine wpA_region ?_
  refine Ops_quiet _ rfl rfl (QO.bin rfl rfl rfl rfl) ?_
  refine Ops_quiet _ rfl rfl (QO.assign rfl rfl) ?_
  refine Ops_nil ?_
  refine thenA_n ?_
  refine wpA_cond rfl (fun g2 => ?_) (fun g2 => ?_)
  ·replace hm := cond_t hm g2
   refine wpA_region ?_
   refine Ops_quiet _ rfl rfl (QO.move rfl rfl) ?_
   refine Ops_loud rfl (LO.slice1 (r := ints .i64 [0]) rfl sz57 sz2 zr2 (by first | rfl | (simp [rowsC_length, rowsA_length, mpC_length, sqC_length, tbC_length, tabI_length, tabB_length, ints_length, plsC_length, trC_length, sqsC_length, strsC_length, boolsC_length, tbB_length, List.length_append, List.length_cons, List.length_nil, List.length_set, List.length_replicate, rep_length]; done)) (by decide) (by decide) rfl rfl (by first | rfl | (simp [rowsC_length, rowsA_length, mpC_length, sqC_length, tbC_length, tabI_length, tabB_length, ints_length, plsC_length, trC_length, sqsC_length, strsC_length, boolsC_length, tbB_length, List.length_append, List.length_cons, List.length_nil, List.length_set, List.length_replicate, rep_length]; done)) rfl (fun b7 hb7 => ?_))
   simp only [updO_some, upd_noneA, updO_noneA, famH_noneA] at hb7
   obtain ⟨n_b7_b1, n_b7_b4, n_b7_f1, n_b7_b2, hb7⟩ := hb7
   refine Ops_loud rfl (LO.slice1 (r := [.slice (some ⟨b7, 0, none⟩) 1 1]) rfl sz39 sz57 zr57 rfl (by decide) (by decide) rfl rfl rfl rfl (fun b8 hb8 => ?_))
   simp only [updO_some, upd_noneA, updO_noneA, famH_noneA] at hb8
   obtain ⟨n_b8_b7, n_b8_b1, n_b8_b4, n_b8_f1, n_b8_b2, hb8⟩ := hb8
   have hq := chk hm; clear hm; obtain ⟨ck3, hm⟩ := hq
   refine Ops_loud rfl (LO.append2 (ys := [.slice (some ⟨b7, 0, none⟩) 1 1]) (k' := (r3.1 ++ [[0]]).length) (xs' := rowsC (g_f1 ++ [((some b7), 1)]) (r3.1 ++ [[0]])) rfl sz39 el57 rfl rfl (Del.drop n_b8_b4.ne (none_upd n_b8_b7.ne (none_upd n_b8_b1.ne (none_famH n_b8_f1 (none_upd n_b8_b2.ne hb8)))) (Del.there n_b7_b4.ne.symm (Del.there n_b4_b1.ne (Del.here (none_famH n_b4_f1 (none_upd n_b4_b2.ne hb4)))))) (by first | assumption | omega | decide | (simp only [List.length_set, List.length_replicate]; first | done | assumption | omega)) (by first | assumption | (simp only [maxLen]; omega)) (by first | rfl | (simp [rowsC_length, rowsA_length, mpC_length, sqC_length, tbC_length, tabI_length, tabB_length, ints_length, plsC_length, trC_length, sqsC_length, strsC_length, boolsC_length, tbB_length, List.length_append, List.length_cons, List.length_nil, List.length_set, List.length_replicate, rep_length]; done) | (simp [rowsC_length, rowsA_length, mpC_length, sqC_length, tbC_length, tabI_length, tabB_length, ints_length, plsC_length, trC_length, sqsC_length, strsC_length, boolsC_length, tbB_length, List.length_append, List.length_cons, List.length_nil, List.length_set, List.length_replicate, rep_length]; omega)) (by first | rfl | (simp [rowsC_length, rowsA_length, mpC_length, sqC_length, tbC_length, tabI_length, tabB_length, ints_length, plsC_length, trC_length, sqsC_length, strsC_length, boolsC_length, tbB_length, List.length_append, List.length_cons, List.length_nil, List.length_set, List.length_replicate, rep_length]; done) | (simp [rowsC_length, rowsA_length, mpC_length, sqC_length, tbC_length, tabI_length, tabB_length, ints_length, plsC_length, trC_length, sqsC_length, strsC_length, boolsC_length, tbB_length, List.length_append, List.length_cons, List.length_nil, List.length_set, List.length_replicate, rep_length]; omega)) (RdS.own (upd_same _ _ _)) (by intro v hv; simp at hv; subst hv; rfl) (by decide) (by omega) (by decide) (by decide) rfl (by first | rfl | (simp [rowsC_length, rowsA_length, mpC_length, sqC_length, tbC_length, tabI_length, tabB_length, ints_length, plsC_length, trC_length, sqsC_length, strsC_length, boolsC_length, tbB_length, List.length_append, List.length_cons, List.length_nil, List.length_set, List.length_replicate, rep_length]; done) | (simp [rowsC_length, rowsA_length, mpC_length, sqC_length, tbC_length, tabI_length, tabB_length, ints_length, plsC_length, trC_length, sqsC_length, strsC_length, boolsC_length, tbB_length, List.length_append, List.length_cons, List.length_nil, List.length_set, List.length_replicate, rep_length]; omega)) (rowsC_snoc (B := (some b7)) (l' := [0]) (c' := 1) (okf_f1).len) (fun b9 cap_b9 hb9 hk_b9 hc_b9 => ?_))
   simp only [updO_some, upd_noneA, updO_noneA, famH_noneA] at hb9
   obtain ⟨n_b9_b7, n_b9_b1, n_b9_f1, n_b9_b2, hb9⟩ := hb9
   refine Ops_quiet _ rfl rfl (QO.assign rfl rfl) ?_
   refine Ops_nil ?_
   refine blockA_n ?_
   refine thenA_n ?_
   refine wpA_seq ?_
   refine wpA_region ?_
   refine Ops_quiet _ rfl rfl (QO.move rfl rfl) ?_
   refine Ops_quiet _ rfl rfl (QO.assign rfl rfl) ?_
   refine Ops_nil ?_
   refine thenA_n ?_
   refine wpA_ret ?_
   obtain rfl := Option.some.inj hm
   exact retA_r (h2 := upd (famH (h) 2 1 (ints .i64) (g_f1 ++ [((some b7), 1)]) (r3.1 ++ [[0]])) b9 (.own 57 (rowsC (g_f1 ++ [((some b7), 1)]) (r3.1 ++ [[0]])) (cap_b9 * 1))) (Res.one rfl (rfl)) (Le.upd_left (Le.snocRow okf_f1 (Le.famH_left (Le.under (Le.under (Le.under (Le.underF (Le.under (Le.refl _) hb2) hf1) hb1) hb7) hb9) okf_f1 (fun i hi => (LkO.there (NeF.neO n_b9_f1 i) (LkO.there (NeF.neO n_b7_f1 i) (LkO.there (NeF.neO n_f1_b1 i) (famH_row okf_f1 hi)))))) (LkO.of ((upd_ne _ _ n_b9_b7.ne.symm).trans (upd_same _ _ _)))) (upd_same _ _ _) (by first | rfl | (simp; done))) ⟨(g_f1 ++ [((some b7), 1)]), (some b9), cap_b9, (FrF.snoc hf1 (frO_some hb7)), (OkF.snoc okf_f1 (NeF.of n_b7_f1) (OkO.some (by first | assumption | omega | decide | (simp only [List.length_set, List.length_replicate]; first | done | assumption | omega)) (by first | assumption | (simp only [maxLen]; omega)))), (frO_some (none_famH (NeF.snoc n_b9_f1 (NeO.of ⟨n_b9_b7.ne⟩)) hb9)), (OkO.some (by first | assumption | omega | decide | (simp only [List.length_set, List.length_replicate]; first | done | assumption | omega)) (by first | assumption | (simp only [maxLen]; omega))), (by first | rfl | (simp only [List.length_set]; done) | (simp only [List.length_set]; rfl)), rfl⟩
  ·replace hm := cond_f hm g2
   refine wpA_seq ?_
   refine wpA_region ?_
   refine Ops_quiet _ rfl rfl (QO.bin rfl rfl rfl rfl) ?_
   refine Ops_quiet _ rfl rfl (QO.assign rfl rfl) ?_
   refine Ops_nil ?_
   refine thenA_n ?_
   refine wpA_cond rfl (fun g3 => ?_) (fun g3 => ?_)
   ·replace hm := cond_t hm g3
    refine wpA_seq ?_
    refine wpA_region ?_
    refine Ops_quiet _ rfl rfl (QO.assign rfl rfl) ?_
    refine Ops_nil ?_
    refine thenA_n ?_
    refine wpA_ret ?_
    refine blockA_r ?_
    refine thenA_r ?_
    obtain rfl := Option.some.inj hm
    exact retA_r (h2 := h) (Res.one rfl (rfl)) (Le.under (Le.under (Le.underF (Le.under (Le.refl _) hb2) hf1) hb4) hb1) ⟨[], none, 0, FrF.nil, OkF.nil, frO_none, OkO.none, rfl, rfl⟩
   ·replace hm := cond_f hm g3
    refine wpA_seq ?_
    refine wpA_region ?_
    refine Ops_quiet _ rfl rfl (QO.bin rfl rfl rfl rfl) ?_
    refine Ops_quiet _ rfl rfl (QO.assign rfl rfl) ?_
    refine Ops_nil ?_
    refine thenA_n ?_
    refine wpA_cond rfl (fun g4 => ?_) (fun g4 => ?_)
    ·replace hm := cond_t hm g4
     refine wpA_region ?_
     refine Ops_quiet _ rfl rfl (QO.move rfl rfl) ?_
     refine Ops_quiet _ rfl rfl (QO.move rfl rfl) ?_
     have hq := chk hm; clear hm; obtain ⟨ck4, hm⟩ := hq
     refine Ops_quiet _ rfl rfl (QO.idxSl rfl sz39 sz57 rfl rfl (by omega) (by omega)) ?_
     refine Ops_quiet (.slice (adO (g_f1.getD 0 (none, 0)).1) (r3.1.getD 0 []).length (g_f1.getD 0 (none, 0)).2) rfl rfl (QO.load rfl sz57 rfl rfl (by (refine (rd_own ((upd_ne _ _ n_b4_b1.ne).trans (upd_same _ _ _)) _).trans ?_); exact rowsC_get (by omega))) ?_
     refine Ops_loud rfl (LO.slice1 (r := ints .i64 [0]) rfl sz57 sz2 zr2 (by first | rfl | (simp [rowsC_length, rowsA_length, mpC_length, sqC_length, tbC_length, tabI_length, tabB_length, ints_length, plsC_length, trC_length, sqsC_length, strsC_length, boolsC_length, tbB_length, List.length_append, List.length_cons, List.length_nil, List.length_set, List.length_replicate, rep_length]; done)) (by decide) (by decide) rfl rfl (by first | rfl | (simp [rowsC_length, rowsA_length, mpC_length, sqC_length, tbC_length, tabI_length, tabB_length, ints_length, plsC_length, trC_length, sqsC_length, strsC_length, boolsC_length, tbB_length, List.length_append, List.length_cons, List.length_nil, List.length_set, List.length_replicate, rep_length]; done)) rfl (fun b10 hb10 => ?_))
     simp only [updO_some, upd_noneA, updO_noneA, famH_noneA] at hb10
     obtain ⟨n_b10_b1, n_b10_b4, n_b10_f1, n_b10_b2, hb10⟩ := hb10
     have hq := chk hm; clear hm; obtain ⟨ck5, hm⟩ := hq
     refine Ops_loud rfl (LO.appendO (xs := ints .i64 (r3.1.getD 0 [])) (ys := ints .i64 [0]) (k' := ((r3.1.getD 0 []) ++ [0]).length) (xs' := ints .i64 ((r3.1.getD 0 []) ++ [0])) rfl sz57 el2 rfl rfl (show DelO _ _ (.own 2 (ints .i64 (r3.1.getD 0 [])) ((g_f1.getD 0 (none, 0)).2 * 1)) _ from (DelO.drop (NeF.neO n_b10_f1 0) (none_upd n_b10_b1.ne (none_upd n_b10_b4.ne (none_famH (NeF.hole n_b10_f1 0) (none_upd n_b10_b2.ne hb10)))) (DelO.there (NeF.neO n_f1_b1 0) (DelO.there (NeF.neO n_b4_f1 0) (DelO.row okf_f1 (frF_upd n_f1_b2 hf1) (by omega)))))) (okf_f1.ok 0 (by omega)) (by first | rfl | (simp [rowsC_length, rowsA_length, mpC_length, sqC_length, tbC_length, tabI_length, tabB_length, ints_length, plsC_length, trC_length, sqsC_length, strsC_length, boolsC_length, tbB_length, List.length_append, List.length_cons, List.length_nil, List.length_set, List.length_replicate, rep_length]; done) | (simp [rowsC_length, rowsA_length, mpC_length, sqC_length, tbC_length, tabI_length, tabB_length, ints_length, plsC_length, trC_length, sqsC_length, strsC_length, boolsC_length, tbB_length, List.length_append, List.length_cons, List.length_nil, List.length_set, List.length_replicate, rep_length]; omega)) (by first | rfl | (simp [rowsC_length, rowsA_length, mpC_length, sqC_length, tbC_length, tabI_length, tabB_length, ints_length, plsC_length, trC_length, sqsC_length, strsC_length, boolsC_length, tbB_length, List.length_append, List.length_cons, List.length_nil, List.length_set, List.length_replicate, rep_length]; done) | (simp [rowsC_length, rowsA_length, mpC_length, sqC_length, tbC_length, tabI_length, tabB_length, ints_length, plsC_length, trC_length, sqsC_length, strsC_length, boolsC_length, tbB_length, List.length_append, List.length_cons, List.length_nil, List.length_set, List.length_replicate, rep_length]; omega)) (RdS.own (upd_same _ _ _)) (by first | assumption | exact tabI_one _ _ _ | exact tbC_one _ | exact sqC_one _ | exact tabB_one _ _ | exact ints_one _ _ | exact plsC_one _ | exact strsC_one _ | exact srcC_one _ _ _ _ | (intro v hv; simp at hv; subst hv; rfl)) (fun _ => by decide) (by omega) (by decide) (by decide) rfl (by first | rfl | (simp [rowsC_length, rowsA_length, mpC_length, sqC_length, tbC_length, tabI_length, tabB_length, ints_length, plsC_length, trC_length, sqsC_length, strsC_length, boolsC_length, tbB_length, List.length_append, List.length_cons, List.length_nil, List.length_set, List.length_replicate, rep_length]; done) | (simp [rowsC_length, rowsA_length, mpC_length, sqC_length, tbC_length, tabI_length, tabB_length, ints_length, plsC_length, trC_length, sqsC_length, strsC_length, boolsC_length, tbB_length, List.length_append, List.length_cons, List.length_nil, List.length_set, List.length_replicate, rep_length]; omega)) (by first | rfl | (simp [ints, plsC, sqsC, boolsC, strsC]; done)) (fun b11 cap_b11 hb11 hk_b11 hc_b11 => ?_))
     have n_b2_f2 := n_f1_b2.hole 0
     have n_b4_f2 := n_b4_f1.hole 0
     have n_b1_f2 := n_f1_b1.hole 0
     have hf2 := hf1.hole 0
     simp only [updO_some, upd_noneA, updO_noneA, famH_noneA] at hb11
     obtain ⟨n_b11_b1, n_b11_b4, n_b11_f2, n_b11_b2, hb11⟩ := hb11
     have hq := chk hm; clear hm; obtain ⟨ck6, hm⟩ := hq
     refine Ops_quiet _ rfl rfl (QO.idxSl rfl sz39 sz57 rfl rfl (by omega) (by omega)) ?_
     refine Ops_loud rfl (LO.store' (xs' := rowsC (g_f1.set 0 (some b11, cap_b11)) (r3.1.set 0 ((r3.1.getD 0 []) ++ [0]))) rfl sz57 rfl rfl rfl ((upd_ne _ _ n_b11_b4.ne.symm).trans ((upd_ne _ _ n_b4_b1.ne).trans (upd_same _ _ _))) (by first | ((try simp only [rowsC_length, rowsA_length, mpC_length, sqC_length, tbC_length, tabI_length, tabB_length, ints_length, plsC_length, trC_length, sqsC_length, strsC_length, boolsC_length, tbB_length, List.length_append, List.length_cons, List.length_nil, List.length_set, List.length_replicate, rep_length]); first | omega | decide) | exact Nat.le_of_ble_eq_true rfl) (rowsC_set (i := 0) (B := some b11) (l' := ((r3.1.getD 0 []) ++ [0])) (c' := cap_b11) okf_f1.len (by omega)) (Chg.there n_b11_b4.ne (Chg.there n_b4_b1.ne.symm Chg.here)) rfl ?_)
     refine Ops_nil ?_
     refine blockA_n ?_
     refine thenA_n ?_
     refine wpA_seq ?_
     refine wpA_region ?_
     refine Ops_quiet _ rfl rfl (QO.move rfl rfl) ?_
     refine Ops_quiet _ rfl rfl (QO.assign rfl rfl) ?_
     refine Ops_nil ?_
     refine thenA_n ?_
     refine wpA_ret ?_
     obtain rfl := Option.some.inj hm
     exact retA_r (h2 := upd (famH (h) 2 1 (ints .i64) (g_f1.set 0 (some b11, cap_b11)) (r3.1.set 0 ((r3.1.getD 0 []) ++ [0]))) b4 (.own 57 (rowsC (g_f1.set 0 (some b11, cap_b11)) (r3.1.set 0 ((r3.1.getD 0 []) ++ [0]))) (cap_b3 * 1))) (Res.one rfl (rfl)) (Le.upd_left (Le.putRow okf_f1 (by omega) (NeF.of n_b11_f2) (Le.famH_hole (Le.under (Le.under (Le.under (Le.underF (Le.under (Le.refl _) hb2) hf2) hb4) hb1) hb11) okf_f1 (fun i hi hne => (LkO.there (NeF.neOH n_b11_f2 hne) (LkO.there (NeF.neOH n_b1_f2 hne) (LkO.there (NeF.neOH n_b4_f2 hne) (famH_rowH okf_f1 hi hne)))))) (LkO.of (upd_same _ _ _))) ((upd_ne _ _ n_b11_b4.ne.symm).trans ((upd_ne _ _ n_b4_b1.ne).trans (upd_same _ _ _))) (by first | rfl | (simp; done))) ⟨(g_f1.set 0 (some b11, cap_b11)), (some b4), cap_b3, (FrF.put hf2 (frO_some hb11)), (NeOF.putRow okf_f1 (by omega) (NeF.of n_b11_f2) (OkO.some (by first | assumption | omega | decide | (simp only [List.length_set, List.length_replicate]; first | done | assumption | omega)) (by first | assumption | (simp only [maxLen]; omega)))), (frO_some (none_famH (NeF.put n_b4_f2 (NeO.of ⟨n_b11_b4.ne.symm⟩)) hb4)), (OkO.some (by first | assumption | omega | decide | (simp only [List.length_set, List.length_replicate]; first | done | assumption | omega)) (by first | assumption | (simp only [maxLen]; omega))), (by first | rfl | (simp only [List.length_set]; done) | (simp only [List.length_set]; rfl)), rfl⟩
    ·replace hm := cond_f hm g4
     refine wpA_skip ?_
     refine blockA_n ?_
     refine thenA_n ?_
     refine wpA_seq ?_
     refine wpA_region ?_
     refine Ops_quiet _ rfl rfl (QO.move rfl rfl) ?_
     refine Ops_quiet _ rfl rfl (QO.assign rfl rfl) ?_
     refine Ops_nil ?_
     refine thenA_n ?_
     refine wpA_ret ?_
     obtain rfl := Option.some.inj hm
     exact retA_r (h2 := upd (famH (h) 2 1 (ints .i64) g_f1 r3.1) b4 (.own 57 (rowsC g_f1 r3.1) (cap_b3 * 1))) (Res.one rfl (rfl)) (Le.upd_left (Le.famH_left (Le.under (Le.under (Le.underF (Le.under (Le.refl _) hb2) hf1) hb4) hb1) okf_f1 (fun i hi => (LkO.there (NeF.neO n_f1_b1 i) (LkO.there (NeF.neO n_b4_f1 i) (famH_row okf_f1 hi))))) ((upd_ne _ _ n_b4_b1.ne).trans (upd_same _ _ _)) (by first | rfl | (simp; done))) ⟨g_f1, (some b4), cap_b3, hf1, okf_f1, (frO_some (none_famH n_b4_f1 hb4)), (OkO.some (by first | assumption | omega | decide | (simp only [List.length_set, List.length_replicate]; first | done | assumption | omega)) (by first | assumption | (simp only [maxLen]; omega))), rfl, rfl⟩

/-! loop.example/g01195/spec.SquareOfLists -/
theorem c_spec_SquareOfLists {l0 : (List (List Int))} {A0 : Option Addr} {c0 : Nat} {ga0 : List (Option Addr × Nat)} {h : Hp} {r : Sq × Int} (hm : m_spec_SquareOfLists l0 = some r) (hs0 : RdSS h A0 (ints .i64) l0 ga0) :
    QC Try.prog 27 #[.slice A0 l0.length c0] h (.tuple #[.agg (sqC r.1).toArray, .int .i64 r.2]) := by
 unfold m_spec_SquareOfLists at hm
 refine CC.enter Try.func27 rfl Try.ntmps27 rfl ?_
 refine wpA_seq ?_
 refine wpA_region ?_
 refine Ops_loud rfl (LO.alloc rfl zr28 rfl (fun b1 hb1 => ?_))
 refine Ops_quiet _ rfl rfl (QO.assign rfl rfl) ?_
 refine Ops_nil ?_
 refine thenA_n ?_
 refine wpA_seq ?_
 refine wpA_region ?_
 refine Ops_quiet _ rfl rfl (QO.move rfl rfl) ?_
 refine Ops_quiet _ rfl rfl (QO.lenSl rfl sz39 rfl) ?_
 refine Ops_quiet _ rfl rfl (QO.assign rfl rfl) ?_
 refine Ops_nil ?_
 refine thenA_n ?_
 refine wpA_seq ?_
 refine wpA_seq ?_
 refine wpA_region ?_
 refine Ops_quiet _ rfl rfl (QO.move rfl rfl) ?_
 have hq := Option.bind_eq_some_iff.1 hm; clear hm; obtain ⟨r1, hr1, hm⟩ := hq
 refine Ops_call _ _ rfl rfl (EO.fn rfl Try.func56 rfl rfl (Evs.cons rfl (Evs.cons rfl (Evs.cons rfl Evs.nil)))) (QC.cc (c_spec_l01In hr1 ) ?_)
 refine Ops_quiet _ rfl rfl (QO.not rfl rfl) ?_
 refine Ops_nil ?_
 refine thenA_n ?_
 refine wpA_cond rfl (fun g1 => ?_) (fun g1 => ?_)
 ·replace hm := cond_t hm g1
  refine wpA_seq ?_
  refine wpA_region ?_
  refine Ops_quiet _ rfl rfl (QO.build0 rfl bd28) ?_
  refine Ops_loud rfl (LO.storeAll (cs := sqC sq0) rfl sz28 rfl rfl (sqC_one _) (sqC_length _) (upd_same _ _ _) (sqC_length _) Chg.here rfl ?_)
  refine Ops_quiet _ rfl rfl (QO.assign rfl rfl) ?_
  refine Ops_nil ?_
  refine thenA_n ?_
  refine wpA_ret ?_
  refine thenA_r ?_
  obtain rfl := Option.some.inj hm
  exact retA_r (h2 := h) (Res.two rfl (res1.row (cs := sqC sq0) (hr := (rdAll (upd_same _ _ _))) sz28 rfl rfl (sqC_length _)) (rfl)) (Le.under (Le.refl _) hb1) ⟨rfl, rfl⟩
 ·replace hm := cond_f hm g1
  refine wpA_skip ?_
  refine thenA_n ?_
  refine wpA_seq ?_
  refine wpA_region ?_
  refine Ops_quiet _ rfl rfl (QO.move rfl rfl) ?_
  refine Ops_quiet _ rfl rfl (QO.build1 rfl rfl (bd28_0 ((l0.length : Nat) : Int))) ?_
  refine Ops_loud rfl (LO.alloc rfl zr28 rfl (fun b2 hb2 => ?_))
  simp only [upd_noneA] at hb2
  obtain ⟨n_b2_b1, hb2⟩ := hb2
  refine Ops_loud rfl (LO.storeAll (cs := sqC (⟨((l0.length : Nat) : Int), tb0⟩ : Sq)) rfl sz28 rfl rfl (sqC_one _) (sqC_length _) (upd_same _ _ _) (sqC_length _) Chg.here rfl ?_)
  refine Ops_nil ?_
  refine thenA_n ?_
  refine wpA_seq ?_
  refine wpA_seq ?_
  refine wpA_region ?_
  refine Ops_quiet _ rfl rfl (QO.assign rfl rfl) ?_
  refine Ops_nil ?_
  refine thenA_n ?_
  refine wpA_block ?_
  obtain ⟨R1, hR, hm⟩ := Option.bind_eq_some_iff.1 hm
  obtain ⟨k1, hk1⟩ := loopV_some hR
  clear hR
  refine wpA_mono (Q := fun e s' h' => match (generalizing := false) R1 with | .stop x id => e = .exit id ∧ ∃ (x1 : Int) (x2 : Sq) (x3 : Sq), (x1, x2, x3) = x ∧ Sub s' [(0, .slice A0 l0.length c0), (2, .pointer (some ⟨b1, 0, none⟩)), (4, .int .i64 ((l0.length : Nat) : Int)), (5, .pointer (some ⟨b2, 0, none⟩)), (6, .int .i64 x1)] ∧ Le (upd (upd (h) b1 (.own 28 (sqC x2) 101)) b2 (.own 28 (sqC x3) 101)) h' | .ret r => e = .ret ∧ Sub s' [(2, .pointer (some ⟨b1, 0, none⟩)), (3, .int .i64 r.2)] ∧ Le (upd (h) b1 (.own 28 (sqC r.1) 101)) h' | .next _ => False) ?_ ?_
  ·refine wpA_loop (fun k s' h' => ∃ (x1 : Int) (x2 : Sq) (x3 : Sq), loopW (m_spec_SquareOfLists_l0 l0) k (x1, x2, x3) = some R1 ∧ Sub s' [(0, .slice A0 l0.length c0), (2, .pointer (some ⟨b1, 0, none⟩)), (4, .int .i64 ((l0.length : Nat) : Int)), (5, .pointer (some ⟨b2, 0, none⟩)), (6, .int .i64 x1)] ∧ Le (upd (upd (h) b1 (.own 28 (sqC x2) 101)) b2 (.own 28 (sqC x3) 101)) h') (m := k1) ⟨0, sq0, (⟨((l0.length : Nat) : Int), tb0⟩ : Sq), hk1, (Sub.cons rfl (Sub.cons rfl (Sub.cons rfl (Sub.cons rfl (Sub.cons rfl Sub.nil))))), (Le.upd_left (Le.upd_left (Le.under (Le.under (Le.refl _) hb1) hb2) ((upd_ne _ _ n_b2_b1.ne.symm).trans (upd_same _ _ _)) (by first | rfl | (simp; done))) (upd_same _ _ _) (by first | rfl | (simp; done)))⟩ ?_
   rintro k1 s' h' ⟨x1, x2, x3, hk1, hsub, hle⟩
   refine wpA_weaken hsub.ok hle ?_
   clear hsub hle s' h'
   cases k1 with
   | zero => exact absurd hk1 (by simp [loopW])
   | succ k1 =>
    obtain ⟨o1, ho1, hk1⟩ := loopW_succ hk1
    unfold m_spec_SquareOfLists_l0 at ho1
    try dsimp only at ho1
    refine wpA_seq ?_
    refine wpA_seq ?_
    refine wpA_region ?_
    refine Ops_quiet _ rfl rfl (QO.move rfl rfl) ?_
    refine Ops_quiet _ rfl rfl (QO.move rfl rfl) ?_
    refine Ops_quiet _ rfl rfl (QO.lenSl rfl sz39 rfl) ?_
    refine Ops_quiet _ rfl rfl (QO.bin rfl rfl rfl rfl) ?_
    refine Ops_nil ?_
    refine thenA_n ?_
    refine wpA_cond rfl (fun g2 => ?_) (fun g2 => ?_)
    ·replace ho1 := cond_t ho1 g2
     refine wpA_skip ?_
     refine thenA_n ?_
     refine wpA_seq ?_
     refine wpA_block ?_
     refine wpA_seq ?_
     refine wpA_seq ?_
     refine wpA_region ?_
     refine Ops_quiet _ rfl rfl (QO.move rfl rfl) ?_
     refine Ops_quiet _ rfl rfl (QO.move rfl rfl) ?_
     have hq := chk ho1; clear ho1; obtain ⟨ck1, ho1⟩ := hq
     refine Ops_quiet _ rfl rfl (QO.idxRd2 rfl sz39 sz57 rfl rfl (by omega) (by omega) (RdSS.out hs0) (by simp [rowsC_length, rowsA_length, mpC_length, sqC_length, tbC_length, tabI_length, tabB_length, ints_length, plsC_length, trC_length, sqsC_length, strsC_length, boolsC_length, tbB_length, List.length_append, List.length_cons, List.length_nil, List.length_set, List.length_replicate, rep_length]) (by decide)) ?_
     refine Ops_quiet (.slice (ga0.getD (x1).toNat (none, 0)).1 (l0.getD (x1).toNat []).length (ga0.getD (x1).toNat (none, 0)).2) rfl rfl (QO.load rfl sz57 rfl rfl (RdS.rd (RdS.le (RdSS.out hs0) (Le.under (Le.under (Le.refl _) hb1) hb2)) (rowsA_get (by omega)))) ?_
     have hsr1 := hs0.row (x1).toNat (by omega)
     refine Ops_quiet _ rfl rfl (QO.lenSl rfl sz57 rfl) ?_
     refine Ops_quiet _ rfl rfl (QO.move rfl rfl) ?_
     refine Ops_quiet _ rfl rfl (QO.bin rfl rfl rfl rfl) ?_
     refine Ops_nil ?_
     refine thenA_n ?_
     refine wpA_cond rfl (fun g3 => ?_) (fun g3 => ?_)
     ·replace ho1 := cond_t ho1 g3
      refine wpA_seq ?_
      refine wpA_region ?_
      refine Ops_quiet _ rfl rfl (QO.build0 rfl bd28) ?_
      refine Ops_loud rfl (LO.storeAll (cs := sqC sq0) rfl sz28 rfl rfl (sqC_one _) (sqC_length _) ((upd_ne _ _ n_b2_b1.ne.symm).trans (upd_same _ _ _)) (sqC_length _) (Chg.there n_b2_b1.ne Chg.here) rfl ?_)
      refine Ops_quiet _ rfl rfl (QO.assign rfl rfl) ?_
      refine Ops_nil ?_
      refine thenA_n ?_
      refine wpA_ret ?_
      refine thenA_r ?_
      refine blockA_r ?_
      refine thenA_r ?_
      refine thenA_r ?_
      obtain rfl := Option.some.inj ho1
      obtain rfl := Option.some.inj hk1
      exact ⟨rfl, (Sub.cons rfl (Sub.cons rfl Sub.nil)), (Le.upd_left (Le.under (Le.under (Le.refl _) hb1) hb2) ((upd_ne _ _ n_b2_b1.ne.symm).trans (upd_same _ _ _)) (by first | rfl | (simp; done)))⟩
     ·replace ho1 := cond_f ho1 g3
      refine wpA_skip ?_
      refine thenA_n ?_
      refine wpA_seq ?_
      refine wpA_region ?_
      refine Ops_quiet _ rfl rfl (QO.assign rfl rfl) ?_
      refine Ops_nil ?_
      refine thenA_n ?_
      refine wpA_block ?_
      obtain ⟨R2, hR, ho1⟩ := Option.bind_eq_some_iff.1 ho1
      obtain ⟨k2, hk2⟩ := loopV_some hR
      clear hR
      refine wpA_mono (Q := fun e s' h' => match (generalizing := false) R2 with | .stop x id => e = .exit id ∧ ∃ (x4 : Int) (x5 : Sq) (x6 : Sq), (x4, x5, x6) = x ∧ Sub s' [(0, .slice A0 l0.length c0), (2, .pointer (some ⟨b1, 0, none⟩)), (4, .int .i64 ((l0.length : Nat) : Int)), (5, .pointer (some ⟨b2, 0, none⟩)), (6, .int .i64 x1), (7, .int .i64 x4)] ∧ Le (upd (upd (h) b1 (.own 28 (sqC x5) 101)) b2 (.own 28 (sqC x6) 101)) h' | .ret r => e = .ret ∧ Sub s' [(2, .pointer (some ⟨b1, 0, none⟩)), (3, .int .i64 r.2)] ∧ Le (upd (h) b1 (.own 28 (sqC r.1) 101)) h' | .next _ => False) ?_ ?_
      ·refine wpA_loop (fun k s' h' => ∃ (x4 : Int) (x5 : Sq) (x6 : Sq), loopW (m_spec_SquareOfLists_l1 l0 x1) k (x4, x5, x6) = some R2 ∧ Sub s' [(0, .slice A0 l0.length c0), (2, .pointer (some ⟨b1, 0, none⟩)), (4, .int .i64 ((l0.length : Nat) : Int)), (5, .pointer (some ⟨b2, 0, none⟩)), (6, .int .i64 x1), (7, .int .i64 x4)] ∧ Le (upd (upd (h) b1 (.own 28 (sqC x5) 101)) b2 (.own 28 (sqC x6) 101)) h') (m := k2) ⟨0, x2, x3, hk2, (Sub.cons rfl (Sub.cons rfl (Sub.cons rfl (Sub.cons rfl (Sub.cons rfl (Sub.cons rfl Sub.nil)))))), (Le.upd_left (Le.upd_left (Le.under (Le.under (Le.refl _) hb1) hb2) ((upd_ne _ _ n_b2_b1.ne.symm).trans (upd_same _ _ _)) (by first | rfl | (simp; done))) (upd_same _ _ _) (by first | rfl | (simp; done)))⟩ ?_
       rintro k2 s' h' ⟨x4, x5, x6, hk2, hsub, hle⟩
       refine wpA_weaken hsub.ok hle ?_
       clear hsub hle s' h'
       cases k2 with
       | zero => exact absurd hk2 (by simp [loopW])
       | succ k2 =>
        obtain ⟨o2, ho2, hk2⟩ := loopW_succ hk2
        unfold m_spec_SquareOfLists_l1 at ho2
        try dsimp only at ho2
        refine wpA_seq ?_
        refine wpA_seq ?_
        refine wpA_region ?_
        refine Ops_quiet _ rfl rfl (QO.move rfl rfl) ?_
        refine Ops_quiet _ rfl rfl (QO.move rfl rfl) ?_
        refine Ops_quiet _ rfl rfl (QO.move rfl rfl) ?_
        have hq := chk ho2; clear ho2; obtain ⟨ck2, ho2⟩ := hq
        refine Ops_quiet _ rfl rfl (QO.idxRd2 rfl sz39 sz57 rfl rfl (by omega) (by omega) (RdSS.out hs0) (by simp [rowsC_length, rowsA_length, mpC_length, sqC_length, tbC_length, tabI_length, tabB_length, ints_length, plsC_length, trC_length, sqsC_length, strsC_length, boolsC_length, tbB_length, List.length_append, List.length_cons, List.length_nil, List.length_set, List.length_replicate, rep_length]) (by decide)) ?_
        refine Ops_quiet (.slice (ga0.getD (x1).toNat (none, 0)).1 (l0.getD (x1).toNat []).length (ga0.getD (x1).toNat (none, 0)).2) rfl rfl (QO.load rfl sz57 rfl rfl (RdS.rd (RdS.le (RdSS.out hs0) (Le.under (Le.under (Le.refl _) hb1) hb2)) (rowsA_get (by omega)))) ?_
        have hsr2 := hs0.row (x1).toNat (by omega)
        refine Ops_quiet _ rfl rfl (QO.lenSl rfl sz57 rfl) ?_
        refine Ops_quiet _ rfl rfl (QO.bin rfl rfl rfl rfl) ?_
        refine Ops_nil ?_
        refine thenA_n ?_
        refine wpA_cond rfl (fun g4 => ?_) (fun g4 => ?_)
        ·replace ho2 := cond_t ho2 g4
         refine wpA_skip ?_
         refine thenA_n ?_
         refine wpA_seq ?_
         refine wpA_block ?_
         refine wpA_seq ?_
         refine wpA_seq ?_
         refine wpA_region ?_
         refine Ops_quiet _ rfl rfl (QO.move rfl rfl) ?_
         refine Ops_quiet _ rfl rfl (QO.move rfl rfl) ?_
         have hq := chk ho2; clear ho2; obtain ⟨ck3, ho2⟩ := hq
         refine Ops_quiet _ rfl rfl (QO.idxRd2 rfl sz39 sz57 rfl rfl (by omega) (by omega) (RdSS.out hs0) (by simp [rowsC_length, rowsA_length, mpC_length, sqC_length, tbC_length, tabI_length, tabB_length, ints_length, plsC_length, trC_length, sqsC_length, strsC_length, boolsC_length, tbB_length, List.length_append, List.length_cons, List.length_nil, List.length_set, List.length_replicate, rep_length]) (by decide)) ?_
         refine Ops_quiet (.slice (ga0.getD (x1).toNat (none, 0)).1 (l0.getD (x1).toNat []).length (ga0.getD (x1).toNat (none, 0)).2) rfl rfl (QO.load rfl sz57 rfl rfl (RdS.rd (RdS.le (RdSS.out hs0) (Le.under (Le.under (Le.refl _) hb1) hb2)) (rowsA_get (by omega)))) ?_
         have hsr3 := hs0.row (x1).toNat (by omega)
         refine Ops_quiet _ rfl rfl (QO.move rfl rfl) ?_
         have hq := chk ho2; clear ho2; obtain ⟨ck4, ho2⟩ := hq
         refine Ops_quiet _ rfl rfl (QO.idxRd2 rfl sz57 sz2 rfl rfl (by omega) (by omega) hsr3 (by simp [rowsC_length, rowsA_length, mpC_length, sqC_length, tbC_length, tabI_length, tabB_length, ints_length, plsC_length, trC_length, sqsC_length, strsC_length, boolsC_length, tbB_length, List.length_append, List.length_cons, List.length_nil, List.length_set, List.length_replicate, rep_length]) (by decide)) ?_
         refine Ops_quiet _ rfl rfl (QO.load rfl sz2 rfl rfl (by first | exact (RdS.rd (RdS.le hsr3 (Le.under (Le.under (Le.refl _) hb1) hb2)) (by first | rfl | exact sqC_get (by omega) (by omega) | exact tbC_get (by omega) (by omega) | exact tbB_get (by omega) (by omega) | exact tabI_get01 (by omega) | exact tabB_get01 (by omega) | exact ints_get01 (by omega) | exact boolsC_get01 (by omega) | exact tabI_get (by omega) | exact tabB_get (by omega) | exact ints_get1 (by omega) | exact strsC_get01 (by omega) | exact strsC_get1 (by omega) | exact plsC_get (by omega) (by omega) | exact trC_a (by omega) | exact trC_b (by omega) | exact trC_c (by omega) | exact sqsC_ord (by omega) | exact sqsC_get (by omega) (by omega) (by omega))) | exact (RdS.rd2 (RdS.le hsr3 (Le.under (Le.under (Le.refl _) hb1) hb2)) (by first | rfl | exact sqC_get (by omega) (by omega) | exact tbC_get (by omega) (by omega) | exact tbB_get (by omega) (by omega) | exact tabI_get01 (by omega) | exact tabB_get01 (by omega) | exact ints_get01 (by omega) | exact boolsC_get01 (by omega) | exact tabI_get (by omega) | exact tabB_get (by omega) | exact ints_get1 (by omega) | exact strsC_get01 (by omega) | exact strsC_get1 (by omega) | exact plsC_get (by omega) (by omega) | exact trC_a (by omega) | exact trC_b (by omega) | exact trC_c (by omega) | exact sqsC_ord (by omega) | exact sqsC_get (by omega) (by omega) (by omega))) | exact (RdS.rd3 (RdS.le hsr3 (Le.under (Le.under (Le.refl _) hb1) hb2)) (by first | rfl | exact sqC_get (by omega) (by omega) | exact tbC_get (by omega) (by omega) | exact tbB_get (by omega) (by omega) | exact tabI_get01 (by omega) | exact tabB_get01 (by omega) | exact ints_get01 (by omega) | exact boolsC_get01 (by omega) | exact tabI_get (by omega) | exact tabB_get (by omega) | exact ints_get1 (by omega) | exact strsC_get01 (by omega) | exact strsC_get1 (by omega) | exact plsC_get (by omega) (by omega) | exact trC_a (by omega) | exact trC_b (by omega) | exact trC_c (by omega) | exact sqsC_ord (by omega) | exact sqsC_get (by omega) (by omega) (by omega))))) ?_
         refine Ops_quiet _ rfl rfl (QO.move rfl rfl) ?_
         refine Ops_quiet _ rfl rfl (QO.bin rfl rfl rfl rfl) ?_
         have hq := Option.bind_eq_some_iff.1 ho2; clear ho2; obtain ⟨r2, hr2, ho2⟩ := hq
         refine Ops_call _ _ rfl rfl (EO.fn rfl Try.func56 rfl rfl (Evs.cons rfl (Evs.cons rfl (Evs.cons rfl Evs.nil)))) (QC.cc (c_spec_l01In hr2 ) ?_)
         refine Ops_quiet _ rfl rfl (QO.not rfl rfl) ?_
         refine Ops_nil ?_
         refine thenA_n ?_
         refine wpA_cond rfl (fun g5 => ?_) (fun g5 => ?_)
         ·replace ho2 := cond_t ho2 g5
          refine wpA_seq ?_
          refine wpA_region ?_
          refine Ops_quiet _ rfl rfl (QO.build0 rfl bd28) ?_
          refine Ops_loud rfl (LO.storeAll (cs := sqC sq0) rfl sz28 rfl rfl (sqC_one _) (sqC_length _) ((upd_ne _ _ n_b2_b1.ne.symm).trans (upd_same _ _ _)) (sqC_length _) (Chg.there n_b2_b1.ne Chg.here) rfl ?_)
          refine Ops_quiet _ rfl rfl (QO.assign rfl rfl) ?_
          refine Ops_nil ?_
          refine thenA_n ?_
          refine wpA_ret ?_
          refine thenA_r ?_
          refine blockA_r ?_
          refine thenA_r ?_
          refine thenA_r ?_
          obtain rfl := Option.some.inj ho2
          obtain rfl := Option.some.inj hk2
          exact ⟨rfl, (Sub.cons rfl (Sub.cons rfl Sub.nil)), (Le.upd_left (Le.under (Le.under (Le.refl _) hb1) hb2) ((upd_ne _ _ n_b2_b1.ne.symm).trans (upd_same _ _ _)) (by first | rfl | (simp; done)))⟩
         ·replace ho2 := cond_f ho2 g5
          refine wpA_skip ?_
          refine thenA_n ?_
          refine wpA_any (upd (upd (h) b1 (.own 28 (sqC x5) 101)) b2 (.own 28 (sqC x6) 101)) [13] [13] (by kernel_rfl) (by kernel_rfl) (DW.start ?_)
          refine DW.pure' 0 _ rfl (by kernel_rfl) rfl (fun _ => QO.move rfl rfl) ?_
          refine DW.pure' 1 _ rfl (by kernel_rfl) rfl (fun _ => QO.move rfl rfl) ?_
          refine DW.pure' 2 _ rfl (by kernel_rfl) rfl (fun _ => QO.move rfl rfl) ?_
          refine DW.pure' 3 _ rfl (by kernel_rfl) rfl (fun _ => QO.move rfl rfl) ?_
          have hq := chk ho2; clear ho2; obtain ⟨ck5, ho2⟩ := hq
          refine DW.pure' 4 _ rfl (by kernel_rfl) rfl (fun _ => QO.idxRd2 rfl sz39 sz57 rfl rfl (by omega) (by omega) (RdSS.out hs0) (by simp [rowsC_length, rowsA_length, mpC_length, sqC_length, tbC_length, tabI_length, tabB_length, ints_length, plsC_length, trC_length, sqsC_length, strsC_length, boolsC_length, tbB_length, List.length_append, List.length_cons, List.length_nil, List.length_set, List.length_replicate, rep_length]) (by decide)) ?_
          refine DW.read' 5 _ rfl (by kernel_rfl) rfl (QO.load rfl sz57 rfl rfl (RdS.rd (RdS.le (RdSS.out hs0) (Le.under (Le.under (Le.refl _) hb1) hb2)) (rowsA_get (by omega)))) ?_
          have hsr4 := hs0.row (x1).toNat (by omega)
          refine DW.pure' 6 _ rfl (by kernel_rfl) rfl (fun _ => QO.move rfl rfl) ?_
          have hq := chk ho2; clear ho2; obtain ⟨ck6, ho2⟩ := hq
          refine DW.pure' 7 _ rfl (by kernel_rfl) rfl (fun _ => QO.idxRd2 rfl sz57 sz2 rfl rfl (by omega) (by omega) hsr4 (by simp [rowsC_length, rowsA_length, mpC_length, sqC_length, tbC_length, tabI_length, tabB_length, ints_length, plsC_length, trC_length, sqsC_length, strsC_length, boolsC_length, tbB_length, List.length_append, List.length_cons, List.length_nil, List.length_set, List.length_replicate, rep_length]) (by decide)) ?_
          refine DW.read' 8 _ rfl (by kernel_rfl) rfl (QO.load rfl sz2 rfl rfl (by first | exact (RdS.rd (RdS.le hsr4 (Le.under (Le.under (Le.refl _) hb1) hb2)) (by first | rfl | exact sqC_get (by omega) (by omega) | exact tbC_get (by omega) (by omega) | exact tbB_get (by omega) (by omega) | exact tabI_get01 (by omega) | exact tabB_get01 (by omega) | exact ints_get01 (by omega) | exact boolsC_get01 (by omega) | exact tabI_get (by omega) | exact tabB_get (by omega) | exact ints_get1 (by omega) | exact strsC_get01 (by omega) | exact strsC_get1 (by omega) | exact plsC_get (by omega) (by omega) | exact trC_a (by omega) | exact trC_b (by omega) | exact trC_c (by omega) | exact sqsC_ord (by omega) | exact sqsC_get (by omega) (by omega) (by omega))) | exact (RdS.rd2 (RdS.le hsr4 (Le.under (Le.under (Le.refl _) hb1) hb2)) (by first | rfl | exact sqC_get (by omega) (by omega) | exact tbC_get (by omega) (by omega) | exact tbB_get (by omega) (by omega) | exact tabI_get01 (by omega) | exact tabB_get01 (by omega) | exact ints_get01 (by omega) | exact boolsC_get01 (by omega) | exact tabI_get (by omega) | exact tabB_get (by omega) | exact ints_get1 (by omega) | exact strsC_get01 (by omega) | exact strsC_get1 (by omega) | exact plsC_get (by omega) (by omega) | exact trC_a (by omega) | exact trC_b (by omega) | exact trC_c (by omega) | exact sqsC_ord (by omega) | exact sqsC_get (by omega) (by omega) (by omega))) | exact (RdS.rd3 (RdS.le hsr4 (Le.under (Le.under (Le.refl _) hb1) hb2)) (by first | rfl | exact sqC_get (by omega) (by omega) | exact tbC_get (by omega) (by omega) | exact tbB_get (by omega) (by omega) | exact tabI_get01 (by omega) | exact tabB_get01 (by omega) | exact ints_get01 (by omega) | exact boolsC_get01 (by omega) | exact tabI_get (by omega) | exact tabB_get (by omega) | exact ints_get1 (by omega) | exact strsC_get01 (by omega) | exact strsC_get1 (by omega) | exact plsC_get (by omega) (by omega) | exact trC_a (by omega) | exact trC_b (by omega) | exact trC_c (by omega) | exact sqsC_ord (by omega) | exact sqsC_get (by omega) (by omega) (by omega))))) ?_
          refine DW.pure' 9 _ rfl (by kernel_rfl) rfl (fun _ => QO.conv rfl sz2 sz5 rfl) ?_
          refine DW.pure' 10 _ rfl (by kernel_rfl) rfl (fun _ => QO.fieldAt (fo := 1) rfl sz28 rfl rfl sz26 rfl rfl) ?_
          have hq := chk ho2; clear ho2; obtain ⟨ck7, ho2⟩ := hq
          refine DW.pure' 11 _ rfl (by kernel_rfl) rfl (fun _ => QO.idxArr rfl sz26 sz24 rfl rfl (by omega) (by omega)) ?_
          have hq := chk ho2; clear ho2; obtain ⟨ck8, ho2⟩ := hq
          refine DW.pure' 12 _ rfl (by kernel_rfl) rfl (fun _ => QO.idxArr rfl sz24 sz5 rfl rfl (by omega) (by omega)) ?_
          refine DW.loud 13 rfl (by kernel_rfl) rfl rfl (LO.store' (xs' := sqC (⟨x6.order, (tset x6.t (x1).toNat (x4).toNat (IntKind.u8.wrap ((l0.getD (x1).toNat []).getD (x4).toNat 0)))⟩ : Sq)) rfl sz5 rfl rfl rfl (upd_same _ _ _) (by first | ((try simp only [rowsC_length, rowsA_length, mpC_length, sqC_length, tbC_length, tabI_length, tabB_length, ints_length, plsC_length, trC_length, sqsC_length, strsC_length, boolsC_length, tbB_length, List.length_append, List.length_cons, List.length_nil, List.length_set, List.length_replicate, rep_length]); first | omega | decide) | exact Nat.le_of_ble_eq_true rfl) (sqC_set (by omega) (by omega)) Chg.here rfl ?_)
          refine ⟨(fun e => absurd e (by decide)), ?_⟩
          refine DW.done (by kernel_rfl) ?_ _
          refine blockA_n ?_
          refine thenA_n ?_
          refine wpA_region ?_
          refine Ops_quiet _ rfl rfl (QO.move rfl rfl) ?_
          refine Ops_quiet _ rfl rfl (QO.bin rfl rfl rfl rfl) ?_
          refine Ops_quiet _ rfl rfl (QO.assign rfl rfl) ?_
          refine Ops_nil ?_
          obtain rfl := Option.some.inj ho2
          dsimp only at hk2
          exact thenA_n ⟨k2, Nat.lt_succ_self _, _, _, _, hk2, (Sub.cons rfl (Sub.cons rfl (Sub.cons rfl (Sub.cons rfl (Sub.cons rfl (Sub.cons rfl Sub.nil)))))), (Le.upd_left (Le.upd_left (Le.under (Le.under (Le.refl _) hb1) hb2) ((upd_ne _ _ n_b2_b1.ne.symm).trans (upd_same _ _ _)) (by first | rfl | (simp; done))) (upd_same _ _ _) (by first | rfl | (simp; done)))⟩
        ·replace ho2 := cond_f ho2 g4
         refine wpA_exit ?_
         refine thenA_e ?_
         refine thenA_e ?_
         obtain rfl := Option.some.inj ho2
         obtain rfl := Option.some.inj hk2
         exact ⟨rfl, _, _, _, rfl, (Sub.cons rfl (Sub.cons rfl (Sub.cons rfl (Sub.cons rfl (Sub.cons rfl (Sub.cons rfl Sub.nil)))))), (Le.upd_left (Le.upd_left (Le.under (Le.under (Le.refl _) hb1) hb2) ((upd_ne _ _ n_b2_b1.ne.symm).trans (upd_same _ _ _)) (by first | rfl | (simp; done))) (upd_same _ _ _) (by first | rfl | (simp; done)))⟩
      ·intro e s' h' hq
       cases R2 with
       | next x => exact hq.elim
       | ret r =>
        obtain ⟨rfl, hsub1, hle1⟩ := hq
        try dsimp only at ho1
        refine blockA_r ?_
        refine blockA_r ?_
        refine thenA_r ?_
        refine thenA_r ?_
        obtain rfl := Option.some.inj ho1
        obtain rfl := Option.some.inj hk1
        exact ⟨rfl, (Sub.trans hsub1 (Sub.cons rfl (Sub.cons rfl Sub.nil))), (Le.trans (Le.upd_left (Le.under (Le.refl _) hb1) (upd_same _ _ _) (by first | rfl | (simp; done))) hle1)⟩
       | stop x id =>
        obtain ⟨rfl, x7, x8, x9, rfl, hsub2, hle2⟩ := hq
        try dsimp only at ho1
        by_cases hid1 : id = 2
        ·subst hid1
         rw [if_pos rfl] at ho1
         refine blockA_s ?_
         refine blockA_n ?_
         refine thenA_n ?_
         refine wpA_weaken hsub2.ok hle2 ?_
         refine wpA_region ?_
         refine Ops_quiet _ rfl rfl (QO.move rfl rfl) ?_
         refine Ops_quiet _ rfl rfl (QO.bin rfl rfl rfl rfl) ?_
         refine Ops_quiet _ rfl rfl (QO.assign rfl rfl) ?_
         refine Ops_nil ?_
         obtain rfl := Option.some.inj ho1
         dsimp only at hk1
         exact thenA_n ⟨k1, Nat.lt_succ_self _, _, _, _, hk1, (Sub.cons rfl (Sub.cons rfl (Sub.cons rfl (Sub.cons rfl (Sub.cons rfl Sub.nil))))), (Le.upd_left (Le.upd_left (Le.under (Le.under (Le.refl _) hb1) hb2) ((upd_ne _ _ n_b2_b1.ne.symm).trans (upd_same _ _ _)) (by first | rfl | (simp; done))) (upd_same _ _ _) (by first | rfl | (simp; done)))⟩
        rw [if_neg hid1] at ho1
        exact absurd ho1 (by simp)
    ·replace ho1 := cond_f ho1 g2
     refine wpA_exit ?_
     refine thenA_e ?_
     refine thenA_e ?_
     obtain rfl := Option.some.inj ho1
     obtain rfl := Option.some.inj hk1
     exact ⟨rfl, _, _, _, rfl, (Sub.cons rfl (Sub.cons rfl (Sub.cons rfl (Sub.cons rfl (Sub.cons rfl Sub.nil))))), (Le.upd_left (Le.upd_left (Le.under (Le.under (Le.refl _) hb1) hb2) ((upd_ne _ _ n_b2_b1.ne.symm).trans (upd_same _ _ _)) (by first | rfl | (simp; done))) (upd_same _ _ _) (by first | rfl | (simp; done)))⟩
  ·intro e s' h' hq
   cases R1 with
   | next x => exact hq.elim
   | ret r =>
    obtain ⟨rfl, hsub3, hle3⟩ := hq
    try dsimp only at hm
    refine blockA_r ?_
    refine thenA_r ?_
    obtain rfl := Option.some.inj hm
    refine retA_sub hsub3.ok hle3 ?_
    exact retA_r (h2 := h) (Res.two rfl (res1.row (cs := sqC r.1) (hr := (rdAll (upd_same _ _ _))) sz28 rfl rfl (sqC_length _)) (rfl)) (Le.under (Le.refl _) hb1) ⟨rfl, rfl⟩
   | stop x id =>
    obtain ⟨rfl, x10, x11, x12, rfl, hsub4, hle4⟩ := hq
    try dsimp only at hm
    by_cases hid2 : id = 0
    ·subst hid2
     rw [if_pos rfl] at hm
     refine blockA_s ?_
     refine thenA_n ?_
     refine wpA_weaken hsub4.ok hle4 ?_
     refine wpA_seq ?_
     refine wpA_seq ?_
     refine wpA_region ?_
     refine Ops_quiet _ rfl rfl (QO.loadRow (cs := sqC x12) (hr := (rdAll (upd_same _ _ _))) rfl sz28 rfl rfl (sqC_length _)) ?_
     have hq := Option.bind_eq_some_iff.1 hm; clear hm; obtain ⟨r3, hr3, hm⟩ := hq
     refine Ops_call _ _ rfl rfl (EO.fn rfl Try.func34 rfl rfl (Evs.cons rfl Evs.nil)) (QC.cc (c_spec_l01Is hr3 ) ?_)
     refine Ops_quiet _ rfl rfl (QO.not rfl rfl) ?_
     refine Ops_nil ?_
     refine thenA_n ?_
     refine wpA_cond rfl (fun g6 => ?_) (fun g6 => ?_)
     ·replace hm := cond_t hm g6
      refine wpA_seq ?_
      refine wpA_region ?_
      refine Ops_quiet _ rfl rfl (QO.build0 rfl bd28) ?_
      refine Ops_loud rfl (LO.storeAll (cs := sqC sq0) rfl sz28 rfl rfl (sqC_one _) (sqC_length _) ((upd_ne _ _ n_b2_b1.ne.symm).trans (upd_same _ _ _)) (sqC_length _) (Chg.there n_b2_b1.ne Chg.here) rfl ?_)
      refine Ops_quiet _ rfl rfl (QO.assign rfl rfl) ?_
      refine Ops_nil ?_
      refine thenA_n ?_
      refine wpA_ret ?_
      refine thenA_r ?_
      obtain rfl := Option.some.inj hm
      exact retA_r (h2 := h) (Res.two rfl (res1.row (cs := sqC sq0) (hr := (rdAll ((upd_ne _ _ n_b2_b1.ne.symm).trans (upd_same _ _ _)))) sz28 rfl rfl (sqC_length _)) (rfl)) (Le.under (Le.under (Le.refl _) hb1) hb2) ⟨rfl, rfl⟩
     ·replace hm := cond_f hm g6
      refine wpA_skip ?_
      refine thenA_n ?_
      refine wpA_seq ?_
      refine wpA_region ?_
      refine Ops_quiet _ rfl rfl (QO.loadRow (cs := sqC x12) (hr := (rdAll (upd_same _ _ _))) rfl sz28 rfl rfl (sqC_length _)) ?_
      refine Ops_loud rfl (LO.storeAll (cs := sqC x12) rfl sz28 rfl rfl (sqC_one _) (sqC_length _) ((upd_ne _ _ n_b2_b1.ne.symm).trans (upd_same _ _ _)) (sqC_length _) (Chg.there n_b2_b1.ne Chg.here) rfl ?_)
      refine Ops_quiet _ rfl rfl (QO.assign rfl rfl) ?_
      refine Ops_nil ?_
      refine thenA_n ?_
      refine wpA_ret ?_
      obtain rfl := Option.some.inj hm
      exact retA_r (h2 := h) (Res.two rfl (res1.row (cs := sqC x12) (hr := (rdAll ((upd_ne _ _ n_b2_b1.ne.symm).trans (upd_same _ _ _)))) sz28 rfl rfl (sqC_length _)) (rfl)) (Le.under (Le.under (Le.refl _) hb1) hb2) ⟨rfl, rfl⟩
    rw [if_neg hid2] at hm
    exact absurd hm (by simp)
end Go.Lab
