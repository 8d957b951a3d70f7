/- The walks: each function computes what its model tells. -/
import Derived.Test.YtnkllppifbmkjaaW3
set_option linter.unusedVariables false
set_option linter.unusedSimpArgs false
namespace Go.Lab
open Go Go.Abs Go.Proofs
set_option maxRecDepth 20000
set_option linter.unusedVariables false
set_option linter.unusedSimpArgs false
/-! loop.example/g01195/laws.FnPermutations -/
theorem c_laws_FnPermutations {l0 : (List Int)} {A0 : Option Addr} {c0 : Nat} {h : Hp} {r : Bool} (hm : m_laws_FnPermutations l0 = some r) (hs0 : RdS h A0 (ints .u8 l0)) :
    QC Try.prog 3 #[.slice A0 l0.length c0] h (.bool r) := by
 unfold m_laws_FnPermutations at hm
 refine CC.enter Try.func3 rfl Try.ntmps3 rfl ?_
 refine wpA_seq ?_
 refine wpA_region ?_
 refine Ops_quiet _ rfl rfl (QO.assign rfl rfl) ?_
 refine Ops_nil ?_
 refine thenA_n ?_
 refine wpA_seq ?_
 refine wpA_seq ?_
 refine wpA_region ?_
 refine Ops_quiet _ rfl rfl (QO.move rfl rfl) ?_
 have hq := Option.bind_eq_some_iff.1 hm; clear hm; obtain ⟨r1, hr1, hm⟩ := hq
 refine Ops_call _ _ rfl rfl (EO.fn rfl Try.func4 rfl rfl (Evs.cons rfl Evs.nil)) (QC.cc (c_laws_big (l0 := l0) (A0 := A0) (c0 := c0) hr1 (RdS.le hs0 (Le.refl _))) ?_)
 refine Ops_nil ?_
 refine thenA_n ?_
 refine wpA_cond rfl (fun g1 => ?_) (fun g1 => ?_)
 ·replace hm := cond_t hm g1
  refine wpA_seq ?_
  refine wpA_region ?_
  refine Ops_quiet _ rfl rfl (QO.assign rfl rfl) ?_
  refine Ops_nil ?_
  refine thenA_n ?_
  refine wpA_ret ?_
  refine thenA_r ?_
  obtain rfl := Option.some.inj hm
  exact retA_r (h2 := h) (Res.one rfl (rfl)) (Le.refl _) ⟨rfl, rfl⟩
 ·replace hm := cond_f hm g1
  refine wpA_skip ?_
  refine thenA_n ?_
  refine wpA_seq ?_
  refine wpA_region ?_
  refine Ops_quiet _ rfl rfl (QO.move rfl rfl) ?_
  have hq := Option.bind_eq_some_iff.1 hm; clear hm; obtain ⟨r2, hr2, hm⟩ := hq
  refine Ops_call _ _ rfl rfl (EO.fn rfl Try.func5 rfl rfl (Evs.cons rfl Evs.nil)) (QC.cc (c_spec_DrawThenPlaces (l0 := l0) (A0 := A0) (c0 := c0) hr2 (RdS.le hs0 (Le.refl _))) ?_)
  refine Ops_quiet _ rfl rfl (QO.move rfl rfl) ?_
  refine Ops_quiet _ rfl rfl (QO.extract rfl rfl rfl) ?_
  refine Ops_quiet _ rfl rfl (QO.extract rfl rfl rfl) ?_
  refine Ops_quiet _ rfl rfl (QO.extract rfl rfl rfl) ?_
  refine Ops_loud rfl (LO.alloc rfl zr25 rfl (fun b1 hb1 => ?_))
  refine Ops_loud rfl (LO.alloc rfl zr25 rfl (fun b2 hb2 => ?_))
  simp only [upd_noneA] at hb2
  obtain ⟨n_b2_b1, hb2⟩ := hb2
  refine Ops_loud rfl (LO.storeAll (cs := tabI .u8 r2.1 10) rfl sz25 rfl rfl (tabI_one _ _ _) (tabI_length _ _ _) ((upd_ne _ _ n_b2_b1.ne.symm).trans (upd_same _ _ _)) (tabI_length _ _ _) (Chg.there n_b2_b1.ne Chg.here) rfl ?_)
  refine Ops_loud rfl (LO.storeAll (cs := tabI .u8 r2.2.1 10) rfl sz25 rfl rfl (tabI_one _ _ _) (tabI_length _ _ _) (upd_same _ _ _) (tabI_length _ _ _) Chg.here rfl ?_)
  refine Ops_quiet _ rfl rfl (QO.assign rfl rfl) ?_
  refine Ops_nil ?_
  refine thenA_n ?_
  refine wpA_seq ?_
  refine wpA_region ?_
  refine Ops_quiet _ rfl rfl (QO.loadRow (cs := tabI .u8 r2.1 10) (hr := (rdAll ((upd_ne _ _ n_b2_b1.ne.symm).trans (upd_same _ _ _)))) rfl sz25 rfl rfl (tabI_length _ _ _)) ?_
  refine Ops_quiet _ rfl rfl (QO.loadRow (cs := tabI .u8 r2.2.1 10) (hr := (rdAll (upd_same _ _ _))) rfl sz25 rfl rfl (tabI_length _ _ _)) ?_
  refine Ops_quiet _ rfl rfl (QO.move rfl rfl) ?_
  have hq := Option.bind_eq_some_iff.1 hm; clear hm; obtain ⟨r3, hr3, hm⟩ := hq
  refine Ops_call _ _ rfl rfl (EO.fn rfl Try.func6 rfl rfl (Evs.cons rfl (Evs.cons rfl (Evs.cons rfl Evs.nil)))) (QC.cc (c_impl_ThenPlaces hr3 ) ?_)
  refine Ops_quiet _ rfl rfl (QO.move rfl rfl) ?_
  refine Ops_quiet _ rfl rfl (QO.extract rfl rfl rfl) ?_
  refine Ops_quiet _ rfl rfl (QO.extract rfl rfl rfl) ?_
  refine Ops_loud rfl (LO.alloc rfl zr25 rfl (fun b3 hb3 => ?_))
  simp only [upd_noneA] at hb3
  obtain ⟨n_b3_b2, n_b3_b1, hb3⟩ := hb3
  refine Ops_loud rfl (LO.storeAll (cs := tabI .u8 r3.1 10) rfl sz25 rfl rfl (tabI_one _ _ _) (tabI_length _ _ _) (upd_same _ _ _) (tabI_length _ _ _) Chg.here rfl ?_)
  refine Ops_quiet _ rfl rfl (QO.assign rfl rfl) ?_
  refine Ops_nil ?_
  refine thenA_n ?_
  refine wpA_seq ?_
  refine wpA_region ?_
  refine Ops_quiet _ rfl rfl (QO.loadRow (cs := tabI .u8 r2.1 10) (hr := (rdAll ((upd_ne _ _ n_b3_b1.ne.symm).trans ((upd_ne _ _ n_b2_b1.ne.symm).trans (upd_same _ _ _))))) rfl sz25 rfl rfl (tabI_length _ _ _)) ?_
  refine Ops_quiet _ rfl rfl (QO.loadRow (cs := tabI .u8 r2.2.1 10) (hr := (rdAll ((upd_ne _ _ n_b3_b2.ne.symm).trans (upd_same _ _ _)))) rfl sz25 rfl rfl (tabI_length _ _ _)) ?_
  refine Ops_quiet _ rfl rfl (QO.move rfl rfl) ?_
  have hq := Option.bind_eq_some_iff.1 hm; clear hm; obtain ⟨r4, hr4, hm⟩ := hq
  refine Ops_call _ _ rfl rfl (EO.fn rfl Try.func7 rfl rfl (Evs.cons rfl (Evs.cons rfl (Evs.cons rfl Evs.nil)))) (QC.cc (c_spec_ThenPlaces hr4 ) ?_)
  refine Ops_quiet _ rfl rfl (QO.move rfl rfl) ?_
  refine Ops_quiet _ rfl rfl (QO.extract rfl rfl rfl) ?_
  refine Ops_quiet _ rfl rfl (QO.extract rfl rfl rfl) ?_
  refine Ops_loud rfl (LO.alloc rfl zr25 rfl (fun b4 hb4 => ?_))
  simp only [upd_noneA] at hb4
  obtain ⟨n_b4_b3, n_b4_b2, n_b4_b1, hb4⟩ := hb4
  refine Ops_loud rfl (LO.storeAll (cs := tabI .u8 r4.1 10) rfl sz25 rfl rfl (tabI_one _ _ _) (tabI_length _ _ _) (upd_same _ _ _) (tabI_length _ _ _) Chg.here rfl ?_)
  refine Ops_quiet _ rfl rfl (QO.assign rfl rfl) ?_
  refine Ops_nil ?_
  refine thenA_n ?_
  refine wpA_seq ?_
  refine wpA_region ?_
  refine Ops_quiet _ rfl rfl (QO.loadRow (cs := tabI .u8 r2.1 10) (hr := (rdAll ((upd_ne _ _ n_b4_b1.ne.symm).trans ((upd_ne _ _ n_b3_b1.ne.symm).trans ((upd_ne _ _ n_b2_b1.ne.symm).trans (upd_same _ _ _)))))) rfl sz25 rfl rfl (tabI_length _ _ _)) ?_
  refine Ops_quiet _ rfl rfl (QO.move rfl rfl) ?_
  have hq := Option.bind_eq_some_iff.1 hm; clear hm; obtain ⟨r5, hr5, hm⟩ := hq
  refine Ops_call _ _ rfl rfl (EO.fn rfl Try.func8 rfl rfl (Evs.cons rfl (Evs.cons rfl Evs.nil))) (QC.cc (c_impl_BackPlaces hr5 ) ?_)
  refine Ops_quiet _ rfl rfl (QO.move rfl rfl) ?_
  refine Ops_quiet _ rfl rfl (QO.extract rfl rfl rfl) ?_
  refine Ops_quiet _ rfl rfl (QO.extract rfl rfl rfl) ?_
  refine Ops_loud rfl (LO.alloc rfl zr25 rfl (fun b5 hb5 => ?_))
  simp only [upd_noneA] at hb5
  obtain ⟨n_b5_b4, n_b5_b3, n_b5_b2, n_b5_b1, hb5⟩ := hb5
  refine Ops_loud rfl (LO.storeAll (cs := tabI .u8 r5.1 10) rfl sz25 rfl rfl (tabI_one _ _ _) (tabI_length _ _ _) (upd_same _ _ _) (tabI_length _ _ _) Chg.here rfl ?_)
  refine Ops_quiet _ rfl rfl (QO.assign rfl rfl) ?_
  refine Ops_nil ?_
  refine thenA_n ?_
  refine wpA_seq ?_
  refine wpA_region ?_
  refine Ops_quiet _ rfl rfl (QO.loadRow (cs := tabI .u8 r2.1 10) (hr := (rdAll ((upd_ne _ _ n_b5_b1.ne.symm).trans ((upd_ne _ _ n_b4_b1.ne.symm).trans ((upd_ne _ _ n_b3_b1.ne.symm).trans ((upd_ne _ _ n_b2_b1.ne.symm).trans (upd_same _ _ _))))))) rfl sz25 rfl rfl (tabI_length _ _ _)) ?_
  refine Ops_quiet _ rfl rfl (QO.move rfl rfl) ?_
  have hq := Option.bind_eq_some_iff.1 hm; clear hm; obtain ⟨r6, hr6, hm⟩ := hq
  refine Ops_call _ _ rfl rfl (EO.fn rfl Try.func9 rfl rfl (Evs.cons rfl (Evs.cons rfl Evs.nil))) (QC.cc (c_spec_BackPlaces hr6 ) ?_)
  refine Ops_quiet _ rfl rfl (QO.move rfl rfl) ?_
  refine Ops_quiet _ rfl rfl (QO.extract rfl rfl rfl) ?_
  refine Ops_quiet _ rfl rfl (QO.extract rfl rfl rfl) ?_
  refine Ops_loud rfl (LO.alloc rfl zr25 rfl (fun b6 hb6 => ?_))
  simp only [upd_noneA] at hb6
  obtain ⟨n_b6_b5, n_b6_b4, n_b6_b3, n_b6_b2, n_b6_b1, hb6⟩ := hb6
  refine Ops_loud rfl (LO.storeAll (cs := tabI .u8 r6.1 10) rfl sz25 rfl rfl (tabI_one _ _ _) (tabI_length _ _ _) (upd_same _ _ _) (tabI_length _ _ _) Chg.here rfl ?_)
  refine Ops_quiet _ rfl rfl (QO.assign rfl rfl) ?_
  refine Ops_nil ?_
  refine thenA_n ?_
  refine wpA_seq ?_
  refine wpA_region ?_
  refine Ops_quiet _ rfl rfl (QO.loadRow (cs := tabI .u8 r2.1 10) (hr := (rdAll ((upd_ne _ _ n_b6_b1.ne.symm).trans ((upd_ne _ _ n_b5_b1.ne.symm).trans ((upd_ne _ _ n_b4_b1.ne.symm).trans ((upd_ne _ _ n_b3_b1.ne.symm).trans ((upd_ne _ _ n_b2_b1.ne.symm).trans (upd_same _ _ _)))))))) rfl sz25 rfl rfl (tabI_length _ _ _)) ?_
  refine Ops_quiet _ rfl rfl (QO.move rfl rfl) ?_
  have hq := Option.bind_eq_some_iff.1 hm; clear hm; obtain ⟨r7, hr7, hm⟩ := hq
  refine Ops_call _ _ rfl rfl (EO.fn rfl Try.func10 rfl rfl (Evs.cons rfl (Evs.cons rfl Evs.nil))) (QC.cc (c_impl_SignOfPlaces hr7 ) ?_)
  refine Ops_quiet _ rfl rfl (QO.move rfl rfl) ?_
  refine Ops_quiet _ rfl rfl (QO.extract rfl rfl rfl) ?_
  refine Ops_quiet _ rfl rfl (QO.extract rfl rfl rfl) ?_
  refine Ops_quiet _ rfl rfl (QO.assign rfl rfl) ?_
  refine Ops_quiet _ rfl rfl (QO.assign rfl rfl) ?_
  refine Ops_nil ?_
  refine thenA_n ?_
  refine wpA_seq ?_
  refine wpA_region ?_
  refine Ops_quiet _ rfl rfl (QO.loadRow (cs := tabI .u8 r2.1 10) (hr := (rdAll ((upd_ne _ _ n_b6_b1.ne.symm).trans ((upd_ne _ _ n_b5_b1.ne.symm).trans ((upd_ne _ _ n_b4_b1.ne.symm).trans ((upd_ne _ _ n_b3_b1.ne.symm).trans ((upd_ne _ _ n_b2_b1.ne.symm).trans (upd_same _ _ _)))))))) rfl sz25 rfl rfl (tabI_length _ _ _)) ?_
  refine Ops_quiet _ rfl rfl (QO.move rfl rfl) ?_
  have hq := Option.bind_eq_some_iff.1 hm; clear hm; obtain ⟨r8, hr8, hm⟩ := hq
  refine Ops_call _ _ rfl rfl (EO.fn rfl Try.func11 rfl rfl (Evs.cons rfl (Evs.cons rfl Evs.nil))) (QC.cc (c_spec_SignOfPlaces hr8 ) ?_)
  refine Ops_quiet _ rfl rfl (QO.move rfl rfl) ?_
  refine Ops_quiet _ rfl rfl (QO.extract rfl rfl rfl) ?_
  refine Ops_quiet _ rfl rfl (QO.extract rfl rfl rfl) ?_
  refine Ops_quiet _ rfl rfl (QO.assign rfl rfl) ?_
  refine Ops_quiet _ rfl rfl (QO.assign rfl rfl) ?_
  refine Ops_nil ?_
  refine thenA_n ?_
  refine wpA_weaken (show Abs.Sub _ [(0, .slice A0 l0.length c0), (2, .bool false), (3, .pointer (some ⟨b1, 0, none⟩)), (4, .pointer (some ⟨b2, 0, none⟩)), (5, .int .i64 r2.2.2), (6, .pointer (some ⟨b3, 0, none⟩)), (7, .int .i64 r3.2), (8, .pointer (some ⟨b4, 0, none⟩)), (9, .int .i64 r4.2), (10, .pointer (some ⟨b5, 0, none⟩)), (11, .int .i64 r5.2), (12, .pointer (some ⟨b6, 0, none⟩)), (13, .int .i64 r6.2), (14, .int .i64 r7.1), (15, .int .i64 r7.2), (16, .int .i64 r8.1), (17, .int .i64 r8.2)] from (Sub.cons rfl (Sub.cons rfl (Sub.cons rfl (Sub.cons rfl (Sub.cons rfl (Sub.cons rfl (Sub.cons rfl (Sub.cons rfl (Sub.cons rfl (Sub.cons rfl (Sub.cons rfl (Sub.cons rfl (Sub.cons rfl (Sub.cons rfl (Sub.cons rfl (Sub.cons rfl (Sub.cons rfl (Sub.nil))))))))))))))))))).ok (Le.refl _) ?_
  refine wpA_seq ?_
  refine wpA_seq ?_
  refine wpA_drawn (by kernel_rfl) (by kernel_rfl) ?_
  refine QOps.quiet _ rfl rfl (QO.move rfl rfl) ?_
  refine QOps.quiet _ rfl rfl (QO.move rfl rfl) ?_
  refine QOps.quiet _ rfl rfl (QO.bin rfl rfl rfl rfl) ?_
  refine QOps.quiet _ rfl rfl (QO.move rfl rfl) ?_
  refine QOps.split 90 rfl (fun g2 => ?_) (fun g2 => ?_)
  ·replace hm := cond_t hm g2
   refine QOps.skip rfl rfl ?_
   refine QOps.skip rfl rfl ?_
   refine QOps.skip rfl rfl ?_
   refine QOps.quiet _ rfl rfl (QO.pick_t rfl rfl rfl) ?_
   refine QOps.quiet _ rfl rfl (QO.move rfl rfl) ?_
   refine QOps.skip rfl rfl ?_
   refine QOps.skip rfl rfl ?_
   refine QOps.skip rfl rfl ?_
   refine QOps.quiet _ rfl rfl (QO.pick_t rfl rfl rfl) ?_
   refine QOps.quiet _ rfl rfl (QO.move rfl rfl) ?_
   refine QOps.skip rfl rfl ?_
   refine QOps.skip rfl rfl ?_
   refine QOps.skip rfl rfl ?_
   refine QOps.quiet _ rfl rfl (QO.pick_t rfl rfl rfl) ?_
   refine QOps.quiet _ rfl rfl (QO.move rfl rfl) ?_
   refine QOps.skip rfl rfl ?_
   refine QOps.skip rfl rfl ?_
   refine QOps.skip rfl rfl ?_
   refine QOps.quiet _ rfl rfl (QO.pick_t rfl rfl rfl) ?_
   refine QOps.quiet _ rfl rfl (QO.move rfl rfl) ?_
   refine QOps.skip rfl rfl ?_
   refine QOps.skip rfl rfl ?_
   refine QOps.skip rfl rfl ?_
   refine QOps.quiet _ rfl rfl (QO.pick_t rfl rfl rfl) ?_
   refine QOps.quiet _ rfl rfl (QO.move rfl rfl) ?_
   refine QOps.skip rfl rfl ?_
   refine QOps.skip rfl rfl ?_
   refine QOps.skip rfl rfl ?_
   refine QOps.skip rfl rfl ?_
   refine QOps.skip rfl rfl ?_
   refine QOps.skip rfl rfl ?_
   refine QOps.skip rfl rfl ?_
   refine QOps.quiet _ rfl rfl (QO.pick_t rfl rfl rfl) ?_
   refine QOps.quiet _ rfl rfl (QO.move rfl rfl) ?_
   refine QOps.skip rfl rfl ?_
   refine QOps.skip rfl rfl ?_
   refine QOps.skip rfl rfl ?_
   refine QOps.skip rfl rfl ?_
   refine QOps.skip rfl rfl ?_
   refine QOps.skip rfl rfl ?_
   refine QOps.quiet _ rfl rfl (QO.pick_t rfl rfl rfl) ?_
   refine QOps.nil ?_
   refine thenA_n ?_
   refine wpA_cond_t rfl ?_
   refine wpA_weaken (show Abs.Sub _ [(2, .bool false)] from (Sub.cons rfl (Sub.nil))).ok (Le.refl _) ?_
   refine wpA_seq ?_
   refine wpA_region ?_
   refine Ops_quiet _ rfl rfl (QO.assign rfl rfl) ?_
   refine Ops_nil ?_
   refine thenA_n ?_
   refine wpA_ret ?_
   refine thenA_r ?_
   obtain rfl := Option.some.inj hm
   exact retA_r (h2 := h) (Res.one rfl (rfl)) (Le.under (Le.under (Le.under (Le.under (Le.under (Le.under (Le.refl _) hb1) hb2) hb3) hb4) hb5) hb6) ⟨rfl, rfl⟩
  ·replace hm := cond_f hm g2
   refine QOps.quiet _ rfl rfl (QO.loadRow (cs := tabI .u8 r3.1 10) (hr := (rdAll ((upd_ne _ _ n_b6_b3.ne.symm).trans ((upd_ne _ _ n_b5_b3.ne.symm).trans ((upd_ne _ _ n_b4_b3.ne.symm).trans (upd_same _ _ _)))))) rfl sz25 rfl rfl (tabI_length _ _ _)) ?_
   refine QOps.quiet _ rfl rfl (QO.loadRow (cs := tabI .u8 r4.1 10) (hr := (rdAll ((upd_ne _ _ n_b6_b4.ne.symm).trans ((upd_ne _ _ n_b5_b4.ne.symm).trans (upd_same _ _ _))))) rfl sz25 rfl rfl (tabI_length _ _ _)) ?_
   refine QOps.quiet _ rfl rfl (QO.agg_neq rfl rfl rfl eg25 (eqv25 _ _) rfl) ?_
   refine QOps.quiet _ rfl rfl (QO.pick_f rfl rfl rfl) ?_
   refine QOps.quiet _ rfl rfl (QO.move rfl rfl) ?_
   refine QOps.split 95 rfl (fun g3 => ?_) (fun g3 => ?_)
   ·replace hm := cond_t hm g3
    refine QOps.skip rfl rfl ?_
    refine QOps.skip rfl rfl ?_
    refine QOps.skip rfl rfl ?_
    refine QOps.quiet _ rfl rfl (QO.pick_t rfl rfl rfl) ?_
    refine QOps.quiet _ rfl rfl (QO.move rfl rfl) ?_
    refine QOps.skip rfl rfl ?_
    refine QOps.skip rfl rfl ?_
    refine QOps.skip rfl rfl ?_
    refine QOps.quiet _ rfl rfl (QO.pick_t rfl rfl rfl) ?_
    refine QOps.quiet _ rfl rfl (QO.move rfl rfl) ?_
    refine QOps.skip rfl rfl ?_
    refine QOps.skip rfl rfl ?_
    refine QOps.skip rfl rfl ?_
    refine QOps.quiet _ rfl rfl (QO.pick_t rfl rfl rfl) ?_
    refine QOps.quiet _ rfl rfl (QO.move rfl rfl) ?_
    refine QOps.skip rfl rfl ?_
    refine QOps.skip rfl rfl ?_
    refine QOps.skip rfl rfl ?_
    refine QOps.quiet _ rfl rfl (QO.pick_t rfl rfl rfl) ?_
    refine QOps.quiet _ rfl rfl (QO.move rfl rfl) ?_
    refine QOps.skip rfl rfl ?_
    refine QOps.skip rfl rfl ?_
    refine QOps.skip rfl rfl ?_
    refine QOps.skip rfl rfl ?_
    refine QOps.skip rfl rfl ?_
    refine QOps.skip rfl rfl ?_
    refine QOps.skip rfl rfl ?_
    refine QOps.quiet _ rfl rfl (QO.pick_t rfl rfl rfl) ?_
    refine QOps.quiet _ rfl rfl (QO.move rfl rfl) ?_
    refine QOps.skip rfl rfl ?_
    refine QOps.skip rfl rfl ?_
    refine QOps.skip rfl rfl ?_
    refine QOps.skip rfl rfl ?_
    refine QOps.skip rfl rfl ?_
    refine QOps.skip rfl rfl ?_
    refine QOps.quiet _ rfl rfl (QO.pick_t rfl rfl rfl) ?_
    refine QOps.nil ?_
    refine thenA_n ?_
    refine wpA_cond_t rfl ?_
    refine wpA_weaken (show Abs.Sub _ [(2, .bool false)] from (Sub.cons rfl (Sub.nil))).ok (Le.refl _) ?_
    refine wpA_seq ?_
    refine wpA_region ?_
    refine Ops_quiet _ rfl rfl (QO.assign rfl rfl) ?_
    refine Ops_nil ?_
    refine thenA_n ?_
    refine wpA_ret ?_
    refine thenA_r ?_
    obtain rfl := Option.some.inj hm
    exact retA_r (h2 := h) (Res.one rfl (rfl)) (Le.under (Le.under (Le.under (Le.under (Le.under (Le.under (Le.refl _) hb1) hb2) hb3) hb4) hb5) hb6) ⟨rfl, rfl⟩
   ·replace hm := cond_f hm g3
    refine QOps.quiet _ rfl rfl (QO.move rfl rfl) ?_
    refine QOps.quiet _ rfl rfl (QO.move rfl rfl) ?_
    refine QOps.quiet _ rfl rfl (QO.bin rfl rfl rfl rfl) ?_
    refine QOps.quiet _ rfl rfl (QO.pick_f rfl rfl rfl) ?_
    refine QOps.quiet _ rfl rfl (QO.move rfl rfl) ?_
    refine QOps.split 100 rfl (fun g4 => ?_) (fun g4 => ?_)
    ·replace hm := cond_t hm g4
     refine QOps.skip rfl rfl ?_
     refine QOps.skip rfl rfl ?_
     refine QOps.skip rfl rfl ?_
     refine QOps.quiet _ rfl rfl (QO.pick_t rfl rfl rfl) ?_
     refine QOps.quiet _ rfl rfl (QO.move rfl rfl) ?_
     refine QOps.skip rfl rfl ?_
     refine QOps.skip rfl rfl ?_
     refine QOps.skip rfl rfl ?_
     refine QOps.quiet _ rfl rfl (QO.pick_t rfl rfl rfl) ?_
     refine QOps.quiet _ rfl rfl (QO.move rfl rfl) ?_
     refine QOps.skip rfl rfl ?_
     refine QOps.skip rfl rfl ?_
     refine QOps.skip rfl rfl ?_
     refine QOps.quiet _ rfl rfl (QO.pick_t rfl rfl rfl) ?_
     refine QOps.quiet _ rfl rfl (QO.move rfl rfl) ?_
     refine QOps.skip rfl rfl ?_
     refine QOps.skip rfl rfl ?_
     refine QOps.skip rfl rfl ?_
     refine QOps.skip rfl rfl ?_
     refine QOps.skip rfl rfl ?_
     refine QOps.skip rfl rfl ?_
     refine QOps.skip rfl rfl ?_
     refine QOps.quiet _ rfl rfl (QO.pick_t rfl rfl rfl) ?_
     refine QOps.quiet _ rfl rfl (QO.move rfl rfl) ?_
     refine QOps.skip rfl rfl ?_
     refine QOps.skip rfl rfl ?_
     refine QOps.skip rfl rfl ?_
     refine QOps.skip rfl rfl ?_
     refine QOps.skip rfl rfl ?_
     refine QOps.skip rfl rfl ?_
     refine QOps.quiet _ rfl rfl (QO.pick_t rfl rfl rfl) ?_
     refine QOps.nil ?_
     refine thenA_n ?_
     refine wpA_cond_t rfl ?_
     refine wpA_weaken (show Abs.Sub _ [(2, .bool false)] from (Sub.cons rfl (Sub.nil))).ok (Le.refl _) ?_
     refine wpA_seq ?_
     refine wpA_region ?_
     refine Ops_quiet _ rfl rfl (QO.assign rfl rfl) ?_
     refine Ops_nil ?_
     refine thenA_n ?_
     refine wpA_ret ?_
     refine thenA_r ?_
     obtain rfl := Option.some.inj hm
     exact retA_r (h2 := h) (Res.one rfl (rfl)) (Le.under (Le.under (Le.under (Le.under (Le.under (Le.under (Le.refl _) hb1) hb2) hb3) hb4) hb5) hb6) ⟨rfl, rfl⟩
    ·replace hm := cond_f hm g4
     refine QOps.quiet _ rfl rfl (QO.loadRow (cs := tabI .u8 r5.1 10) (hr := (rdAll ((upd_ne _ _ n_b6_b5.ne.symm).trans (upd_same _ _ _)))) rfl sz25 rfl rfl (tabI_length _ _ _)) ?_
     refine QOps.quiet _ rfl rfl (QO.loadRow (cs := tabI .u8 r6.1 10) (hr := (rdAll (upd_same _ _ _))) rfl sz25 rfl rfl (tabI_length _ _ _)) ?_
     refine QOps.quiet _ rfl rfl (QO.agg_neq rfl rfl rfl eg25 (eqv25 _ _) rfl) ?_
     refine QOps.quiet _ rfl rfl (QO.pick_f rfl rfl rfl) ?_
     refine QOps.quiet _ rfl rfl (QO.move rfl rfl) ?_
     refine QOps.split 105 rfl (fun g5 => ?_) (fun g5 => ?_)
     ·replace hm := cond_t hm g5
      refine QOps.skip rfl rfl ?_
      refine QOps.skip rfl rfl ?_
      refine QOps.skip rfl rfl ?_
      refine QOps.quiet _ rfl rfl (QO.pick_t rfl rfl rfl) ?_
      refine QOps.quiet _ rfl rfl (QO.move rfl rfl) ?_
      refine QOps.skip rfl rfl ?_
      refine QOps.skip rfl rfl ?_
      refine QOps.skip rfl rfl ?_
      refine QOps.quiet _ rfl rfl (QO.pick_t rfl rfl rfl) ?_
      refine QOps.quiet _ rfl rfl (QO.move rfl rfl) ?_
      refine QOps.skip rfl rfl ?_
      refine QOps.skip rfl rfl ?_
      refine QOps.skip rfl rfl ?_
      refine QOps.skip rfl rfl ?_
      refine QOps.skip rfl rfl ?_
      refine QOps.skip rfl rfl ?_
      refine QOps.skip rfl rfl ?_
      refine QOps.quiet _ rfl rfl (QO.pick_t rfl rfl rfl) ?_
      refine QOps.quiet _ rfl rfl (QO.move rfl rfl) ?_
      refine QOps.skip rfl rfl ?_
      refine QOps.skip rfl rfl ?_
      refine QOps.skip rfl rfl ?_
      refine QOps.skip rfl rfl ?_
      refine QOps.skip rfl rfl ?_
      refine QOps.skip rfl rfl ?_
      refine QOps.quiet _ rfl rfl (QO.pick_t rfl rfl rfl) ?_
      refine QOps.nil ?_
      refine thenA_n ?_
      refine wpA_cond_t rfl ?_
      refine wpA_weaken (show Abs.Sub _ [(2, .bool false)] from (Sub.cons rfl (Sub.nil))).ok (Le.refl _) ?_
      refine wpA_seq ?_
      refine wpA_region ?_
      refine Ops_quiet _ rfl rfl (QO.assign rfl rfl) ?_
      refine Ops_nil ?_
      refine thenA_n ?_
      refine wpA_ret ?_
      refine thenA_r ?_
      obtain rfl := Option.some.inj hm
      exact retA_r (h2 := h) (Res.one rfl (rfl)) (Le.under (Le.under (Le.under (Le.under (Le.under (Le.under (Le.refl _) hb1) hb2) hb3) hb4) hb5) hb6) ⟨rfl, rfl⟩
     ·replace hm := cond_f hm g5
      refine QOps.quiet _ rfl rfl (QO.move rfl rfl) ?_
      refine QOps.quiet _ rfl rfl (QO.move rfl rfl) ?_
      refine QOps.quiet _ rfl rfl (QO.bin rfl rfl rfl rfl) ?_
      refine QOps.quiet _ rfl rfl (QO.pick_f rfl rfl rfl) ?_
      refine QOps.quiet _ rfl rfl (QO.move rfl rfl) ?_
      refine QOps.split 110 rfl (fun g6 => ?_) (fun g6 => ?_)
      ·replace hm := cond_t hm g6
       refine QOps.skip rfl rfl ?_
       refine QOps.skip rfl rfl ?_
       refine QOps.skip rfl rfl ?_
       refine QOps.quiet _ rfl rfl (QO.pick_t rfl rfl rfl) ?_
       refine QOps.quiet _ rfl rfl (QO.move rfl rfl) ?_
       refine QOps.skip rfl rfl ?_
       refine QOps.skip rfl rfl ?_
       refine QOps.skip rfl rfl ?_
       refine QOps.skip rfl rfl ?_
       refine QOps.skip rfl rfl ?_
       refine QOps.skip rfl rfl ?_
       refine QOps.skip rfl rfl ?_
       refine QOps.quiet _ rfl rfl (QO.pick_t rfl rfl rfl) ?_
       refine QOps.quiet _ rfl rfl (QO.move rfl rfl) ?_
       refine QOps.skip rfl rfl ?_
       refine QOps.skip rfl rfl ?_
       refine QOps.skip rfl rfl ?_
       refine QOps.skip rfl rfl ?_
       refine QOps.skip rfl rfl ?_
       refine QOps.skip rfl rfl ?_
       refine QOps.quiet _ rfl rfl (QO.pick_t rfl rfl rfl) ?_
       refine QOps.nil ?_
       refine thenA_n ?_
       refine wpA_cond_t rfl ?_
       refine wpA_weaken (show Abs.Sub _ [(2, .bool false)] from (Sub.cons rfl (Sub.nil))).ok (Le.refl _) ?_
       refine wpA_seq ?_
       refine wpA_region ?_
       refine Ops_quiet _ rfl rfl (QO.assign rfl rfl) ?_
       refine Ops_nil ?_
       refine thenA_n ?_
       refine wpA_ret ?_
       refine thenA_r ?_
       obtain rfl := Option.some.inj hm
       exact retA_r (h2 := h) (Res.one rfl (rfl)) (Le.under (Le.under (Le.under (Le.under (Le.under (Le.under (Le.refl _) hb1) hb2) hb3) hb4) hb5) hb6) ⟨rfl, rfl⟩
      ·replace hm := cond_f hm g6
       refine QOps.quiet _ rfl rfl (QO.move rfl rfl) ?_
       refine QOps.quiet _ rfl rfl (QO.move rfl rfl) ?_
       refine QOps.quiet _ rfl rfl (QO.bin rfl rfl rfl rfl) ?_
       refine QOps.quiet _ rfl rfl (QO.pick_f rfl rfl rfl) ?_
       refine QOps.quiet _ rfl rfl (QO.move rfl rfl) ?_
       refine QOps.split 115 rfl (fun g7 => ?_) (fun g7 => ?_)
       ·replace hm := cond_t hm g7
        refine QOps.skip rfl rfl ?_
        refine QOps.skip rfl rfl ?_
        refine QOps.skip rfl rfl ?_
        refine QOps.skip rfl rfl ?_
        refine QOps.skip rfl rfl ?_
        refine QOps.skip rfl rfl ?_
        refine QOps.skip rfl rfl ?_
        refine QOps.quiet _ rfl rfl (QO.pick_t rfl rfl rfl) ?_
        refine QOps.quiet _ rfl rfl (QO.move rfl rfl) ?_
        refine QOps.skip rfl rfl ?_
        refine QOps.skip rfl rfl ?_
        refine QOps.skip rfl rfl ?_
        refine QOps.skip rfl rfl ?_
        refine QOps.skip rfl rfl ?_
        refine QOps.skip rfl rfl ?_
        refine QOps.quiet _ rfl rfl (QO.pick_t rfl rfl rfl) ?_
        refine QOps.nil ?_
        refine thenA_n ?_
        refine wpA_cond_t rfl ?_
        refine wpA_weaken (show Abs.Sub _ [(2, .bool false)] from (Sub.cons rfl (Sub.nil))).ok (Le.refl _) ?_
        refine wpA_seq ?_
        refine wpA_region ?_
        refine Ops_quiet _ rfl rfl (QO.assign rfl rfl) ?_
        refine Ops_nil ?_
        refine thenA_n ?_
        refine wpA_ret ?_
        refine thenA_r ?_
        obtain rfl := Option.some.inj hm
        exact retA_r (h2 := h) (Res.one rfl (rfl)) (Le.under (Le.under (Le.under (Le.under (Le.under (Le.under (Le.refl _) hb1) hb2) hb3) hb4) hb5) hb6) ⟨rfl, rfl⟩
       ·replace hm := cond_f hm g7
        refine QOps.quiet _ rfl rfl (QO.loadRow (cs := tabI .u8 r2.1 10) (hr := (rdAll ((upd_ne _ _ n_b6_b1.ne.symm).trans ((upd_ne _ _ n_b5_b1.ne.symm).trans ((upd_ne _ _ n_b4_b1.ne.symm).trans ((upd_ne _ _ n_b3_b1.ne.symm).trans ((upd_ne _ _ n_b2_b1.ne.symm).trans (upd_same _ _ _)))))))) rfl sz25 rfl rfl (tabI_length _ _ _)) ?_
        refine QOps.quiet _ rfl rfl (QO.move rfl rfl) ?_
        have hq := Option.bind_eq_some_iff.1 hm; clear hm; obtain ⟨r9, hr9, hm⟩ := hq
        refine QOps.call _ _ _ rfl rfl (EO.fn rfl Try.func12 rfl rfl (Evs.cons rfl (Evs.cons rfl Evs.nil))) (c_impl_IsPermutation hr9 ) ?_
        refine QOps.quiet _ rfl rfl (QO.loadRow (cs := tabI .u8 r2.1 10) (hr := (rdAll ((upd_ne _ _ n_b6_b1.ne.symm).trans ((upd_ne _ _ n_b5_b1.ne.symm).trans ((upd_ne _ _ n_b4_b1.ne.symm).trans ((upd_ne _ _ n_b3_b1.ne.symm).trans ((upd_ne _ _ n_b2_b1.ne.symm).trans (upd_same _ _ _)))))))) rfl sz25 rfl rfl (tabI_length _ _ _)) ?_
        refine QOps.quiet _ rfl rfl (QO.move rfl rfl) ?_
        have hq := Option.bind_eq_some_iff.1 hm; clear hm; obtain ⟨r10, hr10, hm⟩ := hq
        refine QOps.call _ _ _ rfl rfl (EO.fn rfl Try.func13 rfl rfl (Evs.cons rfl (Evs.cons rfl Evs.nil))) (c_spec_IsPermutation hr10 ) ?_
        refine QOps.quiet _ rfl rfl (QO.bool_neq rfl sz4 rfl rfl) ?_
        refine QOps.quiet _ rfl rfl (QO.pick_f rfl rfl rfl) ?_
        refine QOps.quiet _ rfl rfl (QO.move rfl rfl) ?_
        refine QOps.split 124 rfl (fun g8 => ?_) (fun g8 => ?_)
        ·replace hm := cond_t hm g8
         refine QOps.skip rfl rfl ?_
         refine QOps.skip rfl rfl ?_
         refine QOps.skip rfl rfl ?_
         refine QOps.skip rfl rfl ?_
         refine QOps.skip rfl rfl ?_
         refine QOps.skip rfl rfl ?_
         refine QOps.quiet _ rfl rfl (QO.pick_t rfl rfl rfl) ?_
         refine QOps.nil ?_
         refine thenA_n ?_
         refine wpA_cond_t rfl ?_
         refine wpA_weaken (show Abs.Sub _ [(2, .bool false)] from (Sub.cons rfl (Sub.nil))).ok (Le.refl _) ?_
         refine wpA_seq ?_
         refine wpA_region ?_
         refine Ops_quiet _ rfl rfl (QO.assign rfl rfl) ?_
         refine Ops_nil ?_
         refine thenA_n ?_
         refine wpA_ret ?_
         refine thenA_r ?_
         obtain rfl := Option.some.inj hm
         exact retA_r (h2 := h) (Res.one rfl (rfl)) (Le.under (Le.under (Le.under (Le.under (Le.under (Le.under (Le.refl _) hb1) hb2) hb3) hb4) hb5) hb6) ⟨rfl, rfl⟩
        ·replace hm := cond_f hm g8
         refine QOps.quiet _ rfl rfl (QO.loadRow (cs := tabI .u8 r2.1 10) (hr := (rdAll ((upd_ne _ _ n_b6_b1.ne.symm).trans ((upd_ne _ _ n_b5_b1.ne.symm).trans ((upd_ne _ _ n_b4_b1.ne.symm).trans ((upd_ne _ _ n_b3_b1.ne.symm).trans ((upd_ne _ _ n_b2_b1.ne.symm).trans (upd_same _ _ _)))))))) rfl sz25 rfl rfl (tabI_length _ _ _)) ?_
         refine QOps.quiet _ rfl rfl (QO.move rfl rfl) ?_
         have hq := Option.bind_eq_some_iff.1 hm; clear hm; obtain ⟨r11, hr11, hm⟩ := hq
         refine QOps.call _ _ _ rfl rfl (EO.fn rfl Try.func12 rfl rfl (Evs.cons rfl (Evs.cons rfl Evs.nil))) (c_impl_IsPermutation hr11 ) ?_
         refine QOps.quiet _ rfl rfl (QO.move rfl rfl) ?_
         refine QOps.quiet _ rfl rfl (QO.bin rfl rfl rfl rfl) ?_
         refine QOps.quiet _ rfl rfl (QO.bool_neq rfl sz4 rfl rfl) ?_
         refine QOps.quiet _ rfl rfl (QO.pick_f rfl rfl rfl) ?_
         refine QOps.nil ?_
         refine thenA_n ?_
         refine wpA_cond rfl (fun g9 => ?_) (fun g9 => ?_)
         ·replace hm := cond_t hm g9
          refine wpA_weaken (show Abs.Sub _ [(2, .bool false)] from (Sub.cons rfl (Sub.nil))).ok (Le.refl _) ?_
          refine wpA_seq ?_
          refine wpA_region ?_
          refine Ops_quiet _ rfl rfl (QO.assign rfl rfl) ?_
          refine Ops_nil ?_
          refine thenA_n ?_
          refine wpA_ret ?_
          refine thenA_r ?_
          obtain rfl := Option.some.inj hm
          exact retA_r (h2 := h) (Res.one rfl (rfl)) (Le.under (Le.under (Le.under (Le.under (Le.under (Le.under (Le.refl _) hb1) hb2) hb3) hb4) hb5) hb6) ⟨rfl, rfl⟩
         ·replace hm := cond_f hm g9
          refine wpA_skip ?_
          refine thenA_n ?_
          refine wpA_weaken (show Abs.Sub _ [(0, .slice A0 l0.length c0), (2, .bool false), (3, .pointer (some ⟨b1, 0, none⟩)), (4, .pointer (some ⟨b2, 0, none⟩)), (5, .int .i64 r2.2.2), (6, .pointer (some ⟨b3, 0, none⟩)), (7, .int .i64 r3.2), (10, .pointer (some ⟨b5, 0, none⟩)), (14, .int .i64 r7.1)] from (Sub.cons rfl (Sub.cons rfl (Sub.cons rfl (Sub.cons rfl (Sub.cons rfl (Sub.cons rfl (Sub.cons rfl (Sub.cons rfl (Sub.cons rfl (Sub.nil))))))))))).ok (Le.refl _) ?_
          refine wpA_seq ?_
          refine wpA_seq ?_
          refine wpA_region ?_
          refine Ops_quiet _ rfl rfl (QO.move rfl rfl) ?_
          refine Ops_quiet _ rfl rfl (QO.bin rfl rfl rfl rfl) ?_
          refine Ops_nil ?_
          refine thenA_n ?_
          refine wpA_cond rfl (fun g10 => ?_) (fun g10 => ?_)
          ·replace hm := cond_t hm g10
           refine wpA_seq ?_
           refine wpA_region ?_
           refine Ops_quiet _ rfl rfl (QO.loadRow (cs := tabI .u8 r2.1 10) (hr := (rdAll ((upd_ne _ _ n_b6_b1.ne.symm).trans ((upd_ne _ _ n_b5_b1.ne.symm).trans ((upd_ne _ _ n_b4_b1.ne.symm).trans ((upd_ne _ _ n_b3_b1.ne.symm).trans ((upd_ne _ _ n_b2_b1.ne.symm).trans (upd_same _ _ _)))))))) rfl sz25 rfl rfl (tabI_length _ _ _)) ?_
           refine Ops_quiet _ rfl rfl (QO.loadRow (cs := tabI .u8 r5.1 10) (hr := (rdAll ((upd_ne _ _ n_b6_b5.ne.symm).trans (upd_same _ _ _)))) rfl sz25 rfl rfl (tabI_length _ _ _)) ?_
           refine Ops_quiet _ rfl rfl (QO.move rfl rfl) ?_
           have hq := Option.bind_eq_some_iff.1 hm; clear hm; obtain ⟨r12, hr12, hm⟩ := hq
           refine Ops_call _ _ rfl rfl (EO.fn rfl Try.func6 rfl rfl (Evs.cons rfl (Evs.cons rfl (Evs.cons rfl Evs.nil)))) (QC.cc (c_impl_ThenPlaces hr12 ) ?_)
           refine Ops_quiet _ rfl rfl (QO.move rfl rfl) ?_
           refine Ops_quiet _ rfl rfl (QO.extract rfl rfl rfl) ?_
           refine Ops_quiet _ rfl rfl (QO.extract rfl rfl rfl) ?_
           refine Ops_loud rfl (LO.alloc rfl zr25 rfl (fun b7 hb7 => ?_))
           simp only [upd_noneA] at hb7
           obtain ⟨n_b7_b6, n_b7_b5, n_b7_b4, n_b7_b3, n_b7_b2, n_b7_b1, hb7⟩ := hb7
           refine Ops_loud rfl (LO.storeAll (cs := tabI .u8 r12.1 10) rfl sz25 rfl rfl (tabI_one _ _ _) (tabI_length _ _ _) (upd_same _ _ _) (tabI_length _ _ _) Chg.here rfl ?_)
           refine Ops_quiet _ rfl rfl (QO.assign rfl rfl) ?_
           refine Ops_nil ?_
           refine thenA_n ?_
           refine wpA_seq ?_
           refine wpA_region ?_
           refine Ops_quiet _ rfl rfl (QO.loadRow (cs := tabI .u8 r2.2.1 10) (hr := (rdAll ((upd_ne _ _ n_b7_b2.ne.symm).trans ((upd_ne _ _ n_b6_b2.ne.symm).trans ((upd_ne _ _ n_b5_b2.ne.symm).trans ((upd_ne _ _ n_b4_b2.ne.symm).trans ((upd_ne _ _ n_b3_b2.ne.symm).trans (upd_same _ _ _)))))))) rfl sz25 rfl rfl (tabI_length _ _ _)) ?_
           refine Ops_quiet _ rfl rfl (QO.move rfl rfl) ?_
           have hq := Option.bind_eq_some_iff.1 hm; clear hm; obtain ⟨r13, hr13, hm⟩ := hq
           refine Ops_call _ _ rfl rfl (EO.fn rfl Try.func10 rfl rfl (Evs.cons rfl (Evs.cons rfl Evs.nil))) (QC.cc (c_impl_SignOfPlaces hr13 ) ?_)
           refine Ops_quiet _ rfl rfl (QO.move rfl rfl) ?_
           refine Ops_quiet _ rfl rfl (QO.extract rfl rfl rfl) ?_
           refine Ops_quiet _ rfl rfl (QO.extract rfl rfl rfl) ?_
           refine Ops_quiet _ rfl rfl (QO.assign rfl rfl) ?_
           refine Ops_quiet _ rfl rfl (QO.assign rfl rfl) ?_
           refine Ops_nil ?_
           refine thenA_n ?_
           refine wpA_seq ?_
           refine wpA_region ?_
           refine Ops_quiet _ rfl rfl (QO.loadRow (cs := tabI .u8 r3.1 10) (hr := (rdAll ((upd_ne _ _ n_b7_b3.ne.symm).trans ((upd_ne _ _ n_b6_b3.ne.symm).trans ((upd_ne _ _ n_b5_b3.ne.symm).trans ((upd_ne _ _ n_b4_b3.ne.symm).trans (upd_same _ _ _))))))) rfl sz25 rfl rfl (tabI_length _ _ _)) ?_
           refine Ops_quiet _ rfl rfl (QO.move rfl rfl) ?_
           have hq := Option.bind_eq_some_iff.1 hm; clear hm; obtain ⟨r14, hr14, hm⟩ := hq
           refine Ops_call _ _ rfl rfl (EO.fn rfl Try.func10 rfl rfl (Evs.cons rfl (Evs.cons rfl Evs.nil))) (QC.cc (c_impl_SignOfPlaces hr14 ) ?_)
           refine Ops_quiet _ rfl rfl (QO.move rfl rfl) ?_
           refine Ops_quiet _ rfl rfl (QO.extract rfl rfl rfl) ?_
           refine Ops_quiet _ rfl rfl (QO.extract rfl rfl rfl) ?_
           refine Ops_quiet _ rfl rfl (QO.assign rfl rfl) ?_
           refine Ops_quiet _ rfl rfl (QO.assign rfl rfl) ?_
           refine Ops_nil ?_
           refine thenA_n ?_
           refine wpA_seq ?_
           refine wpA_seq ?_
           refine wpA_region ?_
           refine Ops_quiet _ rfl rfl (QO.move rfl rfl) ?_
           refine Ops_quiet _ rfl rfl (QO.bin rfl rfl rfl rfl) ?_
           refine Ops_quiet _ rfl rfl (QO.move rfl rfl) ?_
           refine Ops_case 155 rfl (fun g11 => ?_) (fun g11 => ?_)
           ·replace hm := cond_t hm g11
            refine Ops_skip rfl rfl ?_
            refine Ops_skip rfl rfl ?_
            refine Ops_quiet _ rfl rfl (QO.pick_t rfl rfl rfl) ?_
            refine Ops_quiet _ rfl rfl (QO.move rfl rfl) ?_
            refine Ops_skip rfl rfl ?_
            refine Ops_skip rfl rfl ?_
            refine Ops_quiet _ rfl rfl (QO.pick_t rfl rfl rfl) ?_
            refine Ops_quiet _ rfl rfl (QO.move rfl rfl) ?_
            refine Ops_skip rfl rfl ?_
            refine Ops_skip rfl rfl ?_
            refine Ops_skip rfl rfl ?_
            refine Ops_skip rfl rfl ?_
            refine Ops_skip rfl rfl ?_
            refine Ops_quiet _ rfl rfl (QO.pick_t rfl rfl rfl) ?_
            refine Ops_nil ?_
            refine thenA_n ?_
            refine wpA_cond_t rfl ?_
            refine wpA_seq ?_
            refine wpA_region ?_
            refine Ops_quiet _ rfl rfl (QO.assign rfl rfl) ?_
            refine Ops_nil ?_
            refine thenA_n ?_
            refine wpA_ret ?_
            refine thenA_r ?_
            refine thenA_r ?_
            obtain rfl := Option.some.inj hm
            exact retA_r (h2 := h) (Res.one rfl (rfl)) (Le.under (Le.under (Le.under (Le.under (Le.under (Le.under (Le.under (Le.refl _) hb1) hb2) hb3) hb4) hb5) hb6) hb7) ⟨rfl, rfl⟩
           ·replace hm := cond_f hm g11
            refine Ops_quiet _ rfl rfl (QO.move rfl rfl) ?_
            refine Ops_quiet _ rfl rfl (QO.bin rfl rfl rfl rfl) ?_
            refine Ops_quiet _ rfl rfl (QO.pick_f rfl rfl rfl) ?_
            refine Ops_quiet _ rfl rfl (QO.move rfl rfl) ?_
            refine Ops_case 159 rfl (fun g12 => ?_) (fun g12 => ?_)
            ·replace hm := cond_t hm g12
             refine Ops_skip rfl rfl ?_
             refine Ops_skip rfl rfl ?_
             refine Ops_quiet _ rfl rfl (QO.pick_t rfl rfl rfl) ?_
             refine Ops_quiet _ rfl rfl (QO.move rfl rfl) ?_
             refine Ops_skip rfl rfl ?_
             refine Ops_skip rfl rfl ?_
             refine Ops_skip rfl rfl ?_
             refine Ops_skip rfl rfl ?_
             refine Ops_skip rfl rfl ?_
             refine Ops_quiet _ rfl rfl (QO.pick_t rfl rfl rfl) ?_
             refine Ops_nil ?_
             refine thenA_n ?_
             refine wpA_cond_t rfl ?_
             refine wpA_seq ?_
             refine wpA_region ?_
             refine Ops_quiet _ rfl rfl (QO.assign rfl rfl) ?_
             refine Ops_nil ?_
             refine thenA_n ?_
             refine wpA_ret ?_
             refine thenA_r ?_
             refine thenA_r ?_
             obtain rfl := Option.some.inj hm
             exact retA_r (h2 := h) (Res.one rfl (rfl)) (Le.under (Le.under (Le.under (Le.under (Le.under (Le.under (Le.under (Le.refl _) hb1) hb2) hb3) hb4) hb5) hb6) hb7) ⟨rfl, rfl⟩
            ·replace hm := cond_f hm g12
             refine Ops_quiet _ rfl rfl (QO.move rfl rfl) ?_
             refine Ops_quiet _ rfl rfl (QO.bin rfl rfl rfl rfl) ?_
             refine Ops_quiet _ rfl rfl (QO.pick_f rfl rfl rfl) ?_
             refine Ops_quiet _ rfl rfl (QO.move rfl rfl) ?_
             refine Ops_case 163 rfl (fun g13 => ?_) (fun g13 => ?_)
             ·replace hm := cond_t hm g13
              refine Ops_skip rfl rfl ?_
              refine Ops_skip rfl rfl ?_
              refine Ops_skip rfl rfl ?_
              refine Ops_skip rfl rfl ?_
              refine Ops_skip rfl rfl ?_
              refine Ops_quiet _ rfl rfl (QO.pick_t rfl rfl rfl) ?_
              refine Ops_nil ?_
              refine thenA_n ?_
              refine wpA_cond_t rfl ?_
              refine wpA_seq ?_
              refine wpA_region ?_
              refine Ops_quiet _ rfl rfl (QO.assign rfl rfl) ?_
              refine Ops_nil ?_
              refine thenA_n ?_
              refine wpA_ret ?_
              refine thenA_r ?_
              refine thenA_r ?_
              obtain rfl := Option.some.inj hm
              exact retA_r (h2 := h) (Res.one rfl (rfl)) (Le.under (Le.under (Le.under (Le.under (Le.under (Le.under (Le.under (Le.refl _) hb1) hb2) hb3) hb4) hb5) hb6) hb7) ⟨rfl, rfl⟩
             ·replace hm := cond_f hm g13
              refine Ops_quiet _ rfl rfl (QO.move rfl rfl) ?_
              refine Ops_quiet _ rfl rfl (QO.move rfl rfl) ?_
              refine Ops_quiet _ rfl rfl (QO.move rfl rfl) ?_
              refine Ops_quiet _ rfl rfl (QO.bin rfl rfl rfl rfl) ?_
              refine Ops_quiet _ rfl rfl (QO.bin rfl rfl rfl rfl) ?_
              refine Ops_quiet _ rfl rfl (QO.pick_f rfl rfl rfl) ?_
              refine Ops_nil ?_
              refine thenA_n ?_
              refine wpA_cond rfl (fun g14 => ?_) (fun g14 => ?_)
              ·replace hm := cond_t hm g14
               refine wpA_seq ?_
               refine wpA_region ?_
               refine Ops_quiet _ rfl rfl (QO.assign rfl rfl) ?_
               refine Ops_nil ?_
               refine thenA_n ?_
               refine wpA_ret ?_
               refine thenA_r ?_
               refine thenA_r ?_
               obtain rfl := Option.some.inj hm
               exact retA_r (h2 := h) (Res.one rfl (rfl)) (Le.under (Le.under (Le.under (Le.under (Le.under (Le.under (Le.under (Le.refl _) hb1) hb2) hb3) hb4) hb5) hb6) hb7) ⟨rfl, rfl⟩
              ·replace hm := cond_f hm g14
               refine wpA_skip ?_
               refine thenA_n ?_
               refine wpA_seq ?_
               refine wpA_region ?_
               refine Ops_quiet _ rfl rfl (QO.assign rfl rfl) ?_
               refine Ops_nil ?_
               refine thenA_n ?_
               refine wpA_block ?_
               obtain ⟨R1, hR, hm⟩ := Option.bind_eq_some_iff.1 hm
               obtain ⟨k1, hk1⟩ := loopV_some hR
               clear hR
               refine wpA_mono (Q := fun e s' h' => match (generalizing := false) R1 with | .stop x id => e = .exit id ∧ ∃ (x1 : Int), x = x1 ∧ Sub s' [(0, .slice A0 l0.length c0), (3, .pointer (some ⟨b1, 0, none⟩)), (4, .pointer (some ⟨b2, 0, none⟩)), (5, .int .i64 r2.2.2), (6, .pointer (some ⟨b3, 0, none⟩)), (18, .pointer (some ⟨b7, 0, none⟩)), (24, .int .i64 x1)] ∧ Le (upd (upd (upd (upd (h) b1 (.own 25 (tabI .u8 r2.1 10) 10)) b2 (.own 25 (tabI .u8 r2.2.1 10) 10)) b3 (.own 25 (tabI .u8 r3.1 10) 10)) b7 (.own 25 (tabI .u8 r12.1 10) 10)) h' | .ret r => e = .ret ∧ Sub s' [(2, .bool r)] ∧ Le (h) h' | .next _ => False) ?_ ?_
               ·refine wpA_loop (fun k s' h' => ∃ (x1 : Int), loopW (m_laws_FnPermutations_l0 r2 r3 r12) k x1 = some R1 ∧ Sub s' [(0, .slice A0 l0.length c0), (3, .pointer (some ⟨b1, 0, none⟩)), (4, .pointer (some ⟨b2, 0, none⟩)), (5, .int .i64 r2.2.2), (6, .pointer (some ⟨b3, 0, none⟩)), (18, .pointer (some ⟨b7, 0, none⟩)), (24, .int .i64 x1)] ∧ Le (upd (upd (upd (upd (h) b1 (.own 25 (tabI .u8 r2.1 10) 10)) b2 (.own 25 (tabI .u8 r2.2.1 10) 10)) b3 (.own 25 (tabI .u8 r3.1 10) 10)) b7 (.own 25 (tabI .u8 r12.1 10) 10)) h') (m := k1) ⟨0, hk1, (Sub.cons rfl (Sub.cons rfl (Sub.cons rfl (Sub.cons rfl (Sub.cons rfl (Sub.cons rfl (Sub.cons rfl Sub.nil))))))), (Le.upd_left (Le.upd_left (Le.upd_left (Le.upd_left (Le.under (Le.under (Le.under (Le.under (Le.under (Le.under (Le.under (Le.refl _) hb1) hb2) hb3) hb4) hb5) hb6) hb7) ((upd_ne _ _ n_b7_b1.ne.symm).trans ((upd_ne _ _ n_b6_b1.ne.symm).trans ((upd_ne _ _ n_b5_b1.ne.symm).trans ((upd_ne _ _ n_b4_b1.ne.symm).trans ((upd_ne _ _ n_b3_b1.ne.symm).trans ((upd_ne _ _ n_b2_b1.ne.symm).trans (upd_same _ _ _))))))) (by first | rfl | (simp; done))) ((upd_ne _ _ n_b7_b2.ne.symm).trans ((upd_ne _ _ n_b6_b2.ne.symm).trans ((upd_ne _ _ n_b5_b2.ne.symm).trans ((upd_ne _ _ n_b4_b2.ne.symm).trans ((upd_ne _ _ n_b3_b2.ne.symm).trans (upd_same _ _ _)))))) (by first | rfl | (simp; done))) ((upd_ne _ _ n_b7_b3.ne.symm).trans ((upd_ne _ _ n_b6_b3.ne.symm).trans ((upd_ne _ _ n_b5_b3.ne.symm).trans ((upd_ne _ _ n_b4_b3.ne.symm).trans (upd_same _ _ _))))) (by first | rfl | (simp; done))) (upd_same _ _ _) (by first | rfl | (simp; done)))⟩ ?_
                rintro k1 s' h' ⟨x1, hk1, hsub, hle⟩
                refine wpA_weaken hsub.ok hle ?_
                clear hsub hle s' h'
                cases k1 with
                | zero => exact absurd hk1 (by simp [loopW])
                | succ k1 =>
                 obtain ⟨o1, ho1, hk1⟩ := loopW_succ hk1
                 unfold m_laws_FnPermutations_l0 at ho1
                 try dsimp only at ho1
                 refine wpA_seq ?_
                 refine wpA_seq ?_
                 refine wpA_region ?_
                 refine Ops_quiet _ rfl rfl (QO.move rfl rfl) ?_
                 refine Ops_quiet _ rfl rfl (QO.move rfl rfl) ?_
                 refine Ops_quiet _ rfl rfl (QO.bin rfl rfl rfl rfl) ?_
                 refine Ops_nil ?_
                 refine thenA_n ?_
                 refine wpA_cond rfl (fun g15 => ?_) (fun g15 => ?_)
                 ·replace ho1 := cond_t ho1 g15
                  refine wpA_skip ?_
                  refine thenA_n ?_
                  refine wpA_seq ?_
                  refine wpA_block ?_
                  refine wpA_seq ?_
                  refine wpA_drawn (by kernel_rfl) (by kernel_rfl) ?_
                  refine QOps.quiet _ rfl rfl (QO.move rfl rfl) ?_
                  have hq := chk ho1; clear ho1; obtain ⟨ck1, ho1⟩ := hq
                  refine QOps.quiet _ rfl rfl (QO.idxArr rfl sz25 sz5 rfl rfl (by omega) (by omega)) ?_
                  refine QOps.quiet _ rfl rfl (QO.load rfl sz5 rfl rfl (by (refine (rd_own (upd_same _ _ _) _).trans ?_); exact tabI_get01 (by omega))) ?_
                  refine QOps.quiet _ rfl rfl (QO.move rfl rfl) ?_
                  refine QOps.quiet _ rfl rfl (QO.conv rfl sz2 sz5 rfl) ?_
                  refine QOps.quiet _ rfl rfl (QO.bin rfl rfl rfl rfl) ?_
                  refine QOps.quiet _ rfl rfl (QO.move rfl rfl) ?_
                  refine QOps.split 181 rfl (fun g16 => ?_) (fun g16 => ?_)
                  ·replace ho1 := cond_t ho1 g16
                   refine QOps.skip rfl rfl ?_
                   refine QOps.skip rfl rfl ?_
                   refine QOps.skip rfl rfl ?_
                   refine QOps.skip rfl rfl ?_
                   refine QOps.skip rfl rfl ?_
                   refine QOps.skip rfl rfl ?_
                   refine QOps.skip rfl rfl ?_
                   refine QOps.skip rfl rfl ?_
                   refine QOps.skip rfl rfl ?_
                   refine QOps.quiet _ rfl rfl (QO.pick_t rfl rfl rfl) ?_
                   refine QOps.nil ?_
                   refine thenA_n ?_
                   refine wpA_cond_t rfl ?_
                   refine wpA_seq ?_
                   refine wpA_region ?_
                   refine Ops_quiet _ rfl rfl (QO.assign rfl rfl) ?_
                   refine Ops_nil ?_
                   refine thenA_n ?_
                   refine wpA_ret ?_
                   refine blockA_r ?_
                   refine thenA_r ?_
                   refine thenA_r ?_
                   obtain rfl := Option.some.inj ho1
                   obtain rfl := Option.some.inj hk1
                   exact ⟨rfl, (Sub.cons rfl Sub.nil), (Le.under (Le.under (Le.under (Le.under (Le.refl _) hb1) hb2) hb3) hb7)⟩
                  ·replace ho1 := cond_f ho1 g16
                   refine QOps.quiet _ rfl rfl (QO.move rfl rfl) ?_
                   have hq := chk ho1; clear ho1; obtain ⟨ck2, ho1⟩ := hq
                   refine QOps.quiet _ rfl rfl (QO.idxArr rfl sz25 sz5 rfl rfl (by omega) (by omega)) ?_
                   refine QOps.quiet _ rfl rfl (QO.load rfl sz5 rfl rfl (by (refine (rd_own ((upd_ne _ _ n_b7_b3.ne.symm).trans (upd_same _ _ _)) _).trans ?_); exact tabI_get01 (by omega))) ?_
                   refine QOps.quiet _ rfl rfl (QO.move rfl rfl) ?_
                   have hq := chk ho1; clear ho1; obtain ⟨ck3, ho1⟩ := hq
                   refine QOps.quiet _ rfl rfl (QO.idxArr rfl sz25 sz5 rfl rfl (by omega) (by omega)) ?_
                   refine QOps.quiet _ rfl rfl (QO.load rfl sz5 rfl rfl (by (refine (rd_own ((upd_ne _ _ n_b7_b1.ne.symm).trans ((upd_ne _ _ n_b3_b1.ne.symm).trans ((upd_ne _ _ n_b2_b1.ne.symm).trans (upd_same _ _ _)))) _).trans ?_); exact tabI_get01 (by omega))) ?_
                   have hq := chk ho1; clear ho1; obtain ⟨ck4, ho1⟩ := hq
                   refine QOps.quiet _ rfl rfl (QO.idxArr rfl sz25 sz5 rfl rfl (by omega) (by omega)) ?_
                   refine QOps.quiet _ rfl rfl (QO.load rfl sz5 rfl rfl (by (refine (rd_own ((upd_ne _ _ n_b7_b2.ne.symm).trans ((upd_ne _ _ n_b3_b2.ne.symm).trans (upd_same _ _ _))) _).trans ?_); exact tabI_get01 (by omega))) ?_
                   refine QOps.quiet _ rfl rfl (QO.bin rfl rfl rfl rfl) ?_
                   refine QOps.quiet _ rfl rfl (QO.pick_f rfl rfl rfl) ?_
                   refine QOps.nil ?_
                   refine thenA_n ?_
                   refine wpA_cond rfl (fun g17 => ?_) (fun g17 => ?_)
                   ·replace ho1 := cond_t ho1 g17
                    refine wpA_seq ?_
                    refine wpA_region ?_
                    refine Ops_quiet _ rfl rfl (QO.assign rfl rfl) ?_
                    refine Ops_nil ?_
                    refine thenA_n ?_
                    refine wpA_ret ?_
                    refine blockA_r ?_
                    refine thenA_r ?_
                    refine thenA_r ?_
                    obtain rfl := Option.some.inj ho1
                    obtain rfl := Option.some.inj hk1
                    exact ⟨rfl, (Sub.cons rfl Sub.nil), (Le.under (Le.under (Le.under (Le.under (Le.refl _) hb1) hb2) hb3) hb7)⟩
                   ·replace ho1 := cond_f ho1 g17
                    refine wpA_skip ?_
                    refine blockA_n ?_
                    refine thenA_n ?_
                    refine wpA_region ?_
                    refine Ops_quiet _ rfl rfl (QO.move rfl rfl) ?_
                    refine Ops_quiet _ rfl rfl (QO.bin rfl rfl rfl rfl) ?_
                    refine Ops_quiet _ rfl rfl (QO.assign rfl rfl) ?_
                    refine Ops_nil ?_
                    obtain rfl := Option.some.inj ho1
                    dsimp only at hk1
                    exact thenA_n ⟨k1, Nat.lt_succ_self _, _, hk1, (Sub.cons rfl (Sub.cons rfl (Sub.cons rfl (Sub.cons rfl (Sub.cons rfl (Sub.cons rfl (Sub.cons rfl Sub.nil))))))), (Le.upd_left (Le.upd_left (Le.upd_left (Le.upd_left (Le.under (Le.under (Le.under (Le.under (Le.refl _) hb1) hb2) hb3) hb7) ((upd_ne _ _ n_b7_b1.ne.symm).trans ((upd_ne _ _ n_b3_b1.ne.symm).trans ((upd_ne _ _ n_b2_b1.ne.symm).trans (upd_same _ _ _)))) (by first | rfl | (simp; done))) ((upd_ne _ _ n_b7_b2.ne.symm).trans ((upd_ne _ _ n_b3_b2.ne.symm).trans (upd_same _ _ _))) (by first | rfl | (simp; done))) ((upd_ne _ _ n_b7_b3.ne.symm).trans (upd_same _ _ _)) (by first | rfl | (simp; done))) (upd_same _ _ _) (by first | rfl | (simp; done)))⟩
                 ·replace ho1 := cond_f ho1 g15
                  refine wpA_exit ?_
                  refine thenA_e ?_
                  refine thenA_e ?_
                  obtain rfl := Option.some.inj ho1
                  obtain rfl := Option.some.inj hk1
                  exact ⟨rfl, _, rfl, (Sub.cons rfl (Sub.cons rfl (Sub.cons rfl (Sub.cons rfl (Sub.cons rfl (Sub.cons rfl (Sub.cons rfl Sub.nil))))))), (Le.upd_left (Le.upd_left (Le.upd_left (Le.upd_left (Le.under (Le.under (Le.under (Le.under (Le.refl _) hb1) hb2) hb3) hb7) ((upd_ne _ _ n_b7_b1.ne.symm).trans ((upd_ne _ _ n_b3_b1.ne.symm).trans ((upd_ne _ _ n_b2_b1.ne.symm).trans (upd_same _ _ _)))) (by first | rfl | (simp; done))) ((upd_ne _ _ n_b7_b2.ne.symm).trans ((upd_ne _ _ n_b3_b2.ne.symm).trans (upd_same _ _ _))) (by first | rfl | (simp; done))) ((upd_ne _ _ n_b7_b3.ne.symm).trans (upd_same _ _ _)) (by first | rfl | (simp; done))) (upd_same _ _ _) (by first | rfl | (simp; done)))⟩
               ·intro e s' h' hq
                cases R1 with
                | next x => exact hq.elim
                | ret r =>
                 obtain ⟨rfl, hsub1, hle1⟩ := hq
                 try dsimp only at hm
                 refine blockA_r ?_
                 refine thenA_r ?_
                 obtain rfl := Option.some.inj hm
                 refine retA_sub hsub1.ok hle1 ?_
                 exact retA_r (h2 := h) (Res.one rfl (rfl)) (Le.refl _) ⟨rfl, rfl⟩
                | stop x id =>
                 obtain ⟨rfl, x2, rfl, hsub2, hle2⟩ := hq
                 try dsimp only at hm
                 by_cases hid1 : id = 0
                 ·subst hid1
                  rw [if_pos rfl] at hm
                  refine blockA_s ?_
                  refine thenA_n ?_
                  refine wpA_weaken hsub2.ok hle2 ?_
                  refine wpA_seq ?_
                  refine wpA_region ?_
                  refine Ops_quiet _ rfl rfl (QO.move rfl rfl) ?_
                  have hq := Option.bind_eq_some_iff.1 hm; clear hm; obtain ⟨r15, hr15, hm⟩ := hq
                  refine Ops_call _ _ rfl rfl (EO.fn rfl Try.func14 rfl rfl (Evs.cons rfl Evs.nil)) (QC.cc (c_spec_DrawDirectProduct (l0 := l0) (A0 := A0) (c0 := c0) hr15 (RdS.le hs0 (Le.under (Le.under (Le.under (Le.under (Le.refl _) hb1) hb2) hb3) hb7))) ?_)
                  refine Ops_quiet _ rfl rfl (QO.move rfl rfl) ?_
                  refine Ops_quiet _ rfl rfl (QO.extract rfl rfl rfl) ?_
                  refine Ops_quiet _ rfl rfl (QO.extract rfl rfl rfl) ?_
                  refine Ops_loud rfl (LO.alloc rfl zr37 rfl (fun b8 hb8 => ?_))
                  simp only [upd_noneA] at hb8
                  obtain ⟨n_b8_b7, n_b8_b3, n_b8_b2, n_b8_b1, hb8⟩ := hb8
                  refine Ops_loud rfl (LO.alloc rfl zr37 rfl (fun b9 hb9 => ?_))
                  simp only [upd_noneA] at hb9
                  obtain ⟨n_b9_b8, n_b9_b7, n_b9_b3, n_b9_b2, n_b9_b1, hb9⟩ := hb9
                  refine Ops_loud rfl (LO.storeAll (cs := sqC r15.1) rfl sz37 rfl rfl (sqC_one _) (sqC_length _) ((upd_ne _ _ n_b9_b8.ne.symm).trans (upd_same _ _ _)) (sqC_length _) (Chg.there n_b9_b8.ne Chg.here) rfl ?_)
                  refine Ops_loud rfl (LO.storeAll (cs := sqC r15.2) rfl sz37 rfl rfl (sqC_one _) (sqC_length _) (upd_same _ _ _) (sqC_length _) Chg.here rfl ?_)
                  refine Ops_nil ?_
                  refine thenA_n ?_
                  refine wpA_seq ?_
                  refine wpA_region ?_
                  refine Ops_quiet _ rfl rfl (QO.loadRow (cs := sqC r15.1) (hr := (rdAll ((upd_ne _ _ n_b9_b8.ne.symm).trans (upd_same _ _ _)))) rfl sz37 rfl rfl (sqC_length _)) ?_
                  refine Ops_quiet _ rfl rfl (QO.loadRow (cs := sqC r15.2) (hr := (rdAll (upd_same _ _ _))) rfl sz37 rfl rfl (sqC_length _)) ?_
                  have hq := Option.bind_eq_some_iff.1 hm; clear hm; obtain ⟨r16, hr16, hm⟩ := hq
                  refine Ops_call _ _ rfl rfl (EO.fn rfl Try.func15 rfl rfl (Evs.cons rfl (Evs.cons rfl Evs.nil))) (QC.cc (c_impl_DirectProduct hr16 ) ?_)
                  refine Ops_quiet _ rfl rfl (QO.move rfl rfl) ?_
                  refine Ops_quiet _ rfl rfl (QO.extract rfl rfl rfl) ?_
                  refine Ops_quiet _ rfl rfl (QO.extract rfl rfl rfl) ?_
                  refine Ops_loud rfl (LO.alloc rfl zr37 rfl (fun b10 hb10 => ?_))
                  simp only [upd_noneA] at hb10
                  obtain ⟨n_b10_b9, n_b10_b8, n_b10_b7, n_b10_b3, n_b10_b2, n_b10_b1, hb10⟩ := hb10
                  refine Ops_loud rfl (LO.storeAll (cs := sqC r16.1) rfl sz37 rfl rfl (sqC_one _) (sqC_length _) (upd_same _ _ _) (sqC_length _) Chg.here rfl ?_)
                  refine Ops_quiet _ rfl rfl (QO.assign rfl rfl) ?_
                  refine Ops_nil ?_
                  refine thenA_n ?_
                  refine wpA_seq ?_
                  refine wpA_region ?_
                  refine Ops_quiet _ rfl rfl (QO.loadRow (cs := sqC r15.1) (hr := (rdAll ((upd_ne _ _ n_b10_b8.ne.symm).trans ((upd_ne _ _ n_b9_b8.ne.symm).trans (upd_same _ _ _))))) rfl sz37 rfl rfl (sqC_length _)) ?_
                  refine Ops_quiet _ rfl rfl (QO.loadRow (cs := sqC r15.2) (hr := (rdAll ((upd_ne _ _ n_b10_b9.ne.symm).trans (upd_same _ _ _)))) rfl sz37 rfl rfl (sqC_length _)) ?_
                  have hq := Option.bind_eq_some_iff.1 hm; clear hm; obtain ⟨r17, hr17, hm⟩ := hq
                  refine Ops_call _ _ rfl rfl (EO.fn rfl Try.func16 rfl rfl (Evs.cons rfl (Evs.cons rfl Evs.nil))) (QC.cc (c_spec_DirectProduct hr17 ) ?_)
                  refine Ops_quiet _ rfl rfl (QO.move rfl rfl) ?_
                  refine Ops_quiet _ rfl rfl (QO.extract rfl rfl rfl) ?_
                  refine Ops_quiet _ rfl rfl (QO.extract rfl rfl rfl) ?_
                  refine Ops_loud rfl (LO.alloc rfl zr37 rfl (fun b11 hb11 => ?_))
                  simp only [upd_noneA] at hb11
                  obtain ⟨n_b11_b10, n_b11_b9, n_b11_b8, n_b11_b7, n_b11_b3, n_b11_b2, n_b11_b1, hb11⟩ := hb11
                  refine Ops_loud rfl (LO.storeAll (cs := sqC r17.1) rfl sz37 rfl rfl (sqC_one _) (sqC_length _) (upd_same _ _ _) (sqC_length _) Chg.here rfl ?_)
                  refine Ops_quiet _ rfl rfl (QO.assign rfl rfl) ?_
                  refine Ops_nil ?_
                  refine thenA_n ?_
                  refine wpA_seq ?_
                  refine wpA_seq ?_
                  refine wpA_region ?_
                  refine Ops_quiet _ rfl rfl (QO.move rfl rfl) ?_
                  refine Ops_quiet _ rfl rfl (QO.move rfl rfl) ?_
                  refine Ops_quiet _ rfl rfl (QO.bin rfl rfl rfl rfl) ?_
                  refine Ops_quiet _ rfl rfl (QO.move rfl rfl) ?_
                  refine Ops_case 212 rfl (fun g18 => ?_) (fun g18 => ?_)
                  ·replace hm := cond_t hm g18
                   refine Ops_skip rfl rfl ?_
                   refine Ops_skip rfl rfl ?_
                   refine Ops_skip rfl rfl ?_
                   refine Ops_quiet _ rfl rfl (QO.pick_t rfl rfl rfl) ?_
                   refine Ops_nil ?_
                   refine thenA_n ?_
                   refine wpA_cond_t rfl ?_
                   refine wpA_seq ?_
                   refine wpA_region ?_
                   refine Ops_quiet _ rfl rfl (QO.assign rfl rfl) ?_
                   refine Ops_nil ?_
                   refine thenA_n ?_
                   refine wpA_ret ?_
                   refine thenA_r ?_
                   obtain rfl := Option.some.inj hm
                   exact retA_r (h2 := h) (Res.one rfl (rfl)) (Le.under (Le.under (Le.under (Le.under (Le.under (Le.under (Le.under (Le.under (Le.refl _) hb1) hb2) hb3) hb7) hb8) hb9) hb10) hb11) ⟨rfl, rfl⟩
                  ·replace hm := cond_f hm g18
                   refine Ops_quiet _ rfl rfl (QO.loadRow (cs := sqC r16.1) (hr := (rdAll ((upd_ne _ _ n_b11_b10.ne.symm).trans (upd_same _ _ _)))) rfl sz37 rfl rfl (sqC_length _)) ?_
                   refine Ops_quiet _ rfl rfl (QO.loadRow (cs := sqC r17.1) (hr := (rdAll (upd_same _ _ _))) rfl sz37 rfl rfl (sqC_length _)) ?_
                   refine Ops_quiet _ rfl rfl (QO.agg_neq rfl rfl rfl eg37 (eqv37 _ _) rfl) ?_
                   refine Ops_quiet _ rfl rfl (QO.pick_f rfl rfl rfl) ?_
                   refine Ops_nil ?_
                   refine thenA_n ?_
                   refine wpA_cond rfl (fun g19 => ?_) (fun g19 => ?_)
                   ·replace hm := cond_t hm g19
                    refine wpA_seq ?_
                    refine wpA_region ?_
                    refine Ops_quiet _ rfl rfl (QO.assign rfl rfl) ?_
                    refine Ops_nil ?_
                    refine thenA_n ?_
                    refine wpA_ret ?_
                    refine thenA_r ?_
                    obtain rfl := Option.some.inj hm
                    exact retA_r (h2 := h) (Res.one rfl (rfl)) (Le.under (Le.under (Le.under (Le.under (Le.under (Le.under (Le.under (Le.under (Le.refl _) hb1) hb2) hb3) hb7) hb8) hb9) hb10) hb11) ⟨rfl, rfl⟩
                   ·replace hm := cond_f hm g19
                    refine wpA_skip ?_
                    refine thenA_n ?_
                    refine wpA_seq ?_
                    refine wpA_seq ?_
                    refine wpA_drawn (by kernel_rfl) (by kernel_rfl) ?_
                    refine QOps.quiet _ rfl rfl (QO.move rfl rfl) ?_
                    refine QOps.quiet _ rfl rfl (QO.bin rfl rfl rfl rfl) ?_
                    refine QOps.quiet _ rfl rfl (QO.move rfl rfl) ?_
                    refine QOps.split 219 rfl (fun g20 => ?_) (fun g20 => ?_)
                    ·replace hm := cond_t hm g20
                     refine QOps.quiet _ rfl rfl (QO.loadRow (cs := sqC r16.1) (hr := (rdAll ((upd_ne _ _ n_b11_b10.ne.symm).trans (upd_same _ _ _)))) rfl sz37 rfl rfl (sqC_length _)) ?_
                     have hq := Option.bind_eq_some_iff.1 hm; clear hm; obtain ⟨r18, hr18, hm⟩ := hq
                     refine QOps.call _ _ _ rfl rfl (EO.fn rfl Try.func17 rfl rfl (Evs.cons rfl Evs.nil)) (c_impl_IsSquare hr18 ) ?_
                     refine QOps.quiet _ rfl rfl (QO.not rfl rfl) ?_
                     refine QOps.quiet _ rfl rfl (QO.move rfl rfl) ?_
                     refine QOps.split 223 rfl (fun g21 => ?_) (fun g21 => ?_)
                     ·replace hm := cond_t hm g21
                      refine QOps.skip rfl rfl ?_
                      refine QOps.skip rfl rfl ?_
                      refine QOps.skip rfl rfl ?_
                      refine QOps.skip rfl rfl ?_
                      refine QOps.skip rfl rfl ?_
                      refine QOps.skip rfl rfl ?_
                      refine QOps.skip rfl rfl ?_
                      refine QOps.skip rfl rfl ?_
                      refine QOps.skip rfl rfl ?_
                      refine QOps.quiet _ rfl rfl (QO.pick_t rfl rfl rfl) ?_
                      refine QOps.quiet _ rfl rfl (QO.pick_t rfl rfl rfl) ?_
                      refine QOps.nil ?_
                      refine thenA_n ?_
                      refine wpA_cond_t rfl ?_
                      refine wpA_seq ?_
                      refine wpA_region ?_
                      refine Ops_quiet _ rfl rfl (QO.assign rfl rfl) ?_
                      refine Ops_nil ?_
                      refine thenA_n ?_
                      refine wpA_ret ?_
                      refine thenA_r ?_
                      obtain rfl := Option.some.inj hm
                      exact retA_r (h2 := h) (Res.one rfl (rfl)) (Le.under (Le.under (Le.under (Le.under (Le.under (Le.under (Le.under (Le.under (Le.refl _) hb1) hb2) hb3) hb7) hb8) hb9) hb10) hb11) ⟨rfl, rfl⟩
                     ·replace hm := cond_f hm g21
                      refine QOps.quiet _ rfl rfl (QO.loadRow (cs := sqC r15.1) (hr := (rdAll ((upd_ne _ _ n_b11_b8.ne.symm).trans ((upd_ne _ _ n_b10_b8.ne.symm).trans ((upd_ne _ _ n_b9_b8.ne.symm).trans (upd_same _ _ _)))))) rfl sz37 rfl rfl (sqC_length _)) ?_
                      have hq := Option.bind_eq_some_iff.1 hm; clear hm; obtain ⟨r19, hr19, hm⟩ := hq
                      refine QOps.call _ _ _ rfl rfl (EO.fn rfl Try.func18 rfl rfl (Evs.cons rfl Evs.nil)) (c_impl_IsGroup hr19 ) ?_
                      refine QOps.quiet _ rfl rfl (QO.move rfl rfl) ?_
                      refine QOps.split 226 rfl (fun g22 => ?_) (fun g22 => ?_)
                      ·replace hm := cond_t hm g22
                       refine QOps.quiet _ rfl rfl (QO.loadRow (cs := sqC r15.2) (hr := (rdAll ((upd_ne _ _ n_b11_b9.ne.symm).trans ((upd_ne _ _ n_b10_b9.ne.symm).trans (upd_same _ _ _))))) rfl sz37 rfl rfl (sqC_length _)) ?_
                       have hq := Option.bind_eq_some_iff.1 hm; clear hm; obtain ⟨r20, hr20, hm⟩ := hq
                       refine QOps.call _ _ _ rfl rfl (EO.fn rfl Try.func18 rfl rfl (Evs.cons rfl Evs.nil)) (c_impl_IsGroup hr20 ) ?_
                       refine QOps.quiet _ rfl rfl (QO.loadRow (cs := sqC r16.1) (hr := (rdAll ((upd_ne _ _ n_b11_b10.ne.symm).trans (upd_same _ _ _)))) rfl sz37 rfl rfl (sqC_length _)) ?_
                       have hq := Option.bind_eq_some_iff.1 hm; clear hm; obtain ⟨r21, hr21, hm⟩ := hq
                       refine QOps.call _ _ _ rfl rfl (EO.fn rfl Try.func18 rfl rfl (Evs.cons rfl Evs.nil)) (c_impl_IsGroup hr21 ) ?_
                       refine QOps.quiet _ rfl rfl (QO.bool_neq rfl sz4 rfl rfl) ?_
                       refine QOps.quiet _ rfl rfl (QO.pick_t rfl rfl rfl) ?_
                       refine QOps.quiet _ rfl rfl (QO.pick_f rfl rfl rfl) ?_
                       refine QOps.quiet _ rfl rfl (QO.pick_t rfl rfl rfl) ?_
                       refine QOps.nil ?_
                       refine thenA_n ?_
                       refine wpA_cond rfl (fun g23 => ?_) (fun g23 => ?_)
                       ·replace hm := cond_t hm g23
                        refine wpA_seq ?_
                        refine wpA_region ?_
                        refine Ops_quiet _ rfl rfl (QO.assign rfl rfl) ?_
                        refine Ops_nil ?_
                        refine thenA_n ?_
                        refine wpA_ret ?_
                        refine thenA_r ?_
                        obtain rfl := Option.some.inj hm
                        exact retA_r (h2 := h) (Res.one rfl (rfl)) (Le.under (Le.under (Le.under (Le.under (Le.under (Le.under (Le.under (Le.under (Le.refl _) hb1) hb2) hb3) hb7) hb8) hb9) hb10) hb11) ⟨rfl, rfl⟩
                       ·replace hm := cond_f hm g23
                        refine wpA_skip ?_
                        refine thenA_n ?_
                        refine wpA_seq ?_
                        refine wpA_region ?_
                        refine Ops_quiet _ rfl rfl (QO.move rfl rfl) ?_
                        have hq := Option.bind_eq_some_iff.1 hm; clear hm; obtain ⟨r22, hr22, hm⟩ := hq
                        refine Ops_call _ _ rfl rfl (EO.fn rfl Try.func19 rfl rfl (Evs.cons rfl Evs.nil)) (QC.cc (c_spec_DrawCyclicSquare (l0 := l0) (A0 := A0) (c0 := c0) hr22 (RdS.le hs0 (Le.under (Le.under (Le.under (Le.under (Le.under (Le.under (Le.under (Le.under (Le.refl _) hb1) hb2) hb3) hb7) hb8) hb9) hb10) hb11))) ?_)
                        refine Ops_quiet _ rfl rfl (QO.assign rfl rfl) ?_
                        refine Ops_nil ?_
                        refine thenA_n ?_
                        refine wpA_seq ?_
                        refine wpA_region ?_
                        refine Ops_quiet _ rfl rfl (QO.move rfl rfl) ?_
                        have hq := Option.bind_eq_some_iff.1 hm; clear hm; obtain ⟨r23, hr23, hm⟩ := hq
                        refine Ops_call _ _ rfl rfl (EO.fn rfl Try.func20 rfl rfl (Evs.cons rfl Evs.nil)) (QC.cc (c_impl_CyclicSquare hr23 ) ?_)
                        refine Ops_quiet _ rfl rfl (QO.move rfl rfl) ?_
                        refine Ops_quiet _ rfl rfl (QO.extract rfl rfl rfl) ?_
                        refine Ops_quiet _ rfl rfl (QO.extract rfl rfl rfl) ?_
                        refine Ops_loud rfl (LO.alloc rfl zr37 rfl (fun b12 hb12 => ?_))
                        simp only [upd_noneA] at hb12
                        obtain ⟨n_b12_b11, n_b12_b10, n_b12_b9, n_b12_b8, n_b12_b7, n_b12_b3, n_b12_b2, n_b12_b1, hb12⟩ := hb12
                        refine Ops_loud rfl (LO.storeAll (cs := sqC r23.1) rfl sz37 rfl rfl (sqC_one _) (sqC_length _) (upd_same _ _ _) (sqC_length _) Chg.here rfl ?_)
                        refine Ops_quiet _ rfl rfl (QO.assign rfl rfl) ?_
                        refine Ops_nil ?_
                        refine thenA_n ?_
                        refine wpA_weaken (show Abs.Sub _ [(0, .slice A0 l0.length c0), (31, .int .i64 r22), (32, .pointer (some ⟨b12, 0, none⟩)), (33, .int .i64 r23.2)] from (Sub.cons rfl (Sub.cons rfl (Sub.cons rfl (Sub.cons rfl (Sub.nil)))))).ok (Le.refl _) ?_
                        refine wpA_seq ?_
                        refine wpA_region ?_
                        refine Ops_quiet _ rfl rfl (QO.move rfl rfl) ?_
                        have hq := Option.bind_eq_some_iff.1 hm; clear hm; obtain ⟨r24, hr24, hm⟩ := hq
                        refine Ops_call _ _ rfl rfl (EO.fn rfl Try.func21 rfl rfl (Evs.cons rfl Evs.nil)) (QC.cc (c_spec_CyclicSquare hr24 ) ?_)
                        refine Ops_quiet _ rfl rfl (QO.move rfl rfl) ?_
                        refine Ops_quiet _ rfl rfl (QO.extract rfl rfl rfl) ?_
                        refine Ops_quiet _ rfl rfl (QO.extract rfl rfl rfl) ?_
                        refine Ops_loud rfl (LO.alloc rfl zr37 rfl (fun b13 hb13 => ?_))
                        simp only [upd_noneA] at hb13
                        obtain ⟨n_b13_b12, n_b13_b11, n_b13_b10, n_b13_b9, n_b13_b8, n_b13_b7, n_b13_b3, n_b13_b2, n_b13_b1, hb13⟩ := hb13
                        refine Ops_loud rfl (LO.storeAll (cs := sqC r24.1) rfl sz37 rfl rfl (sqC_one _) (sqC_length _) (upd_same _ _ _) (sqC_length _) Chg.here rfl ?_)
                        refine Ops_quiet _ rfl rfl (QO.assign rfl rfl) ?_
                        refine Ops_nil ?_
                        refine thenA_n ?_
                        refine wpA_seq ?_
                        refine wpA_region ?_
                        refine Ops_quiet _ rfl rfl (QO.move rfl rfl) ?_
                        have hq := Option.bind_eq_some_iff.1 hm; clear hm; obtain ⟨r25, hr25, hm⟩ := hq
                        refine Ops_call _ _ rfl rfl (EO.fn rfl Try.func22 rfl rfl (Evs.cons rfl Evs.nil)) (QC.cc (c_spec_DrawElementarySquare (l0 := l0) (A0 := A0) (c0 := c0) hr25 (RdS.le hs0 (Le.under (Le.under (Le.under (Le.under (Le.under (Le.under (Le.under (Le.under (Le.under (Le.under (Le.refl _) hb1) hb2) hb3) hb7) hb8) hb9) hb10) hb11) hb12) hb13))) ?_)
                        refine Ops_quiet _ rfl rfl (QO.assign rfl rfl) ?_
                        refine Ops_nil ?_
                        refine thenA_n ?_
                        refine wpA_seq ?_
                        refine wpA_region ?_
                        refine Ops_quiet _ rfl rfl (QO.move rfl rfl) ?_
                        have hq := Option.bind_eq_some_iff.1 hm; clear hm; obtain ⟨r26, hr26, hm⟩ := hq
                        refine Ops_call _ _ rfl rfl (EO.fn rfl Try.func23 rfl rfl (Evs.cons rfl Evs.nil)) (QC.cc (c_impl_ElementarySquare hr26 ) ?_)
                        refine Ops_quiet _ rfl rfl (QO.move rfl rfl) ?_
                        refine Ops_quiet _ rfl rfl (QO.extract rfl rfl rfl) ?_
                        refine Ops_quiet _ rfl rfl (QO.extract rfl rfl rfl) ?_
                        refine Ops_loud rfl (LO.alloc rfl zr37 rfl (fun b14 hb14 => ?_))
                        simp only [upd_noneA] at hb14
                        obtain ⟨n_b14_b13, n_b14_b12, n_b14_b11, n_b14_b10, n_b14_b9, n_b14_b8, n_b14_b7, n_b14_b3, n_b14_b2, n_b14_b1, hb14⟩ := hb14
                        refine Ops_loud rfl (LO.storeAll (cs := sqC r26.1) rfl sz37 rfl rfl (sqC_one _) (sqC_length _) (upd_same _ _ _) (sqC_length _) Chg.here rfl ?_)
                        refine Ops_quiet _ rfl rfl (QO.assign rfl rfl) ?_
                        refine Ops_nil ?_
                        refine thenA_n ?_
                        refine wpA_seq ?_
                        refine wpA_region ?_
                        refine Ops_quiet _ rfl rfl (QO.move rfl rfl) ?_
                        have hq := Option.bind_eq_some_iff.1 hm; clear hm; obtain ⟨r27, hr27, hm⟩ := hq
                        refine Ops_call _ _ rfl rfl (EO.fn rfl Try.func24 rfl rfl (Evs.cons rfl Evs.nil)) (QC.cc (c_spec_ElementarySquare hr27 ) ?_)
                        refine Ops_quiet _ rfl rfl (QO.move rfl rfl) ?_
                        refine Ops_quiet _ rfl rfl (QO.extract rfl rfl rfl) ?_
                        refine Ops_quiet _ rfl rfl (QO.extract rfl rfl rfl) ?_
                        refine Ops_loud rfl (LO.alloc rfl zr37 rfl (fun b15 hb15 => ?_))
                        simp only [upd_noneA] at hb15
                        obtain ⟨n_b15_b14, n_b15_b13, n_b15_b12, n_b15_b11, n_b15_b10, n_b15_b9, n_b15_b8, n_b15_b7, n_b15_b3, n_b15_b2, n_b15_b1, hb15⟩ := hb15
                        refine Ops_loud rfl (LO.storeAll (cs := sqC r27.1) rfl sz37 rfl rfl (sqC_one _) (sqC_length _) (upd_same _ _ _) (sqC_length _) Chg.here rfl ?_)
                        refine Ops_quiet _ rfl rfl (QO.assign rfl rfl) ?_
                        refine Ops_nil ?_
                        refine thenA_n ?_
                        refine wpA_seq ?_
                        refine wpA_region ?_
                        refine Ops_quiet _ rfl rfl (QO.move rfl rfl) ?_
                        refine Ops_quiet _ rfl rfl (QO.move rfl rfl) ?_
                        refine Ops_quiet _ rfl rfl (QO.bin rfl rfl rfl rfl) ?_
                        refine Ops_quiet _ rfl rfl (QO.move rfl rfl) ?_
                        refine Ops_case 262 rfl (fun g24 => ?_) (fun g24 => ?_)
                        ·replace hm := cond_t hm g24
                         refine Ops_quiet _ rfl rfl (QO.loadRow (cs := sqC r23.1) (hr := (rdAll ((upd_ne _ _ n_b15_b12.ne.symm).trans ((upd_ne _ _ n_b14_b12.ne.symm).trans ((upd_ne _ _ n_b13_b12.ne.symm).trans (upd_same _ _ _)))))) rfl sz37 rfl rfl (sqC_length _)) ?_
                         refine Ops_quiet _ rfl rfl (QO.loadRow (cs := sqC r24.1) (hr := (rdAll ((upd_ne _ _ n_b15_b13.ne.symm).trans ((upd_ne _ _ n_b14_b13.ne.symm).trans (upd_same _ _ _))))) rfl sz37 rfl rfl (sqC_length _)) ?_
                         refine Ops_quiet _ rfl rfl (QO.agg_eql rfl rfl rfl eg37 (eqv37 _ _) rfl) ?_
                         refine Ops_quiet _ rfl rfl (QO.pick_t rfl rfl rfl) ?_
                         refine Ops_quiet _ rfl rfl (QO.move rfl rfl) ?_
                         refine Ops_case 267 rfl (fun g25 => ?_) (fun g25 => ?_)
                         ·replace hm := cond_t hm g25
                          refine Ops_quiet _ rfl rfl (QO.move rfl rfl) ?_
                          refine Ops_quiet _ rfl rfl (QO.bin rfl rfl rfl rfl) ?_
                          refine Ops_quiet _ rfl rfl (QO.move rfl rfl) ?_
                          refine Ops_case 270 rfl (fun g26 => ?_) (fun g26 => ?_)
                          ·replace hm := cond_t hm g26
                           refine Ops_skip rfl rfl ?_
                           refine Ops_skip rfl rfl ?_
                           refine Ops_quiet _ rfl rfl (QO.pick_t rfl rfl rfl) ?_
                           refine Ops_quiet _ rfl rfl (QO.pick_t rfl rfl rfl) ?_
                           refine Ops_quiet _ rfl rfl (QO.move rfl rfl) ?_
                           refine Ops_quiet _ rfl rfl (QO.move rfl rfl) ?_
                           refine Ops_quiet _ rfl rfl (QO.move rfl rfl) ?_
                           refine Ops_quiet _ rfl rfl (QO.bin rfl rfl rfl rfl) ?_
                           refine Ops_quiet _ rfl rfl (QO.pick_t rfl rfl rfl) ?_
                           refine Ops_quiet _ rfl rfl (QO.move rfl rfl) ?_
                           refine Ops_case 280 rfl (fun g27 => ?_) (fun g27 => ?_)
                           ·replace hm := cond_t hm g27
                            refine Ops_quiet _ rfl rfl (QO.loadRow (cs := sqC r26.1) (hr := (rdAll ((upd_ne _ _ n_b15_b14.ne.symm).trans (upd_same _ _ _)))) rfl sz37 rfl rfl (sqC_length _)) ?_
                            refine Ops_quiet _ rfl rfl (QO.loadRow (cs := sqC r27.1) (hr := (rdAll (upd_same _ _ _))) rfl sz37 rfl rfl (sqC_length _)) ?_
                            refine Ops_quiet _ rfl rfl (QO.agg_eql rfl rfl rfl eg37 (eqv37 _ _) rfl) ?_
                            refine Ops_quiet _ rfl rfl (QO.pick_t rfl rfl rfl) ?_
                            refine Ops_quiet _ rfl rfl (QO.move rfl rfl) ?_
                            refine Ops_case 285 rfl (fun g28 => ?_) (fun g28 => ?_)
                            ·replace hm := cond_t hm g28
                             refine Ops_quiet _ rfl rfl (QO.move rfl rfl) ?_
                             refine Ops_quiet _ rfl rfl (QO.bin rfl rfl rfl rfl) ?_
                             refine Ops_quiet _ rfl rfl (QO.move rfl rfl) ?_
                             refine Ops_case 288 rfl (fun g29 => ?_) (fun g29 => ?_)
                             ·replace hm := cond_t hm g29
                              refine Ops_skip rfl rfl ?_
                              refine Ops_skip rfl rfl ?_
                              refine Ops_quiet _ rfl rfl (QO.pick_t rfl rfl rfl) ?_
                              refine Ops_quiet _ rfl rfl (QO.pick_t rfl rfl rfl) ?_
                              refine Ops_quiet _ rfl rfl (QO.assign rfl rfl) ?_
                              refine Ops_nil ?_
                              refine thenA_n ?_
                              refine wpA_ret ?_
                              obtain rfl := Option.some.inj hm
                              exact retA_r (h2 := h) (Res.one rfl (rfl)) (Le.under (Le.under (Le.under (Le.under (Le.under (Le.under (Le.under (Le.under (Le.under (Le.under (Le.under (Le.under (Le.refl _) hb1) hb2) hb3) hb7) hb8) hb9) hb10) hb11) hb12) hb13) hb14) hb15) ⟨rfl, rfl⟩
                             ·replace hm := cond_f hm g29
                              refine Ops_quiet _ rfl rfl (QO.loadRow (cs := sqC r26.1) (hr := (rdAll ((upd_ne _ _ n_b15_b14.ne.symm).trans (upd_same _ _ _)))) rfl sz37 rfl rfl (sqC_length _)) ?_
                              have hq := Option.bind_eq_some_iff.1 hm; clear hm; obtain ⟨r28, hr28, hm⟩ := hq
                              refine Ops_call _ _ rfl rfl (EO.fn rfl Try.func18 rfl rfl (Evs.cons rfl Evs.nil)) (QC.cc (c_impl_IsGroup hr28 ) ?_)
                              refine Ops_quiet _ rfl rfl (QO.pick_f rfl rfl rfl) ?_
                              refine Ops_quiet _ rfl rfl (QO.pick_t rfl rfl rfl) ?_
                              refine Ops_quiet _ rfl rfl (QO.assign rfl rfl) ?_
                              refine Ops_nil ?_
                              refine thenA_n ?_
                              refine wpA_ret ?_
                              obtain rfl := Option.some.inj hm
                              exact retA_r (h2 := h) (Res.one rfl (rfl)) (Le.under (Le.under (Le.under (Le.under (Le.under (Le.under (Le.under (Le.under (Le.under (Le.under (Le.under (Le.under (Le.refl _) hb1) hb2) hb3) hb7) hb8) hb9) hb10) hb11) hb12) hb13) hb14) hb15) ⟨rfl, rfl⟩
                            ·replace hm := cond_f hm g28
                             refine Ops_skip rfl rfl ?_
                             refine Ops_skip rfl rfl ?_
                             refine Ops_skip rfl rfl ?_
                             refine Ops_skip rfl rfl ?_
                             refine Ops_skip rfl rfl ?_
                             refine Ops_skip rfl rfl ?_
                             refine Ops_quiet _ rfl rfl (QO.pick_f rfl rfl rfl) ?_
                             refine Ops_quiet _ rfl rfl (QO.assign rfl rfl) ?_
                             refine Ops_nil ?_
                             refine thenA_n ?_
                             refine wpA_ret ?_
                             obtain rfl := Option.some.inj hm
                             exact retA_r (h2 := h) (Res.one rfl (rfl)) (Le.under (Le.under (Le.under (Le.under (Le.under (Le.under (Le.under (Le.under (Le.under (Le.under (Le.under (Le.under (Le.refl _) hb1) hb2) hb3) hb7) hb8) hb9) hb10) hb11) hb12) hb13) hb14) hb15) ⟨rfl, rfl⟩
                           ·replace hm := cond_f hm g27
                            refine Ops_skip rfl rfl ?_
                            refine Ops_skip rfl rfl ?_
                            refine Ops_skip rfl rfl ?_
                            refine Ops_quiet _ rfl rfl (QO.pick_f rfl rfl rfl) ?_
                            refine Ops_quiet _ rfl rfl (QO.move rfl rfl) ?_
                            refine Ops_skip rfl rfl ?_
                            refine Ops_skip rfl rfl ?_
                            refine Ops_skip rfl rfl ?_
                            refine Ops_skip rfl rfl ?_
                            refine Ops_skip rfl rfl ?_
                            refine Ops_skip rfl rfl ?_
                            refine Ops_quiet _ rfl rfl (QO.pick_f rfl rfl rfl) ?_
                            refine Ops_quiet _ rfl rfl (QO.assign rfl rfl) ?_
                            refine Ops_nil ?_
                            refine thenA_n ?_
                            refine wpA_ret ?_
                            obtain rfl := Option.some.inj hm
                            exact retA_r (h2 := h) (Res.one rfl (rfl)) (Le.under (Le.under (Le.under (Le.under (Le.under (Le.under (Le.under (Le.under (Le.under (Le.under (Le.under (Le.under (Le.refl _) hb1) hb2) hb3) hb7) hb8) hb9) hb10) hb11) hb12) hb13) hb14) hb15) ⟨rfl, rfl⟩
                          ·replace hm := cond_f hm g26
                           refine Ops_quiet _ rfl rfl (QO.loadRow (cs := sqC r23.1) (hr := (rdAll ((upd_ne _ _ n_b15_b12.ne.symm).trans ((upd_ne _ _ n_b14_b12.ne.symm).trans ((upd_ne _ _ n_b13_b12.ne.symm).trans (upd_same _ _ _)))))) rfl sz37 rfl rfl (sqC_length _)) ?_
                           have hq := Option.bind_eq_some_iff.1 hm; clear hm; obtain ⟨r29, hr29, hm⟩ := hq
                           refine Ops_call _ _ rfl rfl (EO.fn rfl Try.func18 rfl rfl (Evs.cons rfl Evs.nil)) (QC.cc (c_impl_IsGroup hr29 ) ?_)
                           refine Ops_quiet _ rfl rfl (QO.pick_f rfl rfl rfl) ?_
                           refine Ops_quiet _ rfl rfl (QO.pick_t rfl rfl rfl) ?_
                           refine Ops_quiet _ rfl rfl (QO.move rfl rfl) ?_
                           refine Ops_case 275 rfl (fun g30 => ?_) (fun g30 => ?_)
                           ·replace hm := cond_t hm g30
                            refine Ops_quiet _ rfl rfl (QO.move rfl rfl) ?_
                            refine Ops_quiet _ rfl rfl (QO.move rfl rfl) ?_
                            refine Ops_quiet _ rfl rfl (QO.bin rfl rfl rfl rfl) ?_
                            refine Ops_quiet _ rfl rfl (QO.pick_t rfl rfl rfl) ?_
                            refine Ops_quiet _ rfl rfl (QO.move rfl rfl) ?_
                            refine Ops_case 280 rfl (fun g31 => ?_) (fun g31 => ?_)
                            ·replace hm := cond_t hm g31
                             refine Ops_quiet _ rfl rfl (QO.loadRow (cs := sqC r26.1) (hr := (rdAll ((upd_ne _ _ n_b15_b14.ne.symm).trans (upd_same _ _ _)))) rfl sz37 rfl rfl (sqC_length _)) ?_
                             refine Ops_quiet _ rfl rfl (QO.loadRow (cs := sqC r27.1) (hr := (rdAll (upd_same _ _ _))) rfl sz37 rfl rfl (sqC_length _)) ?_
                             refine Ops_quiet _ rfl rfl (QO.agg_eql rfl rfl rfl eg37 (eqv37 _ _) rfl) ?_
                             refine Ops_quiet _ rfl rfl (QO.pick_t rfl rfl rfl) ?_
                             refine Ops_quiet _ rfl rfl (QO.move rfl rfl) ?_
                             refine Ops_case 285 rfl (fun g32 => ?_) (fun g32 => ?_)
                             ·replace hm := cond_t hm g32
                              refine Ops_quiet _ rfl rfl (QO.move rfl rfl) ?_
                              refine Ops_quiet _ rfl rfl (QO.bin rfl rfl rfl rfl) ?_
                              refine Ops_quiet _ rfl rfl (QO.move rfl rfl) ?_
                              refine Ops_case 288 rfl (fun g33 => ?_) (fun g33 => ?_)
                              ·replace hm := cond_t hm g33
                               refine Ops_skip rfl rfl ?_
                               refine Ops_skip rfl rfl ?_
                               refine Ops_quiet _ rfl rfl (QO.pick_t rfl rfl rfl) ?_
                               refine Ops_quiet _ rfl rfl (QO.pick_t rfl rfl rfl) ?_
                               refine Ops_quiet _ rfl rfl (QO.assign rfl rfl) ?_
                               refine Ops_nil ?_
                               refine thenA_n ?_
                               refine wpA_ret ?_
                               obtain rfl := Option.some.inj hm
                               exact retA_r (h2 := h) (Res.one rfl (rfl)) (Le.under (Le.under (Le.under (Le.under (Le.under (Le.under (Le.under (Le.under (Le.under (Le.under (Le.under (Le.under (Le.refl _) hb1) hb2) hb3) hb7) hb8) hb9) hb10) hb11) hb12) hb13) hb14) hb15) ⟨rfl, rfl⟩
                              ·replace hm := cond_f hm g33
                               refine Ops_quiet _ rfl rfl (QO.loadRow (cs := sqC r26.1) (hr := (rdAll ((upd_ne _ _ n_b15_b14.ne.symm).trans (upd_same _ _ _)))) rfl sz37 rfl rfl (sqC_length _)) ?_
                               have hq := Option.bind_eq_some_iff.1 hm; clear hm; obtain ⟨r30, hr30, hm⟩ := hq
                               refine Ops_call _ _ rfl rfl (EO.fn rfl Try.func18 rfl rfl (Evs.cons rfl Evs.nil)) (QC.cc (c_impl_IsGroup hr30 ) ?_)
                               refine Ops_quiet _ rfl rfl (QO.pick_f rfl rfl rfl) ?_
                               refine Ops_quiet _ rfl rfl (QO.pick_t rfl rfl rfl) ?_
                               refine Ops_quiet _ rfl rfl (QO.assign rfl rfl) ?_
                               refine Ops_nil ?_
                               refine thenA_n ?_
                               refine wpA_ret ?_
                               obtain rfl := Option.some.inj hm
                               exact retA_r (h2 := h) (Res.one rfl (rfl)) (Le.under (Le.under (Le.under (Le.under (Le.under (Le.under (Le.under (Le.under (Le.under (Le.under (Le.under (Le.under (Le.refl _) hb1) hb2) hb3) hb7) hb8) hb9) hb10) hb11) hb12) hb13) hb14) hb15) ⟨rfl, rfl⟩
                             ·replace hm := cond_f hm g32
                              refine Ops_skip rfl rfl ?_
                              refine Ops_skip rfl rfl ?_
                              refine Ops_skip rfl rfl ?_
                              refine Ops_skip rfl rfl ?_
                              refine Ops_skip rfl rfl ?_
                              refine Ops_skip rfl rfl ?_
                              refine Ops_quiet _ rfl rfl (QO.pick_f rfl rfl rfl) ?_
                              refine Ops_quiet _ rfl rfl (QO.assign rfl rfl) ?_
                              refine Ops_nil ?_
                              refine thenA_n ?_
                              refine wpA_ret ?_
                              obtain rfl := Option.some.inj hm
                              exact retA_r (h2 := h) (Res.one rfl (rfl)) (Le.under (Le.under (Le.under (Le.under (Le.under (Le.under (Le.under (Le.under (Le.under (Le.under (Le.under (Le.under (Le.refl _) hb1) hb2) hb3) hb7) hb8) hb9) hb10) hb11) hb12) hb13) hb14) hb15) ⟨rfl, rfl⟩
                            ·replace hm := cond_f hm g31
                             refine Ops_skip rfl rfl ?_
                             refine Ops_skip rfl rfl ?_
                             refine Ops_skip rfl rfl ?_
                             refine Ops_quiet _ rfl rfl (QO.pick_f rfl rfl rfl) ?_
                             refine Ops_quiet _ rfl rfl (QO.move rfl rfl) ?_
                             refine Ops_skip rfl rfl ?_
                             refine Ops_skip rfl rfl ?_
                             refine Ops_skip rfl rfl ?_
                             refine Ops_skip rfl rfl ?_
                             refine Ops_skip rfl rfl ?_
                             refine Ops_skip rfl rfl ?_
                             refine Ops_quiet _ rfl rfl (QO.pick_f rfl rfl rfl) ?_
                             refine Ops_quiet _ rfl rfl (QO.assign rfl rfl) ?_
                             refine Ops_nil ?_
                             refine thenA_n ?_
                             refine wpA_ret ?_
                             obtain rfl := Option.some.inj hm
                             exact retA_r (h2 := h) (Res.one rfl (rfl)) (Le.under (Le.under (Le.under (Le.under (Le.under (Le.under (Le.under (Le.under (Le.under (Le.under (Le.under (Le.under (Le.refl _) hb1) hb2) hb3) hb7) hb8) hb9) hb10) hb11) hb12) hb13) hb14) hb15) ⟨rfl, rfl⟩
                           ·replace hm := cond_f hm g30
                            refine Ops_skip rfl rfl ?_
                            refine Ops_skip rfl rfl ?_
                            refine Ops_skip rfl rfl ?_
                            refine Ops_quiet _ rfl rfl (QO.pick_f rfl rfl rfl) ?_
                            refine Ops_quiet _ rfl rfl (QO.move rfl rfl) ?_
                            refine Ops_skip rfl rfl ?_
                            refine Ops_skip rfl rfl ?_
                            refine Ops_skip rfl rfl ?_
                            refine Ops_quiet _ rfl rfl (QO.pick_f rfl rfl rfl) ?_
                            refine Ops_quiet _ rfl rfl (QO.move rfl rfl) ?_
                            refine Ops_skip rfl rfl ?_
                            refine Ops_skip rfl rfl ?_
                            refine Ops_skip rfl rfl ?_
                            refine Ops_skip rfl rfl ?_
                            refine Ops_skip rfl rfl ?_
                            refine Ops_skip rfl rfl ?_
                            refine Ops_quiet _ rfl rfl (QO.pick_f rfl rfl rfl) ?_
                            refine Ops_quiet _ rfl rfl (QO.assign rfl rfl) ?_
                            refine Ops_nil ?_
                            refine thenA_n ?_
                            refine wpA_ret ?_
                            obtain rfl := Option.some.inj hm
                            exact retA_r (h2 := h) (Res.one rfl (rfl)) (Le.under (Le.under (Le.under (Le.under (Le.under (Le.under (Le.under (Le.under (Le.under (Le.under (Le.under (Le.under (Le.refl _) hb1) hb2) hb3) hb7) hb8) hb9) hb10) hb11) hb12) hb13) hb14) hb15) ⟨rfl, rfl⟩
                         ·replace hm := cond_f hm g25
                          refine Ops_skip rfl rfl ?_
                          refine Ops_skip rfl rfl ?_
                          refine Ops_skip rfl rfl ?_
                          refine Ops_skip rfl rfl ?_
                          refine Ops_skip rfl rfl ?_
                          refine Ops_skip rfl rfl ?_
                          refine Ops_quiet _ rfl rfl (QO.pick_f rfl rfl rfl) ?_
                          refine Ops_quiet _ rfl rfl (QO.move rfl rfl) ?_
                          refine Ops_skip rfl rfl ?_
                          refine Ops_skip rfl rfl ?_
                          refine Ops_skip rfl rfl ?_
                          refine Ops_quiet _ rfl rfl (QO.pick_f rfl rfl rfl) ?_
                          refine Ops_quiet _ rfl rfl (QO.move rfl rfl) ?_
                          refine Ops_skip rfl rfl ?_
                          refine Ops_skip rfl rfl ?_
                          refine Ops_skip rfl rfl ?_
                          refine Ops_quiet _ rfl rfl (QO.pick_f rfl rfl rfl) ?_
                          refine Ops_quiet _ rfl rfl (QO.move rfl rfl) ?_
                          refine Ops_skip rfl rfl ?_
                          refine Ops_skip rfl rfl ?_
                          refine Ops_skip rfl rfl ?_
                          refine Ops_skip rfl rfl ?_
                          refine Ops_skip rfl rfl ?_
                          refine Ops_skip rfl rfl ?_
                          refine Ops_quiet _ rfl rfl (QO.pick_f rfl rfl rfl) ?_
                          refine Ops_quiet _ rfl rfl (QO.assign rfl rfl) ?_
                          refine Ops_nil ?_
                          refine thenA_n ?_
                          refine wpA_ret ?_
                          obtain rfl := Option.some.inj hm
                          exact retA_r (h2 := h) (Res.one rfl (rfl)) (Le.under (Le.under (Le.under (Le.under (Le.under (Le.under (Le.under (Le.under (Le.under (Le.under (Le.under (Le.under (Le.refl _) hb1) hb2) hb3) hb7) hb8) hb9) hb10) hb11) hb12) hb13) hb14) hb15) ⟨rfl, rfl⟩
                        ·replace hm := cond_f hm g24
                         refine Ops_skip rfl rfl ?_
                         refine Ops_skip rfl rfl ?_
                         refine Ops_skip rfl rfl ?_
                         refine Ops_quiet _ rfl rfl (QO.pick_f rfl rfl rfl) ?_
                         refine Ops_quiet _ rfl rfl (QO.move rfl rfl) ?_
                         refine Ops_skip rfl rfl ?_
                         refine Ops_skip rfl rfl ?_
                         refine Ops_skip rfl rfl ?_
                         refine Ops_skip rfl rfl ?_
                         refine Ops_skip rfl rfl ?_
                         refine Ops_skip rfl rfl ?_
                         refine Ops_quiet _ rfl rfl (QO.pick_f rfl rfl rfl) ?_
                         refine Ops_quiet _ rfl rfl (QO.move rfl rfl) ?_
                         refine Ops_skip rfl rfl ?_
                         refine Ops_skip rfl rfl ?_
                         refine Ops_skip rfl rfl ?_
                         refine Ops_quiet _ rfl rfl (QO.pick_f rfl rfl rfl) ?_
                         refine Ops_quiet _ rfl rfl (QO.move rfl rfl) ?_
                         refine Ops_skip rfl rfl ?_
                         refine Ops_skip rfl rfl ?_
                         refine Ops_skip rfl rfl ?_
                         refine Ops_quiet _ rfl rfl (QO.pick_f rfl rfl rfl) ?_
                         refine Ops_quiet _ rfl rfl (QO.move rfl rfl) ?_
                         refine Ops_skip rfl rfl ?_
                         refine Ops_skip rfl rfl ?_
                         refine Ops_skip rfl rfl ?_
                         refine Ops_skip rfl rfl ?_
                         refine Ops_skip rfl rfl ?_
                         refine Ops_skip rfl rfl ?_
                         refine Ops_quiet _ rfl rfl (QO.pick_f rfl rfl rfl) ?_
                         refine Ops_quiet _ rfl rfl (QO.assign rfl rfl) ?_
                         refine Ops_nil ?_
                         refine thenA_n ?_
                         refine wpA_ret ?_
                         obtain rfl := Option.some.inj hm
                         exact retA_r (h2 := h) (Res.one rfl (rfl)) (Le.under (Le.under (Le.under (Le.under (Le.under (Le.under (Le.under (Le.under (Le.under (Le.under (Le.under (Le.under (Le.refl _) hb1) hb2) hb3) hb7) hb8) hb9) hb10) hb11) hb12) hb13) hb14) hb15) ⟨rfl, rfl⟩
                      ·replace hm := cond_f hm g22
                       refine QOps.skip rfl rfl ?_
                       refine QOps.skip rfl rfl ?_
                       refine QOps.skip rfl rfl ?_
                       refine QOps.skip rfl rfl ?_
                       refine QOps.skip rfl rfl ?_
                       refine QOps.quiet _ rfl rfl (QO.pick_f rfl rfl rfl) ?_
                       refine QOps.quiet _ rfl rfl (QO.pick_f rfl rfl rfl) ?_
                       refine QOps.quiet _ rfl rfl (QO.pick_t rfl rfl rfl) ?_
                       refine QOps.nil ?_
                       refine thenA_n ?_
                       refine wpA_cond_f rfl ?_
                       refine wpA_skip ?_
                       refine thenA_n ?_
                       refine wpA_seq ?_
                       refine wpA_region ?_
                       refine Ops_quiet _ rfl rfl (QO.move rfl rfl) ?_
                       have hq := Option.bind_eq_some_iff.1 hm; clear hm; obtain ⟨r31, hr31, hm⟩ := hq
                       refine Ops_call _ _ rfl rfl (EO.fn rfl Try.func19 rfl rfl (Evs.cons rfl Evs.nil)) (QC.cc (c_spec_DrawCyclicSquare (l0 := l0) (A0 := A0) (c0 := c0) hr31 (RdS.le hs0 (Le.under (Le.under (Le.under (Le.under (Le.under (Le.under (Le.under (Le.under (Le.refl _) hb1) hb2) hb3) hb7) hb8) hb9) hb10) hb11))) ?_)
                       refine Ops_quiet _ rfl rfl (QO.assign rfl rfl) ?_
                       refine Ops_nil ?_
                       refine thenA_n ?_
                       refine wpA_seq ?_
                       refine wpA_region ?_
                       refine Ops_quiet _ rfl rfl (QO.move rfl rfl) ?_
                       have hq := Option.bind_eq_some_iff.1 hm; clear hm; obtain ⟨r32, hr32, hm⟩ := hq
                       refine Ops_call _ _ rfl rfl (EO.fn rfl Try.func20 rfl rfl (Evs.cons rfl Evs.nil)) (QC.cc (c_impl_CyclicSquare hr32 ) ?_)
                       refine Ops_quiet _ rfl rfl (QO.move rfl rfl) ?_
                       refine Ops_quiet _ rfl rfl (QO.extract rfl rfl rfl) ?_
                       refine Ops_quiet _ rfl rfl (QO.extract rfl rfl rfl) ?_
                       refine Ops_loud rfl (LO.alloc rfl zr37 rfl (fun b16 hb16 => ?_))
                       simp only [upd_noneA] at hb16
                       obtain ⟨n_b16_b11, n_b16_b10, n_b16_b9, n_b16_b8, n_b16_b7, n_b16_b3, n_b16_b2, n_b16_b1, hb16⟩ := hb16
                       refine Ops_loud rfl (LO.storeAll (cs := sqC r32.1) rfl sz37 rfl rfl (sqC_one _) (sqC_length _) (upd_same _ _ _) (sqC_length _) Chg.here rfl ?_)
                       refine Ops_quiet _ rfl rfl (QO.assign rfl rfl) ?_
                       refine Ops_nil ?_
                       refine thenA_n ?_
                       refine wpA_weaken (show Abs.Sub _ [(0, .slice A0 l0.length c0), (31, .int .i64 r31), (32, .pointer (some ⟨b16, 0, none⟩)), (33, .int .i64 r32.2)] from (Sub.cons rfl (Sub.cons rfl (Sub.cons rfl (Sub.cons rfl (Sub.nil)))))).ok (Le.refl _) ?_
                       refine wpA_seq ?_
                       refine wpA_region ?_
                       refine Ops_quiet _ rfl rfl (QO.move rfl rfl) ?_
                       have hq := Option.bind_eq_some_iff.1 hm; clear hm; obtain ⟨r33, hr33, hm⟩ := hq
                       refine Ops_call _ _ rfl rfl (EO.fn rfl Try.func21 rfl rfl (Evs.cons rfl Evs.nil)) (QC.cc (c_spec_CyclicSquare hr33 ) ?_)
                       refine Ops_quiet _ rfl rfl (QO.move rfl rfl) ?_
                       refine Ops_quiet _ rfl rfl (QO.extract rfl rfl rfl) ?_
                       refine Ops_quiet _ rfl rfl (QO.extract rfl rfl rfl) ?_
                       refine Ops_loud rfl (LO.alloc rfl zr37 rfl (fun b17 hb17 => ?_))
                       simp only [upd_noneA] at hb17
                       obtain ⟨n_b17_b16, n_b17_b11, n_b17_b10, n_b17_b9, n_b17_b8, n_b17_b7, n_b17_b3, n_b17_b2, n_b17_b1, hb17⟩ := hb17
                       refine Ops_loud rfl (LO.storeAll (cs := sqC r33.1) rfl sz37 rfl rfl (sqC_one _) (sqC_length _) (upd_same _ _ _) (sqC_length _) Chg.here rfl ?_)
                       refine Ops_quiet _ rfl rfl (QO.assign rfl rfl) ?_
                       refine Ops_nil ?_
                       refine thenA_n ?_
                       refine wpA_seq ?_
                       refine wpA_region ?_
                       refine Ops_quiet _ rfl rfl (QO.move rfl rfl) ?_
                       have hq := Option.bind_eq_some_iff.1 hm; clear hm; obtain ⟨r34, hr34, hm⟩ := hq
                       refine Ops_call _ _ rfl rfl (EO.fn rfl Try.func22 rfl rfl (Evs.cons rfl Evs.nil)) (QC.cc (c_spec_DrawElementarySquare (l0 := l0) (A0 := A0) (c0 := c0) hr34 (RdS.le hs0 (Le.under (Le.under (Le.under (Le.under (Le.under (Le.under (Le.under (Le.under (Le.under (Le.under (Le.refl _) hb1) hb2) hb3) hb7) hb8) hb9) hb10) hb11) hb16) hb17))) ?_)
                       refine Ops_quiet _ rfl rfl (QO.assign rfl rfl) ?_
                       refine Ops_nil ?_
                       refine thenA_n ?_
                       refine wpA_seq ?_
                       refine wpA_region ?_
                       refine Ops_quiet _ rfl rfl (QO.move rfl rfl) ?_
                       have hq := Option.bind_eq_some_iff.1 hm; clear hm; obtain ⟨r35, hr35, hm⟩ := hq
                       refine Ops_call _ _ rfl rfl (EO.fn rfl Try.func23 rfl rfl (Evs.cons rfl Evs.nil)) (QC.cc (c_impl_ElementarySquare hr35 ) ?_)
                       refine Ops_quiet _ rfl rfl (QO.move rfl rfl) ?_
                       refine Ops_quiet _ rfl rfl (QO.extract rfl rfl rfl) ?_
                       refine Ops_quiet _ rfl rfl (QO.extract rfl rfl rfl) ?_
                       refine Ops_loud rfl (LO.alloc rfl zr37 rfl (fun b18 hb18 => ?_))
                       simp only [upd_noneA] at hb18
                       obtain ⟨n_b18_b17, n_b18_b16, n_b18_b11, n_b18_b10, n_b18_b9, n_b18_b8, n_b18_b7, n_b18_b3, n_b18_b2, n_b18_b1, hb18⟩ := hb18
                       refine Ops_loud rfl (LO.storeAll (cs := sqC r35.1) rfl sz37 rfl rfl (sqC_one _) (sqC_length _) (upd_same _ _ _) (sqC_length _) Chg.here rfl ?_)
                       refine Ops_quiet _ rfl rfl (QO.assign rfl rfl) ?_
                       refine Ops_nil ?_
                       refine thenA_n ?_
                       refine wpA_seq ?_
                       refine wpA_region ?_
                       refine Ops_quiet _ rfl rfl (QO.move rfl rfl) ?_
                       have hq := Option.bind_eq_some_iff.1 hm; clear hm; obtain ⟨r36, hr36, hm⟩ := hq
                       refine Ops_call _ _ rfl rfl (EO.fn rfl Try.func24 rfl rfl (Evs.cons rfl Evs.nil)) (QC.cc (c_spec_ElementarySquare hr36 ) ?_)
                       refine Ops_quiet _ rfl rfl (QO.move rfl rfl) ?_
                       refine Ops_quiet _ rfl rfl (QO.extract rfl rfl rfl) ?_
                       refine Ops_quiet _ rfl rfl (QO.extract rfl rfl rfl) ?_
                       refine Ops_loud rfl (LO.alloc rfl zr37 rfl (fun b19 hb19 => ?_))
                       simp only [upd_noneA] at hb19
                       obtain ⟨n_b19_b18, n_b19_b17, n_b19_b16, n_b19_b11, n_b19_b10, n_b19_b9, n_b19_b8, n_b19_b7, n_b19_b3, n_b19_b2, n_b19_b1, hb19⟩ := hb19
                       refine Ops_loud rfl (LO.storeAll (cs := sqC r36.1) rfl sz37 rfl rfl (sqC_one _) (sqC_length _) (upd_same _ _ _) (sqC_length _) Chg.here rfl ?_)
                       refine Ops_quiet _ rfl rfl (QO.assign rfl rfl) ?_
                       refine Ops_nil ?_
                       refine thenA_n ?_
                       refine wpA_seq ?_
                       refine wpA_region ?_
                       refine Ops_quiet _ rfl rfl (QO.move rfl rfl) ?_
                       refine Ops_quiet _ rfl rfl (QO.move rfl rfl) ?_
                       refine Ops_quiet _ rfl rfl (QO.bin rfl rfl rfl rfl) ?_
                       refine Ops_quiet _ rfl rfl (QO.move rfl rfl) ?_
                       refine Ops_case 262 rfl (fun g34 => ?_) (fun g34 => ?_)
                       ·replace hm := cond_t hm g34
                        refine Ops_quiet _ rfl rfl (QO.loadRow (cs := sqC r32.1) (hr := (rdAll ((upd_ne _ _ n_b19_b16.ne.symm).trans ((upd_ne _ _ n_b18_b16.ne.symm).trans ((upd_ne _ _ n_b17_b16.ne.symm).trans (upd_same _ _ _)))))) rfl sz37 rfl rfl (sqC_length _)) ?_
                        refine Ops_quiet _ rfl rfl (QO.loadRow (cs := sqC r33.1) (hr := (rdAll ((upd_ne _ _ n_b19_b17.ne.symm).trans ((upd_ne _ _ n_b18_b17.ne.symm).trans (upd_same _ _ _))))) rfl sz37 rfl rfl (sqC_length _)) ?_
                        refine Ops_quiet _ rfl rfl (QO.agg_eql rfl rfl rfl eg37 (eqv37 _ _) rfl) ?_
                        refine Ops_quiet _ rfl rfl (QO.pick_t rfl rfl rfl) ?_
                        refine Ops_quiet _ rfl rfl (QO.move rfl rfl) ?_
                        refine Ops_case 267 rfl (fun g35 => ?_) (fun g35 => ?_)
                        ·replace hm := cond_t hm g35
                         refine Ops_quiet _ rfl rfl (QO.move rfl rfl) ?_
                         refine Ops_quiet _ rfl rfl (QO.bin rfl rfl rfl rfl) ?_
                         refine Ops_quiet _ rfl rfl (QO.move rfl rfl) ?_
                         refine Ops_case 270 rfl (fun g36 => ?_) (fun g36 => ?_)
                         ·replace hm := cond_t hm g36
                          refine Ops_skip rfl rfl ?_
                          refine Ops_skip rfl rfl ?_
                          refine Ops_quiet _ rfl rfl (QO.pick_t rfl rfl rfl) ?_
                          refine Ops_quiet _ rfl rfl (QO.pick_t rfl rfl rfl) ?_
                          refine Ops_quiet _ rfl rfl (QO.move rfl rfl) ?_
                          refine Ops_quiet _ rfl rfl (QO.move rfl rfl) ?_
                          refine Ops_quiet _ rfl rfl (QO.move rfl rfl) ?_
                          refine Ops_quiet _ rfl rfl (QO.bin rfl rfl rfl rfl) ?_
                          refine Ops_quiet _ rfl rfl (QO.pick_t rfl rfl rfl) ?_
                          refine Ops_quiet _ rfl rfl (QO.move rfl rfl) ?_
                          refine Ops_case 280 rfl (fun g37 => ?_) (fun g37 => ?_)
                          ·replace hm := cond_t hm g37
                           refine Ops_quiet _ rfl rfl (QO.loadRow (cs := sqC r35.1) (hr := (rdAll ((upd_ne _ _ n_b19_b18.ne.symm).trans (upd_same _ _ _)))) rfl sz37 rfl rfl (sqC_length _)) ?_
                           refine Ops_quiet _ rfl rfl (QO.loadRow (cs := sqC r36.1) (hr := (rdAll (upd_same _ _ _))) rfl sz37 rfl rfl (sqC_length _)) ?_
                           refine Ops_quiet _ rfl rfl (QO.agg_eql rfl rfl rfl eg37 (eqv37 _ _) rfl) ?_
                           refine Ops_quiet _ rfl rfl (QO.pick_t rfl rfl rfl) ?_
                           refine Ops_quiet _ rfl rfl (QO.move rfl rfl) ?_
                           refine Ops_case 285 rfl (fun g38 => ?_) (fun g38 => ?_)
                           ·replace hm := cond_t hm g38
                            refine Ops_quiet _ rfl rfl (QO.move rfl rfl) ?_
                            refine Ops_quiet _ rfl rfl (QO.bin rfl rfl rfl rfl) ?_
                            refine Ops_quiet _ rfl rfl (QO.move rfl rfl) ?_
                            refine Ops_case 288 rfl (fun g39 => ?_) (fun g39 => ?_)
                            ·replace hm := cond_t hm g39
                             refine Ops_skip rfl rfl ?_
                             refine Ops_skip rfl rfl ?_
                             refine Ops_quiet _ rfl rfl (QO.pick_t rfl rfl rfl) ?_
                             refine Ops_quiet _ rfl rfl (QO.pick_t rfl rfl rfl) ?_
                             refine Ops_quiet _ rfl rfl (QO.assign rfl rfl) ?_
                             refine Ops_nil ?_
                             refine thenA_n ?_
                             refine wpA_ret ?_
                             obtain rfl := Option.some.inj hm
                             exact retA_r (h2 := h) (Res.one rfl (rfl)) (Le.under (Le.under (Le.under (Le.under (Le.under (Le.under (Le.under (Le.under (Le.under (Le.under (Le.under (Le.under (Le.refl _) hb1) hb2) hb3) hb7) hb8) hb9) hb10) hb11) hb16) hb17) hb18) hb19) ⟨rfl, rfl⟩
                            ·replace hm := cond_f hm g39
                             refine Ops_quiet _ rfl rfl (QO.loadRow (cs := sqC r35.1) (hr := (rdAll ((upd_ne _ _ n_b19_b18.ne.symm).trans (upd_same _ _ _)))) rfl sz37 rfl rfl (sqC_length _)) ?_
                             have hq := Option.bind_eq_some_iff.1 hm; clear hm; obtain ⟨r37, hr37, hm⟩ := hq
                             refine Ops_call _ _ rfl rfl (EO.fn rfl Try.func18 rfl rfl (Evs.cons rfl Evs.nil)) (QC.cc (c_impl_IsGroup hr37 ) ?_)
                             refine Ops_quiet _ rfl rfl (QO.pick_f rfl rfl rfl) ?_
                             refine Ops_quiet _ rfl rfl (QO.pick_t rfl rfl rfl) ?_
                             refine Ops_quiet _ rfl rfl (QO.assign rfl rfl) ?_
                             refine Ops_nil ?_
                             refine thenA_n ?_
                             refine wpA_ret ?_
                             obtain rfl := Option.some.inj hm
                             exact retA_r (h2 := h) (Res.one rfl (rfl)) (Le.under (Le.under (Le.under (Le.under (Le.under (Le.under (Le.under (Le.under (Le.under (Le.under (Le.under (Le.under (Le.refl _) hb1) hb2) hb3) hb7) hb8) hb9) hb10) hb11) hb16) hb17) hb18) hb19) ⟨rfl, rfl⟩
                           ·replace hm := cond_f hm g38
                            refine Ops_skip rfl rfl ?_
                            refine Ops_skip rfl rfl ?_
                            refine Ops_skip rfl rfl ?_
                            refine Ops_skip rfl rfl ?_
                            refine Ops_skip rfl rfl ?_
                            refine Ops_skip rfl rfl ?_
                            refine Ops_quiet _ rfl rfl (QO.pick_f rfl rfl rfl) ?_
                            refine Ops_quiet _ rfl rfl (QO.assign rfl rfl) ?_
                            refine Ops_nil ?_
                            refine thenA_n ?_
                            refine wpA_ret ?_
                            obtain rfl := Option.some.inj hm
                            exact retA_r (h2 := h) (Res.one rfl (rfl)) (Le.under (Le.under (Le.under (Le.under (Le.under (Le.under (Le.under (Le.under (Le.under (Le.under (Le.under (Le.under (Le.refl _) hb1) hb2) hb3) hb7) hb8) hb9) hb10) hb11) hb16) hb17) hb18) hb19) ⟨rfl, rfl⟩
                          ·replace hm := cond_f hm g37
                           refine Ops_skip rfl rfl ?_
                           refine Ops_skip rfl rfl ?_
                           refine Ops_skip rfl rfl ?_
                           refine Ops_quiet _ rfl rfl (QO.pick_f rfl rfl rfl) ?_
                           refine Ops_quiet _ rfl rfl (QO.move rfl rfl) ?_
                           refine Ops_skip rfl rfl ?_
                           refine Ops_skip rfl rfl ?_
                           refine Ops_skip rfl rfl ?_
                           refine Ops_skip rfl rfl ?_
                           refine Ops_skip rfl rfl ?_
                           refine Ops_skip rfl rfl ?_
                           refine Ops_quiet _ rfl rfl (QO.pick_f rfl rfl rfl) ?_
                           refine Ops_quiet _ rfl rfl (QO.assign rfl rfl) ?_
                           refine Ops_nil ?_
                           refine thenA_n ?_
                           refine wpA_ret ?_
                           obtain rfl := Option.some.inj hm
                           exact retA_r (h2 := h) (Res.one rfl (rfl)) (Le.under (Le.under (Le.under (Le.under (Le.under (Le.under (Le.under (Le.under (Le.under (Le.under (Le.under (Le.under (Le.refl _) hb1) hb2) hb3) hb7) hb8) hb9) hb10) hb11) hb16) hb17) hb18) hb19) ⟨rfl, rfl⟩
                         ·replace hm := cond_f hm g36
                          refine Ops_quiet _ rfl rfl (QO.loadRow (cs := sqC r32.1) (hr := (rdAll ((upd_ne _ _ n_b19_b16.ne.symm).trans ((upd_ne _ _ n_b18_b16.ne.symm).trans ((upd_ne _ _ n_b17_b16.ne.symm).trans (upd_same _ _ _)))))) rfl sz37 rfl rfl (sqC_length _)) ?_
                          have hq := Option.bind_eq_some_iff.1 hm; clear hm; obtain ⟨r38, hr38, hm⟩ := hq
                          refine Ops_call _ _ rfl rfl (EO.fn rfl Try.func18 rfl rfl (Evs.cons rfl Evs.nil)) (QC.cc (c_impl_IsGroup hr38 ) ?_)
                          refine Ops_quiet _ rfl rfl (QO.pick_f rfl rfl rfl) ?_
                          refine Ops_quiet _ rfl rfl (QO.pick_t rfl rfl rfl) ?_
                          refine Ops_quiet _ rfl rfl (QO.move rfl rfl) ?_
                          refine Ops_case 275 rfl (fun g40 => ?_) (fun g40 => ?_)
                          ·replace hm := cond_t hm g40
                           refine Ops_quiet _ rfl rfl (QO.move rfl rfl) ?_
                           refine Ops_quiet _ rfl rfl (QO.move rfl rfl) ?_
                           refine Ops_quiet _ rfl rfl (QO.bin rfl rfl rfl rfl) ?_
                           refine Ops_quiet _ rfl rfl (QO.pick_t rfl rfl rfl) ?_
                           refine Ops_quiet _ rfl rfl (QO.move rfl rfl) ?_
                           refine Ops_case 280 rfl (fun g41 => ?_) (fun g41 => ?_)
                           ·replace hm := cond_t hm g41
                            refine Ops_quiet _ rfl rfl (QO.loadRow (cs := sqC r35.1) (hr := (rdAll ((upd_ne _ _ n_b19_b18.ne.symm).trans (upd_same _ _ _)))) rfl sz37 rfl rfl (sqC_length _)) ?_
                            refine Ops_quiet _ rfl rfl (QO.loadRow (cs := sqC r36.1) (hr := (rdAll (upd_same _ _ _))) rfl sz37 rfl rfl (sqC_length _)) ?_
                            refine Ops_quiet _ rfl rfl (QO.agg_eql rfl rfl rfl eg37 (eqv37 _ _) rfl) ?_
                            refine Ops_quiet _ rfl rfl (QO.pick_t rfl rfl rfl) ?_
                            refine Ops_quiet _ rfl rfl (QO.move rfl rfl) ?_
                            refine Ops_case 285 rfl (fun g42 => ?_) (fun g42 => ?_)
                            ·replace hm := cond_t hm g42
                             refine Ops_quiet _ rfl rfl (QO.move rfl rfl) ?_
                             refine Ops_quiet _ rfl rfl (QO.bin rfl rfl rfl rfl) ?_
                             refine Ops_quiet _ rfl rfl (QO.move rfl rfl) ?_
                             refine Ops_case 288 rfl (fun g43 => ?_) (fun g43 => ?_)
                             ·replace hm := cond_t hm g43
                              refine Ops_skip rfl rfl ?_
                              refine Ops_skip rfl rfl ?_
                              refine Ops_quiet _ rfl rfl (QO.pick_t rfl rfl rfl) ?_
                              refine Ops_quiet _ rfl rfl (QO.pick_t rfl rfl rfl) ?_
                              refine Ops_quiet _ rfl rfl (QO.assign rfl rfl) ?_
                              refine Ops_nil ?_
                              refine thenA_n ?_
                              refine wpA_ret ?_
                              obtain rfl := Option.some.inj hm
                              exact retA_r (h2 := h) (Res.one rfl (rfl)) (Le.under (Le.under (Le.under (Le.under (Le.under (Le.under (Le.under (Le.under (Le.under (Le.under (Le.under (Le.under (Le.refl _) hb1) hb2) hb3) hb7) hb8) hb9) hb10) hb11) hb16) hb17) hb18) hb19) ⟨rfl, rfl⟩
                             ·replace hm := cond_f hm g43
                              refine Ops_quiet _ rfl rfl (QO.loadRow (cs := sqC r35.1) (hr := (rdAll ((upd_ne _ _ n_b19_b18.ne.symm).trans (upd_same _ _ _)))) rfl sz37 rfl rfl (sqC_length _)) ?_
                              have hq := Option.bind_eq_some_iff.1 hm; clear hm; obtain ⟨r39, hr39, hm⟩ := hq
                              refine Ops_call _ _ rfl rfl (EO.fn rfl Try.func18 rfl rfl (Evs.cons rfl Evs.nil)) (QC.cc (c_impl_IsGroup hr39 ) ?_)
                              refine Ops_quiet _ rfl rfl (QO.pick_f rfl rfl rfl) ?_
                              refine Ops_quiet _ rfl rfl (QO.pick_t rfl rfl rfl) ?_
                              refine Ops_quiet _ rfl rfl (QO.assign rfl rfl) ?_
                              refine Ops_nil ?_
                              refine thenA_n ?_
                              refine wpA_ret ?_
                              obtain rfl := Option.some.inj hm
                              exact retA_r (h2 := h) (Res.one rfl (rfl)) (Le.under (Le.under (Le.under (Le.under (Le.under (Le.under (Le.under (Le.under (Le.under (Le.under (Le.under (Le.under (Le.refl _) hb1) hb2) hb3) hb7) hb8) hb9) hb10) hb11) hb16) hb17) hb18) hb19) ⟨rfl, rfl⟩
                            ·replace hm := cond_f hm g42
                             refine Ops_skip rfl rfl ?_
                             refine Ops_skip rfl rfl ?_
                             refine Ops_skip rfl rfl ?_
                             refine Ops_skip rfl rfl ?_
                             refine Ops_skip rfl rfl ?_
                             refine Ops_skip rfl rfl ?_
                             refine Ops_quiet _ rfl rfl (QO.pick_f rfl rfl rfl) ?_
                             refine Ops_quiet _ rfl rfl (QO.assign rfl rfl) ?_
                             refine Ops_nil ?_
                             refine thenA_n ?_
                             refine wpA_ret ?_
                             obtain rfl := Option.some.inj hm
                             exact retA_r (h2 := h) (Res.one rfl (rfl)) (Le.under (Le.under (Le.under (Le.under (Le.under (Le.under (Le.under (Le.under (Le.under (Le.under (Le.under (Le.under (Le.refl _) hb1) hb2) hb3) hb7) hb8) hb9) hb10) hb11) hb16) hb17) hb18) hb19) ⟨rfl, rfl⟩
                           ·replace hm := cond_f hm g41
                            refine Ops_skip rfl rfl ?_
                            refine Ops_skip rfl rfl ?_
                            refine Ops_skip rfl rfl ?_
                            refine Ops_quiet _ rfl rfl (QO.pick_f rfl rfl rfl) ?_
                            refine Ops_quiet _ rfl rfl (QO.move rfl rfl) ?_
                            refine Ops_skip rfl rfl ?_
                            refine Ops_skip rfl rfl ?_
                            refine Ops_skip rfl rfl ?_
                            refine Ops_skip rfl rfl ?_
                            refine Ops_skip rfl rfl ?_
                            refine Ops_skip rfl rfl ?_
                            refine Ops_quiet _ rfl rfl (QO.pick_f rfl rfl rfl) ?_
                            refine Ops_quiet _ rfl rfl (QO.assign rfl rfl) ?_
                            refine Ops_nil ?_
                            refine thenA_n ?_
                            refine wpA_ret ?_
                            obtain rfl := Option.some.inj hm
                            exact retA_r (h2 := h) (Res.one rfl (rfl)) (Le.under (Le.under (Le.under (Le.under (Le.under (Le.under (Le.under (Le.under (Le.under (Le.under (Le.under (Le.under (Le.refl _) hb1) hb2) hb3) hb7) hb8) hb9) hb10) hb11) hb16) hb17) hb18) hb19) ⟨rfl, rfl⟩
                          ·replace hm := cond_f hm g40
                           refine Ops_skip rfl rfl ?_
                           refine Ops_skip rfl rfl ?_
                           refine Ops_skip rfl rfl ?_
                           refine Ops_quiet _ rfl rfl (QO.pick_f rfl rfl rfl) ?_
                           refine Ops_quiet _ rfl rfl (QO.move rfl rfl) ?_
                           refine Ops_skip rfl rfl ?_
                           refine Ops_skip rfl rfl ?_
                           refine Ops_skip rfl rfl ?_
                           refine Ops_quiet _ rfl rfl (QO.pick_f rfl rfl rfl) ?_
                           refine Ops_quiet _ rfl rfl (QO.move rfl rfl) ?_
                           refine Ops_skip rfl rfl ?_
                           refine Ops_skip rfl rfl ?_
                           refine Ops_skip rfl rfl ?_
                           refine Ops_skip rfl rfl ?_
                           refine Ops_skip rfl rfl ?_
                           refine Ops_skip rfl rfl ?_
                           refine Ops_quiet _ rfl rfl (QO.pick_f rfl rfl rfl) ?_
                           refine Ops_quiet _ rfl rfl (QO.assign rfl rfl) ?_
                           refine Ops_nil ?_
                           refine thenA_n ?_
                           refine wpA_ret ?_
                           obtain rfl := Option.some.inj hm
                           exact retA_r (h2 := h) (Res.one rfl (rfl)) (Le.under (Le.under (Le.under (Le.under (Le.under (Le.under (Le.under (Le.under (Le.under (Le.under (Le.under (Le.under (Le.refl _) hb1) hb2) hb3) hb7) hb8) hb9) hb10) hb11) hb16) hb17) hb18) hb19) ⟨rfl, rfl⟩
                        ·replace hm := cond_f hm g35
                         refine Ops_skip rfl rfl ?_
                         refine Ops_skip rfl rfl ?_
                         refine Ops_skip rfl rfl ?_
                         refine Ops_skip rfl rfl ?_
                         refine Ops_skip rfl rfl ?_
                         refine Ops_skip rfl rfl ?_
                         refine Ops_quiet _ rfl rfl (QO.pick_f rfl rfl rfl) ?_
                         refine Ops_quiet _ rfl rfl (QO.move rfl rfl) ?_
                         refine Ops_skip rfl rfl ?_
                         refine Ops_skip rfl rfl ?_
                         refine Ops_skip rfl rfl ?_
                         refine Ops_quiet _ rfl rfl (QO.pick_f rfl rfl rfl) ?_
                         refine Ops_quiet _ rfl rfl (QO.move rfl rfl) ?_
                         refine Ops_skip rfl rfl ?_
                         refine Ops_skip rfl rfl ?_
                         refine Ops_skip rfl rfl ?_
                         refine Ops_quiet _ rfl rfl (QO.pick_f rfl rfl rfl) ?_
                         refine Ops_quiet _ rfl rfl (QO.move rfl rfl) ?_
                         refine Ops_skip rfl rfl ?_
                         refine Ops_skip rfl rfl ?_
                         refine Ops_skip rfl rfl ?_
                         refine Ops_skip rfl rfl ?_
                         refine Ops_skip rfl rfl ?_
                         refine Ops_skip rfl rfl ?_
                         refine Ops_quiet _ rfl rfl (QO.pick_f rfl rfl rfl) ?_
                         refine Ops_quiet _ rfl rfl (QO.assign rfl rfl) ?_
                         refine Ops_nil ?_
                         refine thenA_n ?_
                         refine wpA_ret ?_
                         obtain rfl := Option.some.inj hm
                         exact retA_r (h2 := h) (Res.one rfl (rfl)) (Le.under (Le.under (Le.under (Le.under (Le.under (Le.under (Le.under (Le.under (Le.under (Le.under (Le.under (Le.under (Le.refl _) hb1) hb2) hb3) hb7) hb8) hb9) hb10) hb11) hb16) hb17) hb18) hb19) ⟨rfl, rfl⟩
                       ·replace hm := cond_f hm g34
                        refine Ops_skip rfl rfl ?_
                        refine Ops_skip rfl rfl ?_
                        refine Ops_skip rfl rfl ?_
                        refine Ops_quiet _ rfl rfl (QO.pick_f rfl rfl rfl) ?_
                        refine Ops_quiet _ rfl rfl (QO.move rfl rfl) ?_
                        refine Ops_skip rfl rfl ?_
                        refine Ops_skip rfl rfl ?_
                        refine Ops_skip rfl rfl ?_
                        refine Ops_skip rfl rfl ?_
                        refine Ops_skip rfl rfl ?_
                        refine Ops_skip rfl rfl ?_
                        refine Ops_quiet _ rfl rfl (QO.pick_f rfl rfl rfl) ?_
                        refine Ops_quiet _ rfl rfl (QO.move rfl rfl) ?_
                        refine Ops_skip rfl rfl ?_
                        refine Ops_skip rfl rfl ?_
                        refine Ops_skip rfl rfl ?_
                        refine Ops_quiet _ rfl rfl (QO.pick_f rfl rfl rfl) ?_
                        refine Ops_quiet _ rfl rfl (QO.move rfl rfl) ?_
                        refine Ops_skip rfl rfl ?_
                        refine Ops_skip rfl rfl ?_
                        refine Ops_skip rfl rfl ?_
                        refine Ops_quiet _ rfl rfl (QO.pick_f rfl rfl rfl) ?_
                        refine Ops_quiet _ rfl rfl (QO.move rfl rfl) ?_
                        refine Ops_skip rfl rfl ?_
                        refine Ops_skip rfl rfl ?_
                        refine Ops_skip rfl rfl ?_
                        refine Ops_skip rfl rfl ?_
                        refine Ops_skip rfl rfl ?_
                        refine Ops_skip rfl rfl ?_
                        refine Ops_quiet _ rfl rfl (QO.pick_f rfl rfl rfl) ?_
                        refine Ops_quiet _ rfl rfl (QO.assign rfl rfl) ?_
                        refine Ops_nil ?_
                        refine thenA_n ?_
                        refine wpA_ret ?_
                        obtain rfl := Option.some.inj hm
                        exact retA_r (h2 := h) (Res.one rfl (rfl)) (Le.under (Le.under (Le.under (Le.under (Le.under (Le.under (Le.under (Le.under (Le.under (Le.under (Le.under (Le.under (Le.refl _) hb1) hb2) hb3) hb7) hb8) hb9) hb10) hb11) hb16) hb17) hb18) hb19) ⟨rfl, rfl⟩
                    ·replace hm := cond_f hm g20
                     refine QOps.skip rfl rfl ?_
                     refine QOps.skip rfl rfl ?_
                     refine QOps.skip rfl rfl ?_
                     refine QOps.skip rfl rfl ?_
                     refine QOps.skip rfl rfl ?_
                     refine QOps.skip rfl rfl ?_
                     refine QOps.skip rfl rfl ?_
                     refine QOps.skip rfl rfl ?_
                     refine QOps.skip rfl rfl ?_
                     refine QOps.skip rfl rfl ?_
                     refine QOps.skip rfl rfl ?_
                     refine QOps.skip rfl rfl ?_
                     refine QOps.skip rfl rfl ?_
                     refine QOps.skip rfl rfl ?_
                     refine QOps.quiet _ rfl rfl (QO.pick_f rfl rfl rfl) ?_
                     refine QOps.nil ?_
                     refine thenA_n ?_
                     refine wpA_cond_f rfl ?_
                     refine wpA_skip ?_
                     refine thenA_n ?_
                     refine wpA_seq ?_
                     refine wpA_region ?_
                     refine Ops_quiet _ rfl rfl (QO.move rfl rfl) ?_
                     have hq := Option.bind_eq_some_iff.1 hm; clear hm; obtain ⟨r40, hr40, hm⟩ := hq
                     refine Ops_call _ _ rfl rfl (EO.fn rfl Try.func19 rfl rfl (Evs.cons rfl Evs.nil)) (QC.cc (c_spec_DrawCyclicSquare (l0 := l0) (A0 := A0) (c0 := c0) hr40 (RdS.le hs0 (Le.under (Le.under (Le.under (Le.under (Le.under (Le.under (Le.under (Le.under (Le.refl _) hb1) hb2) hb3) hb7) hb8) hb9) hb10) hb11))) ?_)
                     refine Ops_quiet _ rfl rfl (QO.assign rfl rfl) ?_
                     refine Ops_nil ?_
                     refine thenA_n ?_
                     refine wpA_seq ?_
                     refine wpA_region ?_
                     refine Ops_quiet _ rfl rfl (QO.move rfl rfl) ?_
                     have hq := Option.bind_eq_some_iff.1 hm; clear hm; obtain ⟨r41, hr41, hm⟩ := hq
                     refine Ops_call _ _ rfl rfl (EO.fn rfl Try.func20 rfl rfl (Evs.cons rfl Evs.nil)) (QC.cc (c_impl_CyclicSquare hr41 ) ?_)
                     refine Ops_quiet _ rfl rfl (QO.move rfl rfl) ?_
                     refine Ops_quiet _ rfl rfl (QO.extract rfl rfl rfl) ?_
                     refine Ops_quiet _ rfl rfl (QO.extract rfl rfl rfl) ?_
                     refine Ops_loud rfl (LO.alloc rfl zr37 rfl (fun b20 hb20 => ?_))
                     simp only [upd_noneA] at hb20
                     obtain ⟨n_b20_b11, n_b20_b10, n_b20_b9, n_b20_b8, n_b20_b7, n_b20_b3, n_b20_b2, n_b20_b1, hb20⟩ := hb20
                     refine Ops_loud rfl (LO.storeAll (cs := sqC r41.1) rfl sz37 rfl rfl (sqC_one _) (sqC_length _) (upd_same _ _ _) (sqC_length _) Chg.here rfl ?_)
                     refine Ops_quiet _ rfl rfl (QO.assign rfl rfl) ?_
                     refine Ops_nil ?_
                     refine thenA_n ?_
                     refine wpA_weaken (show Abs.Sub _ [(0, .slice A0 l0.length c0), (31, .int .i64 r40), (32, .pointer (some ⟨b20, 0, none⟩)), (33, .int .i64 r41.2)] from (Sub.cons rfl (Sub.cons rfl (Sub.cons rfl (Sub.cons rfl (Sub.nil)))))).ok (Le.refl _) ?_
                     refine wpA_seq ?_
                     refine wpA_region ?_
                     refine Ops_quiet _ rfl rfl (QO.move rfl rfl) ?_
                     have hq := Option.bind_eq_some_iff.1 hm; clear hm; obtain ⟨r42, hr42, hm⟩ := hq
                     refine Ops_call _ _ rfl rfl (EO.fn rfl Try.func21 rfl rfl (Evs.cons rfl Evs.nil)) (QC.cc (c_spec_CyclicSquare hr42 ) ?_)
                     refine Ops_quiet _ rfl rfl (QO.move rfl rfl) ?_
                     refine Ops_quiet _ rfl rfl (QO.extract rfl rfl rfl) ?_
                     refine Ops_quiet _ rfl rfl (QO.extract rfl rfl rfl) ?_
                     refine Ops_loud rfl (LO.alloc rfl zr37 rfl (fun b21 hb21 => ?_))
                     simp only [upd_noneA] at hb21
                     obtain ⟨n_b21_b20, n_b21_b11, n_b21_b10, n_b21_b9, n_b21_b8, n_b21_b7, n_b21_b3, n_b21_b2, n_b21_b1, hb21⟩ := hb21
                     refine Ops_loud rfl (LO.storeAll (cs := sqC r42.1) rfl sz37 rfl rfl (sqC_one _) (sqC_length _) (upd_same _ _ _) (sqC_length _) Chg.here rfl ?_)
                     refine Ops_quiet _ rfl rfl (QO.assign rfl rfl) ?_
                     refine Ops_nil ?_
                     refine thenA_n ?_
                     refine wpA_seq ?_
                     refine wpA_region ?_
                     refine Ops_quiet _ rfl rfl (QO.move rfl rfl) ?_
                     have hq := Option.bind_eq_some_iff.1 hm; clear hm; obtain ⟨r43, hr43, hm⟩ := hq
                     refine Ops_call _ _ rfl rfl (EO.fn rfl Try.func22 rfl rfl (Evs.cons rfl Evs.nil)) (QC.cc (c_spec_DrawElementarySquare (l0 := l0) (A0 := A0) (c0 := c0) hr43 (RdS.le hs0 (Le.under (Le.under (Le.under (Le.under (Le.under (Le.under (Le.under (Le.under (Le.under (Le.under (Le.refl _) hb1) hb2) hb3) hb7) hb8) hb9) hb10) hb11) hb20) hb21))) ?_)
                     refine Ops_quiet _ rfl rfl (QO.assign rfl rfl) ?_
                     refine Ops_nil ?_
                     refine thenA_n ?_
                     refine wpA_seq ?_
                     refine wpA_region ?_
                     refine Ops_quiet _ rfl rfl (QO.move rfl rfl) ?_
                     have hq := Option.bind_eq_some_iff.1 hm; clear hm; obtain ⟨r44, hr44, hm⟩ := hq
                     refine Ops_call _ _ rfl rfl (EO.fn rfl Try.func23 rfl rfl (Evs.cons rfl Evs.nil)) (QC.cc (c_impl_ElementarySquare hr44 ) ?_)
                     refine Ops_quiet _ rfl rfl (QO.move rfl rfl) ?_
                     refine Ops_quiet _ rfl rfl (QO.extract rfl rfl rfl) ?_
                     refine Ops_quiet _ rfl rfl (QO.extract rfl rfl rfl) ?_
                     refine Ops_loud rfl (LO.alloc rfl zr37 rfl (fun b22 hb22 => ?_))
                     simp only [upd_noneA] at hb22
                     obtain ⟨n_b22_b21, n_b22_b20, n_b22_b11, n_b22_b10, n_b22_b9, n_b22_b8, n_b22_b7, n_b22_b3, n_b22_b2, n_b22_b1, hb22⟩ := hb22
                     refine Ops_loud rfl (LO.storeAll (cs := sqC r44.1) rfl sz37 rfl rfl (sqC_one _) (sqC_length _) (upd_same _ _ _) (sqC_length _) Chg.here rfl ?_)
                     refine Ops_quiet _ rfl rfl (QO.assign rfl rfl) ?_
                     refine Ops_nil ?_
                     refine thenA_n ?_
                     refine wpA_seq ?_
                     refine wpA_region ?_
                     refine Ops_quiet _ rfl rfl (QO.move rfl rfl) ?_
                     have hq := Option.bind_eq_some_iff.1 hm; clear hm; obtain ⟨r45, hr45, hm⟩ := hq
                     refine Ops_call _ _ rfl rfl (EO.fn rfl Try.func24 rfl rfl (Evs.cons rfl Evs.nil)) (QC.cc (c_spec_ElementarySquare hr45 ) ?_)
                     refine Ops_quiet _ rfl rfl (QO.move rfl rfl) ?_
                     refine Ops_quiet _ rfl rfl (QO.extract rfl rfl rfl) ?_
                     refine Ops_quiet _ rfl rfl (QO.extract rfl rfl rfl) ?_
                     refine Ops_loud rfl (LO.alloc rfl zr37 rfl (fun b23 hb23 => ?_))
                     simp only [upd_noneA] at hb23
                     obtain ⟨n_b23_b22, n_b23_b21, n_b23_b20, n_b23_b11, n_b23_b10, n_b23_b9, n_b23_b8, n_b23_b7, n_b23_b3, n_b23_b2, n_b23_b1, hb23⟩ := hb23
                     refine Ops_loud rfl (LO.storeAll (cs := sqC r45.1) rfl sz37 rfl rfl (sqC_one _) (sqC_length _) (upd_same _ _ _) (sqC_length _) Chg.here rfl ?_)
                     refine Ops_quiet _ rfl rfl (QO.assign rfl rfl) ?_
                     refine Ops_nil ?_
                     refine thenA_n ?_
                     refine wpA_seq ?_
                     refine wpA_region ?_
                     refine Ops_quiet _ rfl rfl (QO.move rfl rfl) ?_
                     refine Ops_quiet _ rfl rfl (QO.move rfl rfl) ?_
                     refine Ops_quiet _ rfl rfl (QO.bin rfl rfl rfl rfl) ?_
                     refine Ops_quiet _ rfl rfl (QO.move rfl rfl) ?_
                     refine Ops_case 262 rfl (fun g44 => ?_) (fun g44 => ?_)
                     ·replace hm := cond_t hm g44
                      refine Ops_quiet _ rfl rfl (QO.loadRow (cs := sqC r41.1) (hr := (rdAll ((upd_ne _ _ n_b23_b20.ne.symm).trans ((upd_ne _ _ n_b22_b20.ne.symm).trans ((upd_ne _ _ n_b21_b20.ne.symm).trans (upd_same _ _ _)))))) rfl sz37 rfl rfl (sqC_length _)) ?_
                      refine Ops_quiet _ rfl rfl (QO.loadRow (cs := sqC r42.1) (hr := (rdAll ((upd_ne _ _ n_b23_b21.ne.symm).trans ((upd_ne _ _ n_b22_b21.ne.symm).trans (upd_same _ _ _))))) rfl sz37 rfl rfl (sqC_length _)) ?_
                      refine Ops_quiet _ rfl rfl (QO.agg_eql rfl rfl rfl eg37 (eqv37 _ _) rfl) ?_
                      refine Ops_quiet _ rfl rfl (QO.pick_t rfl rfl rfl) ?_
                      refine Ops_quiet _ rfl rfl (QO.move rfl rfl) ?_
                      refine Ops_case 267 rfl (fun g45 => ?_) (fun g45 => ?_)
                      ·replace hm := cond_t hm g45
                       refine Ops_quiet _ rfl rfl (QO.move rfl rfl) ?_
                       refine Ops_quiet _ rfl rfl (QO.bin rfl rfl rfl rfl) ?_
                       refine Ops_quiet _ rfl rfl (QO.move rfl rfl) ?_
                       refine Ops_case 270 rfl (fun g46 => ?_) (fun g46 => ?_)
                       ·replace hm := cond_t hm g46
                        refine Ops_skip rfl rfl ?_
                        refine Ops_skip rfl rfl ?_
                        refine Ops_quiet _ rfl rfl (QO.pick_t rfl rfl rfl) ?_
                        refine Ops_quiet _ rfl rfl (QO.pick_t rfl rfl rfl) ?_
                        refine Ops_quiet _ rfl rfl (QO.move rfl rfl) ?_
                        refine Ops_quiet _ rfl rfl (QO.move rfl rfl) ?_
                        refine Ops_quiet _ rfl rfl (QO.move rfl rfl) ?_
                        refine Ops_quiet _ rfl rfl (QO.bin rfl rfl rfl rfl) ?_
                        refine Ops_quiet _ rfl rfl (QO.pick_t rfl rfl rfl) ?_
                        refine Ops_quiet _ rfl rfl (QO.move rfl rfl) ?_
                        refine Ops_case 280 rfl (fun g47 => ?_) (fun g47 => ?_)
                        ·replace hm := cond_t hm g47
                         refine Ops_quiet _ rfl rfl (QO.loadRow (cs := sqC r44.1) (hr := (rdAll ((upd_ne _ _ n_b23_b22.ne.symm).trans (upd_same _ _ _)))) rfl sz37 rfl rfl (sqC_length _)) ?_
                         refine Ops_quiet _ rfl rfl (QO.loadRow (cs := sqC r45.1) (hr := (rdAll (upd_same _ _ _))) rfl sz37 rfl rfl (sqC_length _)) ?_
                         refine Ops_quiet _ rfl rfl (QO.agg_eql rfl rfl rfl eg37 (eqv37 _ _) rfl) ?_
                         refine Ops_quiet _ rfl rfl (QO.pick_t rfl rfl rfl) ?_
                         refine Ops_quiet _ rfl rfl (QO.move rfl rfl) ?_
                         refine Ops_case 285 rfl (fun g48 => ?_) (fun g48 => ?_)
                         ·replace hm := cond_t hm g48
                          refine Ops_quiet _ rfl rfl (QO.move rfl rfl) ?_
                          refine Ops_quiet _ rfl rfl (QO.bin rfl rfl rfl rfl) ?_
                          refine Ops_quiet _ rfl rfl (QO.move rfl rfl) ?_
                          refine Ops_case 288 rfl (fun g49 => ?_) (fun g49 => ?_)
                          ·replace hm := cond_t hm g49
                           refine Ops_skip rfl rfl ?_
                           refine Ops_skip rfl rfl ?_
                           refine Ops_quiet _ rfl rfl (QO.pick_t rfl rfl rfl) ?_
                           refine Ops_quiet _ rfl rfl (QO.pick_t rfl rfl rfl) ?_
                           refine Ops_quiet _ rfl rfl (QO.assign rfl rfl) ?_
                           refine Ops_nil ?_
                           refine thenA_n ?_
                           refine wpA_ret ?_
                           obtain rfl := Option.some.inj hm
                           exact retA_r (h2 := h) (Res.one rfl (rfl)) (Le.under (Le.under (Le.under (Le.under (Le.under (Le.under (Le.under (Le.under (Le.under (Le.under (Le.under (Le.under (Le.refl _) hb1) hb2) hb3) hb7) hb8) hb9) hb10) hb11) hb20) hb21) hb22) hb23) ⟨rfl, rfl⟩
                          ·replace hm := cond_f hm g49
                           refine Ops_quiet _ rfl rfl (QO.loadRow (cs := sqC r44.1) (hr := (rdAll ((upd_ne _ _ n_b23_b22.ne.symm).trans (upd_same _ _ _)))) rfl sz37 rfl rfl (sqC_length _)) ?_
                           have hq := Option.bind_eq_some_iff.1 hm; clear hm; obtain ⟨r46, hr46, hm⟩ := hq
                           refine Ops_call _ _ rfl rfl (EO.fn rfl Try.func18 rfl rfl (Evs.cons rfl Evs.nil)) (QC.cc (c_impl_IsGroup hr46 ) ?_)
                           refine Ops_quiet _ rfl rfl (QO.pick_f rfl rfl rfl) ?_
                           refine Ops_quiet _ rfl rfl (QO.pick_t rfl rfl rfl) ?_
                           refine Ops_quiet _ rfl rfl (QO.assign rfl rfl) ?_
                           refine Ops_nil ?_
                           refine thenA_n ?_
                           refine wpA_ret ?_
                           obtain rfl := Option.some.inj hm
                           exact retA_r (h2 := h) (Res.one rfl (rfl)) (Le.under (Le.under (Le.under (Le.under (Le.under (Le.under (Le.under (Le.under (Le.under (Le.under (Le.under (Le.under (Le.refl _) hb1) hb2) hb3) hb7) hb8) hb9) hb10) hb11) hb20) hb21) hb22) hb23) ⟨rfl, rfl⟩
                         ·replace hm := cond_f hm g48
                          refine Ops_skip rfl rfl ?_
                          refine Ops_skip rfl rfl ?_
                          refine Ops_skip rfl rfl ?_
                          refine Ops_skip rfl rfl ?_
                          refine Ops_skip rfl rfl ?_
                          refine Ops_skip rfl rfl ?_
                          refine Ops_quiet _ rfl rfl (QO.pick_f rfl rfl rfl) ?_
                          refine Ops_quiet _ rfl rfl (QO.assign rfl rfl) ?_
                          refine Ops_nil ?_
                          refine thenA_n ?_
                          refine wpA_ret ?_
                          obtain rfl := Option.some.inj hm
                          exact retA_r (h2 := h) (Res.one rfl (rfl)) (Le.under (Le.under (Le.under (Le.under (Le.under (Le.under (Le.under (Le.under (Le.under (Le.under (Le.under (Le.under (Le.refl _) hb1) hb2) hb3) hb7) hb8) hb9) hb10) hb11) hb20) hb21) hb22) hb23) ⟨rfl, rfl⟩
                        ·replace hm := cond_f hm g47
                         refine Ops_skip rfl rfl ?_
                         refine Ops_skip rfl rfl ?_
                         refine Ops_skip rfl rfl ?_
                         refine Ops_quiet _ rfl rfl (QO.pick_f rfl rfl rfl) ?_
                         refine Ops_quiet _ rfl rfl (QO.move rfl rfl) ?_
                         refine Ops_skip rfl rfl ?_
                         refine Ops_skip rfl rfl ?_
                         refine Ops_skip rfl rfl ?_
                         refine Ops_skip rfl rfl ?_
                         refine Ops_skip rfl rfl ?_
                         refine Ops_skip rfl rfl ?_
                         refine Ops_quiet _ rfl rfl (QO.pick_f rfl rfl rfl) ?_
                         refine Ops_quiet _ rfl rfl (QO.assign rfl rfl) ?_
                         refine Ops_nil ?_
                         refine thenA_n ?_
                         refine wpA_ret ?_
                         obtain rfl := Option.some.inj hm
                         exact retA_r (h2 := h) (Res.one rfl (rfl)) (Le.under (Le.under (Le.under (Le.under (Le.under (Le.under (Le.under (Le.under (Le.under (Le.under (Le.under (Le.under (Le.refl _) hb1) hb2) hb3) hb7) hb8) hb9) hb10) hb11) hb20) hb21) hb22) hb23) ⟨rfl, rfl⟩
                       ·replace hm := cond_f hm g46
                        refine Ops_quiet _ rfl rfl (QO.loadRow (cs := sqC r41.1) (hr := (rdAll ((upd_ne _ _ n_b23_b20.ne.symm).trans ((upd_ne _ _ n_b22_b20.ne.symm).trans ((upd_ne _ _ n_b21_b20.ne.symm).trans (upd_same _ _ _)))))) rfl sz37 rfl rfl (sqC_length _)) ?_
                        have hq := Option.bind_eq_some_iff.1 hm; clear hm; obtain ⟨r47, hr47, hm⟩ := hq
                        refine Ops_call _ _ rfl rfl (EO.fn rfl Try.func18 rfl rfl (Evs.cons rfl Evs.nil)) (QC.cc (c_impl_IsGroup hr47 ) ?_)
                        refine Ops_quiet _ rfl rfl (QO.pick_f rfl rfl rfl) ?_
                        refine Ops_quiet _ rfl rfl (QO.pick_t rfl rfl rfl) ?_
                        refine Ops_quiet _ rfl rfl (QO.move rfl rfl) ?_
                        refine Ops_case 275 rfl (fun g50 => ?_) (fun g50 => ?_)
                        ·replace hm := cond_t hm g50
                         refine Ops_quiet _ rfl rfl (QO.move rfl rfl) ?_
                         refine Ops_quiet _ rfl rfl (QO.move rfl rfl) ?_
                         refine Ops_quiet _ rfl rfl (QO.bin rfl rfl rfl rfl) ?_
                         refine Ops_quiet _ rfl rfl (QO.pick_t rfl rfl rfl) ?_
                         refine Ops_quiet _ rfl rfl (QO.move rfl rfl) ?_
                         refine Ops_case 280 rfl (fun g51 => ?_) (fun g51 => ?_)
                         ·replace hm := cond_t hm g51
                          refine Ops_quiet _ rfl rfl (QO.loadRow (cs := sqC r44.1) (hr := (rdAll ((upd_ne _ _ n_b23_b22.ne.symm).trans (upd_same _ _ _)))) rfl sz37 rfl rfl (sqC_length _)) ?_
                          refine Ops_quiet _ rfl rfl (QO.loadRow (cs := sqC r45.1) (hr := (rdAll (upd_same _ _ _))) rfl sz37 rfl rfl (sqC_length _)) ?_
                          refine Ops_quiet _ rfl rfl (QO.agg_eql rfl rfl rfl eg37 (eqv37 _ _) rfl) ?_
                          refine Ops_quiet _ rfl rfl (QO.pick_t rfl rfl rfl) ?_
                          refine Ops_quiet _ rfl rfl (QO.move rfl rfl) ?_
                          refine Ops_case 285 rfl (fun g52 => ?_) (fun g52 => ?_)
                          ·replace hm := cond_t hm g52
                           refine Ops_quiet _ rfl rfl (QO.move rfl rfl) ?_
                           refine Ops_quiet _ rfl rfl (QO.bin rfl rfl rfl rfl) ?_
                           refine Ops_quiet _ rfl rfl (QO.move rfl rfl) ?_
                           refine Ops_case 288 rfl (fun g53 => ?_) (fun g53 => ?_)
                           ·replace hm := cond_t hm g53
                            refine Ops_skip rfl rfl ?_
                            refine Ops_skip rfl rfl ?_
                            refine Ops_quiet _ rfl rfl (QO.pick_t rfl rfl rfl) ?_
                            refine Ops_quiet _ rfl rfl (QO.pick_t rfl rfl rfl) ?_
                            refine Ops_quiet _ rfl rfl (QO.assign rfl rfl) ?_
                            refine Ops_nil ?_
                            refine thenA_n ?_
                            refine wpA_ret ?_
                            obtain rfl := Option.some.inj hm
                            exact retA_r (h2 := h) (Res.one rfl (rfl)) (Le.under (Le.under (Le.under (Le.under (Le.under (Le.under (Le.under (Le.under (Le.under (Le.under (Le.under (Le.under (Le.refl _) hb1) hb2) hb3) hb7) hb8) hb9) hb10) hb11) hb20) hb21) hb22) hb23) ⟨rfl, rfl⟩
                           ·replace hm := cond_f hm g53
                            refine Ops_quiet _ rfl rfl (QO.loadRow (cs := sqC r44.1) (hr := (rdAll ((upd_ne _ _ n_b23_b22.ne.symm).trans (upd_same _ _ _)))) rfl sz37 rfl rfl (sqC_length _)) ?_
                            have hq := Option.bind_eq_some_iff.1 hm; clear hm; obtain ⟨r48, hr48, hm⟩ := hq
                            refine Ops_call _ _ rfl rfl (EO.fn rfl Try.func18 rfl rfl (Evs.cons rfl Evs.nil)) (QC.cc (c_impl_IsGroup hr48 ) ?_)
                            refine Ops_quiet _ rfl rfl (QO.pick_f rfl rfl rfl) ?_
                            refine Ops_quiet _ rfl rfl (QO.pick_t rfl rfl rfl) ?_
                            refine Ops_quiet _ rfl rfl (QO.assign rfl rfl) ?_
                            refine Ops_nil ?_
                            refine thenA_n ?_
                            refine wpA_ret ?_
                            obtain rfl := Option.some.inj hm
                            exact retA_r (h2 := h) (Res.one rfl (rfl)) (Le.under (Le.under (Le.under (Le.under (Le.under (Le.under (Le.under (Le.under (Le.under (Le.under (Le.under (Le.under (Le.refl _) hb1) hb2) hb3) hb7) hb8) hb9) hb10) hb11) hb20) hb21) hb22) hb23) ⟨rfl, rfl⟩
                          ·replace hm := cond_f hm g52
                           refine Ops_skip rfl rfl ?_
                           refine Ops_skip rfl rfl ?_
                           refine Ops_skip rfl rfl ?_
                           refine Ops_skip rfl rfl ?_
                           refine Ops_skip rfl rfl ?_
                           refine Ops_skip rfl rfl ?_
                           refine Ops_quiet _ rfl rfl (QO.pick_f rfl rfl rfl) ?_
                           refine Ops_quiet _ rfl rfl (QO.assign rfl rfl) ?_
                           refine Ops_nil ?_
                           refine thenA_n ?_
                           refine wpA_ret ?_
                           obtain rfl := Option.some.inj hm
                           exact retA_r (h2 := h) (Res.one rfl (rfl)) (Le.under (Le.under (Le.under (Le.under (Le.under (Le.under (Le.under (Le.under (Le.under (Le.under (Le.under (Le.under (Le.refl _) hb1) hb2) hb3) hb7) hb8) hb9) hb10) hb11) hb20) hb21) hb22) hb23) ⟨rfl, rfl⟩
                         ·replace hm := cond_f hm g51
                          refine Ops_skip rfl rfl ?_
                          refine Ops_skip rfl rfl ?_
                          refine Ops_skip rfl rfl ?_
                          refine Ops_quiet _ rfl rfl (QO.pick_f rfl rfl rfl) ?_
                          refine Ops_quiet _ rfl rfl (QO.move rfl rfl) ?_
                          refine Ops_skip rfl rfl ?_
                          refine Ops_skip rfl rfl ?_
                          refine Ops_skip rfl rfl ?_
                          refine Ops_skip rfl rfl ?_
                          refine Ops_skip rfl rfl ?_
                          refine Ops_skip rfl rfl ?_
                          refine Ops_quiet _ rfl rfl (QO.pick_f rfl rfl rfl) ?_
                          refine Ops_quiet _ rfl rfl (QO.assign rfl rfl) ?_
                          refine Ops_nil ?_
                          refine thenA_n ?_
                          refine wpA_ret ?_
                          obtain rfl := Option.some.inj hm
                          exact retA_r (h2 := h) (Res.one rfl (rfl)) (Le.under (Le.under (Le.under (Le.under (Le.under (Le.under (Le.under (Le.under (Le.under (Le.under (Le.under (Le.under (Le.refl _) hb1) hb2) hb3) hb7) hb8) hb9) hb10) hb11) hb20) hb21) hb22) hb23) ⟨rfl, rfl⟩
                        ·replace hm := cond_f hm g50
                         refine Ops_skip rfl rfl ?_
                         refine Ops_skip rfl rfl ?_
                         refine Ops_skip rfl rfl ?_
                         refine Ops_quiet _ rfl rfl (QO.pick_f rfl rfl rfl) ?_
                         refine Ops_quiet _ rfl rfl (QO.move rfl rfl) ?_
                         refine Ops_skip rfl rfl ?_
                         refine Ops_skip rfl rfl ?_
                         refine Ops_skip rfl rfl ?_
                         refine Ops_quiet _ rfl rfl (QO.pick_f rfl rfl rfl) ?_
                         refine Ops_quiet _ rfl rfl (QO.move rfl rfl) ?_
                         refine Ops_skip rfl rfl ?_
                         refine Ops_skip rfl rfl ?_
                         refine Ops_skip rfl rfl ?_
                         refine Ops_skip rfl rfl ?_
                         refine Ops_skip rfl rfl ?_
                         refine Ops_skip rfl rfl ?_
                         refine Ops_quiet _ rfl rfl (QO.pick_f rfl rfl rfl) ?_
                         refine Ops_quiet _ rfl rfl (QO.assign rfl rfl) ?_
                         refine Ops_nil ?_
                         refine thenA_n ?_
                         refine wpA_ret ?_
                         obtain rfl := Option.some.inj hm
                         exact retA_r (h2 := h) (Res.one rfl (rfl)) (Le.under (Le.under (Le.under (Le.under (Le.under (Le.under (Le.under (Le.under (Le.under (Le.under (Le.under (Le.under (Le.refl _) hb1) hb2) hb3) hb7) hb8) hb9) hb10) hb11) hb20) hb21) hb22) hb23) ⟨rfl, rfl⟩
                      ·replace hm := cond_f hm g45
                       refine Ops_skip rfl rfl ?_
                       refine Ops_skip rfl rfl ?_
                       refine Ops_skip rfl rfl ?_
                       refine Ops_skip rfl rfl ?_
                       refine Ops_skip rfl rfl ?_
                       refine Ops_skip rfl rfl ?_
                       refine Ops_quiet _ rfl rfl (QO.pick_f rfl rfl rfl) ?_
                       refine Ops_quiet _ rfl rfl (QO.move rfl rfl) ?_
                       refine Ops_skip rfl rfl ?_
                       refine Ops_skip rfl rfl ?_
                       refine Ops_skip rfl rfl ?_
                       refine Ops_quiet _ rfl rfl (QO.pick_f rfl rfl rfl) ?_
                       refine Ops_quiet _ rfl rfl (QO.move rfl rfl) ?_
                       refine Ops_skip rfl rfl ?_
                       refine Ops_skip rfl rfl ?_
                       refine Ops_skip rfl rfl ?_
                       refine Ops_quiet _ rfl rfl (QO.pick_f rfl rfl rfl) ?_
                       refine Ops_quiet _ rfl rfl (QO.move rfl rfl) ?_
                       refine Ops_skip rfl rfl ?_
                       refine Ops_skip rfl rfl ?_
                       refine Ops_skip rfl rfl ?_
                       refine Ops_skip rfl rfl ?_
                       refine Ops_skip rfl rfl ?_
                       refine Ops_skip rfl rfl ?_
                       refine Ops_quiet _ rfl rfl (QO.pick_f rfl rfl rfl) ?_
                       refine Ops_quiet _ rfl rfl (QO.assign rfl rfl) ?_
                       refine Ops_nil ?_
                       refine thenA_n ?_
                       refine wpA_ret ?_
                       obtain rfl := Option.some.inj hm
                       exact retA_r (h2 := h) (Res.one rfl (rfl)) (Le.under (Le.under (Le.under (Le.under (Le.under (Le.under (Le.under (Le.under (Le.under (Le.under (Le.under (Le.under (Le.refl _) hb1) hb2) hb3) hb7) hb8) hb9) hb10) hb11) hb20) hb21) hb22) hb23) ⟨rfl, rfl⟩
                     ·replace hm := cond_f hm g44
                      refine Ops_skip rfl rfl ?_
                      refine Ops_skip rfl rfl ?_
                      refine Ops_skip rfl rfl ?_
                      refine Ops_quiet _ rfl rfl (QO.pick_f rfl rfl rfl) ?_
                      refine Ops_quiet _ rfl rfl (QO.move rfl rfl) ?_
                      refine Ops_skip rfl rfl ?_
                      refine Ops_skip rfl rfl ?_
                      refine Ops_skip rfl rfl ?_
                      refine Ops_skip rfl rfl ?_
                      refine Ops_skip rfl rfl ?_
                      refine Ops_skip rfl rfl ?_
                      refine Ops_quiet _ rfl rfl (QO.pick_f rfl rfl rfl) ?_
                      refine Ops_quiet _ rfl rfl (QO.move rfl rfl) ?_
                      refine Ops_skip rfl rfl ?_
                      refine Ops_skip rfl rfl ?_
                      refine Ops_skip rfl rfl ?_
                      refine Ops_quiet _ rfl rfl (QO.pick_f rfl rfl rfl) ?_
                      refine Ops_quiet _ rfl rfl (QO.move rfl rfl) ?_
                      refine Ops_skip rfl rfl ?_
                      refine Ops_skip rfl rfl ?_
                      refine Ops_skip rfl rfl ?_
                      refine Ops_quiet _ rfl rfl (QO.pick_f rfl rfl rfl) ?_
                      refine Ops_quiet _ rfl rfl (QO.move rfl rfl) ?_
                      refine Ops_skip rfl rfl ?_
                      refine Ops_skip rfl rfl ?_
                      refine Ops_skip rfl rfl ?_
                      refine Ops_skip rfl rfl ?_
                      refine Ops_skip rfl rfl ?_
                      refine Ops_skip rfl rfl ?_
                      refine Ops_quiet _ rfl rfl (QO.pick_f rfl rfl rfl) ?_
                      refine Ops_quiet _ rfl rfl (QO.assign rfl rfl) ?_
                      refine Ops_nil ?_
                      refine thenA_n ?_
                      refine wpA_ret ?_
                      obtain rfl := Option.some.inj hm
                      exact retA_r (h2 := h) (Res.one rfl (rfl)) (Le.under (Le.under (Le.under (Le.under (Le.under (Le.under (Le.under (Le.under (Le.under (Le.under (Le.under (Le.under (Le.refl _) hb1) hb2) hb3) hb7) hb8) hb9) hb10) hb11) hb20) hb21) hb22) hb23) ⟨rfl, rfl⟩
                 rw [if_neg hid1] at hm
                 exact absurd hm (by simp)
          ·replace hm := cond_f hm g10
           refine wpA_skip ?_
           refine thenA_n ?_
           refine wpA_seq ?_
           refine wpA_region ?_
           refine Ops_quiet _ rfl rfl (QO.move rfl rfl) ?_
           have hq := Option.bind_eq_some_iff.1 hm; clear hm; obtain ⟨r49, hr49, hm⟩ := hq
           refine Ops_call _ _ rfl rfl (EO.fn rfl Try.func14 rfl rfl (Evs.cons rfl Evs.nil)) (QC.cc (c_spec_DrawDirectProduct (l0 := l0) (A0 := A0) (c0 := c0) hr49 (RdS.le hs0 (Le.under (Le.under (Le.under (Le.under (Le.under (Le.under (Le.refl _) hb1) hb2) hb3) hb4) hb5) hb6))) ?_)
           refine Ops_quiet _ rfl rfl (QO.move rfl rfl) ?_
           refine Ops_quiet _ rfl rfl (QO.extract rfl rfl rfl) ?_
           refine Ops_quiet _ rfl rfl (QO.extract rfl rfl rfl) ?_
           refine Ops_loud rfl (LO.alloc rfl zr37 rfl (fun b24 hb24 => ?_))
           simp only [upd_noneA] at hb24
           obtain ⟨n_b24_b6, n_b24_b5, n_b24_b4, n_b24_b3, n_b24_b2, n_b24_b1, hb24⟩ := hb24
           refine Ops_loud rfl (LO.alloc rfl zr37 rfl (fun b25 hb25 => ?_))
           simp only [upd_noneA] at hb25
           obtain ⟨n_b25_b24, n_b25_b6, n_b25_b5, n_b25_b4, n_b25_b3, n_b25_b2, n_b25_b1, hb25⟩ := hb25
           refine Ops_loud rfl (LO.storeAll (cs := sqC r49.1) rfl sz37 rfl rfl (sqC_one _) (sqC_length _) ((upd_ne _ _ n_b25_b24.ne.symm).trans (upd_same _ _ _)) (sqC_length _) (Chg.there n_b25_b24.ne Chg.here) rfl ?_)
           refine Ops_loud rfl (LO.storeAll (cs := sqC r49.2) rfl sz37 rfl rfl (sqC_one _) (sqC_length _) (upd_same _ _ _) (sqC_length _) Chg.here rfl ?_)
           refine Ops_nil ?_
           refine thenA_n ?_
           refine wpA_seq ?_
           refine wpA_region ?_
           refine Ops_quiet _ rfl rfl (QO.loadRow (cs := sqC r49.1) (hr := (rdAll ((upd_ne _ _ n_b25_b24.ne.symm).trans (upd_same _ _ _)))) rfl sz37 rfl rfl (sqC_length _)) ?_
           refine Ops_quiet _ rfl rfl (QO.loadRow (cs := sqC r49.2) (hr := (rdAll (upd_same _ _ _))) rfl sz37 rfl rfl (sqC_length _)) ?_
           have hq := Option.bind_eq_some_iff.1 hm; clear hm; obtain ⟨r50, hr50, hm⟩ := hq
           refine Ops_call _ _ rfl rfl (EO.fn rfl Try.func15 rfl rfl (Evs.cons rfl (Evs.cons rfl Evs.nil))) (QC.cc (c_impl_DirectProduct hr50 ) ?_)
           refine Ops_quiet _ rfl rfl (QO.move rfl rfl) ?_
           refine Ops_quiet _ rfl rfl (QO.extract rfl rfl rfl) ?_
           refine Ops_quiet _ rfl rfl (QO.extract rfl rfl rfl) ?_
           refine Ops_loud rfl (LO.alloc rfl zr37 rfl (fun b26 hb26 => ?_))
           simp only [upd_noneA] at hb26
           obtain ⟨n_b26_b25, n_b26_b24, n_b26_b6, n_b26_b5, n_b26_b4, n_b26_b3, n_b26_b2, n_b26_b1, hb26⟩ := hb26
           refine Ops_loud rfl (LO.storeAll (cs := sqC r50.1) rfl sz37 rfl rfl (sqC_one _) (sqC_length _) (upd_same _ _ _) (sqC_length _) Chg.here rfl ?_)
           refine Ops_quiet _ rfl rfl (QO.assign rfl rfl) ?_
           refine Ops_nil ?_
           refine thenA_n ?_
           refine wpA_seq ?_
           refine wpA_region ?_
           refine Ops_quiet _ rfl rfl (QO.loadRow (cs := sqC r49.1) (hr := (rdAll ((upd_ne _ _ n_b26_b24.ne.symm).trans ((upd_ne _ _ n_b25_b24.ne.symm).trans (upd_same _ _ _))))) rfl sz37 rfl rfl (sqC_length _)) ?_
           refine Ops_quiet _ rfl rfl (QO.loadRow (cs := sqC r49.2) (hr := (rdAll ((upd_ne _ _ n_b26_b25.ne.symm).trans (upd_same _ _ _)))) rfl sz37 rfl rfl (sqC_length _)) ?_
           have hq := Option.bind_eq_some_iff.1 hm; clear hm; obtain ⟨r51, hr51, hm⟩ := hq
           refine Ops_call _ _ rfl rfl (EO.fn rfl Try.func16 rfl rfl (Evs.cons rfl (Evs.cons rfl Evs.nil))) (QC.cc (c_spec_DirectProduct hr51 ) ?_)
           refine Ops_quiet _ rfl rfl (QO.move rfl rfl) ?_
           refine Ops_quiet _ rfl rfl (QO.extract rfl rfl rfl) ?_
           refine Ops_quiet _ rfl rfl (QO.extract rfl rfl rfl) ?_
           refine Ops_loud rfl (LO.alloc rfl zr37 rfl (fun b27 hb27 => ?_))
           simp only [upd_noneA] at hb27
           obtain ⟨n_b27_b26, n_b27_b25, n_b27_b24, n_b27_b6, n_b27_b5, n_b27_b4, n_b27_b3, n_b27_b2, n_b27_b1, hb27⟩ := hb27
           refine Ops_loud rfl (LO.storeAll (cs := sqC r51.1) rfl sz37 rfl rfl (sqC_one _) (sqC_length _) (upd_same _ _ _) (sqC_length _) Chg.here rfl ?_)
           refine Ops_quiet _ rfl rfl (QO.assign rfl rfl) ?_
           refine Ops_nil ?_
           refine thenA_n ?_
           refine wpA_seq ?_
           refine wpA_seq ?_
           refine wpA_region ?_
           refine Ops_quiet _ rfl rfl (QO.move rfl rfl) ?_
           refine Ops_quiet _ rfl rfl (QO.move rfl rfl) ?_
           refine Ops_quiet _ rfl rfl (QO.bin rfl rfl rfl rfl) ?_
           refine Ops_quiet _ rfl rfl (QO.move rfl rfl) ?_
           refine Ops_case 212 rfl (fun g54 => ?_) (fun g54 => ?_)
           ·replace hm := cond_t hm g54
            refine Ops_skip rfl rfl ?_
            refine Ops_skip rfl rfl ?_
            refine Ops_skip rfl rfl ?_
            refine Ops_quiet _ rfl rfl (QO.pick_t rfl rfl rfl) ?_
            refine Ops_nil ?_
            refine thenA_n ?_
            refine wpA_cond_t rfl ?_
            refine wpA_seq ?_
            refine wpA_region ?_
            refine Ops_quiet _ rfl rfl (QO.assign rfl rfl) ?_
            refine Ops_nil ?_
            refine thenA_n ?_
            refine wpA_ret ?_
            refine thenA_r ?_
            obtain rfl := Option.some.inj hm
            exact retA_r (h2 := h) (Res.one rfl (rfl)) (Le.under (Le.under (Le.under (Le.under (Le.under (Le.under (Le.under (Le.under (Le.under (Le.under (Le.refl _) hb1) hb2) hb3) hb4) hb5) hb6) hb24) hb25) hb26) hb27) ⟨rfl, rfl⟩
           ·replace hm := cond_f hm g54
            refine Ops_quiet _ rfl rfl (QO.loadRow (cs := sqC r50.1) (hr := (rdAll ((upd_ne _ _ n_b27_b26.ne.symm).trans (upd_same _ _ _)))) rfl sz37 rfl rfl (sqC_length _)) ?_
            refine Ops_quiet _ rfl rfl (QO.loadRow (cs := sqC r51.1) (hr := (rdAll (upd_same _ _ _))) rfl sz37 rfl rfl (sqC_length _)) ?_
            refine Ops_quiet _ rfl rfl (QO.agg_neq rfl rfl rfl eg37 (eqv37 _ _) rfl) ?_
            refine Ops_quiet _ rfl rfl (QO.pick_f rfl rfl rfl) ?_
            refine Ops_nil ?_
            refine thenA_n ?_
            refine wpA_cond rfl (fun g55 => ?_) (fun g55 => ?_)
            ·replace hm := cond_t hm g55
             refine wpA_seq ?_
             refine wpA_region ?_
             refine Ops_quiet _ rfl rfl (QO.assign rfl rfl) ?_
             refine Ops_nil ?_
             refine thenA_n ?_
             refine wpA_ret ?_
             refine thenA_r ?_
             obtain rfl := Option.some.inj hm
             exact retA_r (h2 := h) (Res.one rfl (rfl)) (Le.under (Le.under (Le.under (Le.under (Le.under (Le.under (Le.under (Le.under (Le.under (Le.under (Le.refl _) hb1) hb2) hb3) hb4) hb5) hb6) hb24) hb25) hb26) hb27) ⟨rfl, rfl⟩
            ·replace hm := cond_f hm g55
             refine wpA_skip ?_
             refine thenA_n ?_
             refine wpA_seq ?_
             refine wpA_seq ?_
             refine wpA_drawn (by kernel_rfl) (by kernel_rfl) ?_
             refine QOps.quiet _ rfl rfl (QO.move rfl rfl) ?_
             refine QOps.quiet _ rfl rfl (QO.bin rfl rfl rfl rfl) ?_
             refine QOps.quiet _ rfl rfl (QO.move rfl rfl) ?_
             refine QOps.split 219 rfl (fun g56 => ?_) (fun g56 => ?_)
             ·replace hm := cond_t hm g56
              refine QOps.quiet _ rfl rfl (QO.loadRow (cs := sqC r50.1) (hr := (rdAll ((upd_ne _ _ n_b27_b26.ne.symm).trans (upd_same _ _ _)))) rfl sz37 rfl rfl (sqC_length _)) ?_
              have hq := Option.bind_eq_some_iff.1 hm; clear hm; obtain ⟨r52, hr52, hm⟩ := hq
              refine QOps.call _ _ _ rfl rfl (EO.fn rfl Try.func17 rfl rfl (Evs.cons rfl Evs.nil)) (c_impl_IsSquare hr52 ) ?_
              refine QOps.quiet _ rfl rfl (QO.not rfl rfl) ?_
              refine QOps.quiet _ rfl rfl (QO.move rfl rfl) ?_
              refine QOps.split 223 rfl (fun g57 => ?_) (fun g57 => ?_)
              ·replace hm := cond_t hm g57
               refine QOps.skip rfl rfl ?_
               refine QOps.skip rfl rfl ?_
               refine QOps.skip rfl rfl ?_
               refine QOps.skip rfl rfl ?_
               refine QOps.skip rfl rfl ?_
               refine QOps.skip rfl rfl ?_
               refine QOps.skip rfl rfl ?_
               refine QOps.skip rfl rfl ?_
               refine QOps.skip rfl rfl ?_
               refine QOps.quiet _ rfl rfl (QO.pick_t rfl rfl rfl) ?_
               refine QOps.quiet _ rfl rfl (QO.pick_t rfl rfl rfl) ?_
               refine QOps.nil ?_
               refine thenA_n ?_
               refine wpA_cond_t rfl ?_
               refine wpA_seq ?_
               refine wpA_region ?_
               refine Ops_quiet _ rfl rfl (QO.assign rfl rfl) ?_
               refine Ops_nil ?_
               refine thenA_n ?_
               refine wpA_ret ?_
               refine thenA_r ?_
               obtain rfl := Option.some.inj hm
               exact retA_r (h2 := h) (Res.one rfl (rfl)) (Le.under (Le.under (Le.under (Le.under (Le.under (Le.under (Le.under (Le.under (Le.under (Le.under (Le.refl _) hb1) hb2) hb3) hb4) hb5) hb6) hb24) hb25) hb26) hb27) ⟨rfl, rfl⟩
              ·replace hm := cond_f hm g57
               refine QOps.quiet _ rfl rfl (QO.loadRow (cs := sqC r49.1) (hr := (rdAll ((upd_ne _ _ n_b27_b24.ne.symm).trans ((upd_ne _ _ n_b26_b24.ne.symm).trans ((upd_ne _ _ n_b25_b24.ne.symm).trans (upd_same _ _ _)))))) rfl sz37 rfl rfl (sqC_length _)) ?_
               have hq := Option.bind_eq_some_iff.1 hm; clear hm; obtain ⟨r53, hr53, hm⟩ := hq
               refine QOps.call _ _ _ rfl rfl (EO.fn rfl Try.func18 rfl rfl (Evs.cons rfl Evs.nil)) (c_impl_IsGroup hr53 ) ?_
               refine QOps.quiet _ rfl rfl (QO.move rfl rfl) ?_
               refine QOps.split 226 rfl (fun g58 => ?_) (fun g58 => ?_)
               ·replace hm := cond_t hm g58
                refine QOps.quiet _ rfl rfl (QO.loadRow (cs := sqC r49.2) (hr := (rdAll ((upd_ne _ _ n_b27_b25.ne.symm).trans ((upd_ne _ _ n_b26_b25.ne.symm).trans (upd_same _ _ _))))) rfl sz37 rfl rfl (sqC_length _)) ?_
                have hq := Option.bind_eq_some_iff.1 hm; clear hm; obtain ⟨r54, hr54, hm⟩ := hq
                refine QOps.call _ _ _ rfl rfl (EO.fn rfl Try.func18 rfl rfl (Evs.cons rfl Evs.nil)) (c_impl_IsGroup hr54 ) ?_
                refine QOps.quiet _ rfl rfl (QO.loadRow (cs := sqC r50.1) (hr := (rdAll ((upd_ne _ _ n_b27_b26.ne.symm).trans (upd_same _ _ _)))) rfl sz37 rfl rfl (sqC_length _)) ?_
                have hq := Option.bind_eq_some_iff.1 hm; clear hm; obtain ⟨r55, hr55, hm⟩ := hq
                refine QOps.call _ _ _ rfl rfl (EO.fn rfl Try.func18 rfl rfl (Evs.cons rfl Evs.nil)) (c_impl_IsGroup hr55 ) ?_
                refine QOps.quiet _ rfl rfl (QO.bool_neq rfl sz4 rfl rfl) ?_
                refine QOps.quiet _ rfl rfl (QO.pick_t rfl rfl rfl) ?_
                refine QOps.quiet _ rfl rfl (QO.pick_f rfl rfl rfl) ?_
                refine QOps.quiet _ rfl rfl (QO.pick_t rfl rfl rfl) ?_
                refine QOps.nil ?_
                refine thenA_n ?_
                refine wpA_cond rfl (fun g59 => ?_) (fun g59 => ?_)
                ·replace hm := cond_t hm g59
                 refine wpA_seq ?_
                 refine wpA_region ?_
                 refine Ops_quiet _ rfl rfl (QO.assign rfl rfl) ?_
                 refine Ops_nil ?_
                 refine thenA_n ?_
                 refine wpA_ret ?_
                 refine thenA_r ?_
                 obtain rfl := Option.some.inj hm
                 exact retA_r (h2 := h) (Res.one rfl (rfl)) (Le.under (Le.under (Le.under (Le.under (Le.under (Le.under (Le.under (Le.under (Le.under (Le.under (Le.refl _) hb1) hb2) hb3) hb4) hb5) hb6) hb24) hb25) hb26) hb27) ⟨rfl, rfl⟩
                ·replace hm := cond_f hm g59
                 refine wpA_skip ?_
                 refine thenA_n ?_
                 refine wpA_seq ?_
                 refine wpA_region ?_
                 refine Ops_quiet _ rfl rfl (QO.move rfl rfl) ?_
                 have hq := Option.bind_eq_some_iff.1 hm; clear hm; obtain ⟨r56, hr56, hm⟩ := hq
                 refine Ops_call _ _ rfl rfl (EO.fn rfl Try.func19 rfl rfl (Evs.cons rfl Evs.nil)) (QC.cc (c_spec_DrawCyclicSquare (l0 := l0) (A0 := A0) (c0 := c0) hr56 (RdS.le hs0 (Le.under (Le.under (Le.under (Le.under (Le.under (Le.under (Le.under (Le.under (Le.under (Le.under (Le.refl _) hb1) hb2) hb3) hb4) hb5) hb6) hb24) hb25) hb26) hb27))) ?_)
                 refine Ops_quiet _ rfl rfl (QO.assign rfl rfl) ?_
                 refine Ops_nil ?_
                 refine thenA_n ?_
                 refine wpA_weaken (show Abs.Sub _ [(0, .slice A0 l0.length c0), (2, .bool false), (31, .int .i64 r56)] from (Sub.cons rfl (Sub.cons rfl (Sub.cons rfl (Sub.nil))))).ok (Le.refl _) ?_
                 refine wpA_seq ?_
                 refine wpA_region ?_
                 refine Ops_quiet _ rfl rfl (QO.move rfl rfl) ?_
                 have hq := Option.bind_eq_some_iff.1 hm; clear hm; obtain ⟨r57, hr57, hm⟩ := hq
                 refine Ops_call _ _ rfl rfl (EO.fn rfl Try.func20 rfl rfl (Evs.cons rfl Evs.nil)) (QC.cc (c_impl_CyclicSquare hr57 ) ?_)
                 refine Ops_quiet _ rfl rfl (QO.move rfl rfl) ?_
                 refine Ops_quiet _ rfl rfl (QO.extract rfl rfl rfl) ?_
                 refine Ops_quiet _ rfl rfl (QO.extract rfl rfl rfl) ?_
                 refine Ops_loud rfl (LO.alloc rfl zr37 rfl (fun b28 hb28 => ?_))
                 simp only [upd_noneA] at hb28
                 obtain ⟨n_b28_b27, n_b28_b26, n_b28_b25, n_b28_b24, n_b28_b6, n_b28_b5, n_b28_b4, n_b28_b3, n_b28_b2, n_b28_b1, hb28⟩ := hb28
                 refine Ops_loud rfl (LO.storeAll (cs := sqC r57.1) rfl sz37 rfl rfl (sqC_one _) (sqC_length _) (upd_same _ _ _) (sqC_length _) Chg.here rfl ?_)
                 refine Ops_quiet _ rfl rfl (QO.assign rfl rfl) ?_
                 refine Ops_nil ?_
                 refine thenA_n ?_
                 refine wpA_seq ?_
                 refine wpA_region ?_
                 refine Ops_quiet _ rfl rfl (QO.move rfl rfl) ?_
                 have hq := Option.bind_eq_some_iff.1 hm; clear hm; obtain ⟨r58, hr58, hm⟩ := hq
                 refine Ops_call _ _ rfl rfl (EO.fn rfl Try.func21 rfl rfl (Evs.cons rfl Evs.nil)) (QC.cc (c_spec_CyclicSquare hr58 ) ?_)
                 refine Ops_quiet _ rfl rfl (QO.move rfl rfl) ?_
                 refine Ops_quiet _ rfl rfl (QO.extract rfl rfl rfl) ?_
                 refine Ops_quiet _ rfl rfl (QO.extract rfl rfl rfl) ?_
                 refine Ops_loud rfl (LO.alloc rfl zr37 rfl (fun b29 hb29 => ?_))
                 simp only [upd_noneA] at hb29
                 obtain ⟨n_b29_b28, n_b29_b27, n_b29_b26, n_b29_b25, n_b29_b24, n_b29_b6, n_b29_b5, n_b29_b4, n_b29_b3, n_b29_b2, n_b29_b1, hb29⟩ := hb29
                 refine Ops_loud rfl (LO.storeAll (cs := sqC r58.1) rfl sz37 rfl rfl (sqC_one _) (sqC_length _) (upd_same _ _ _) (sqC_length _) Chg.here rfl ?_)
                 refine Ops_quiet _ rfl rfl (QO.assign rfl rfl) ?_
                 refine Ops_nil ?_
                 refine thenA_n ?_
                 refine wpA_seq ?_
                 refine wpA_region ?_
                 refine Ops_quiet _ rfl rfl (QO.move rfl rfl) ?_
                 have hq := Option.bind_eq_some_iff.1 hm; clear hm; obtain ⟨r59, hr59, hm⟩ := hq
                 refine Ops_call _ _ rfl rfl (EO.fn rfl Try.func22 rfl rfl (Evs.cons rfl Evs.nil)) (QC.cc (c_spec_DrawElementarySquare (l0 := l0) (A0 := A0) (c0 := c0) hr59 (RdS.le hs0 (Le.under (Le.under (Le.under (Le.under (Le.under (Le.under (Le.under (Le.under (Le.under (Le.under (Le.under (Le.under (Le.refl _) hb1) hb2) hb3) hb4) hb5) hb6) hb24) hb25) hb26) hb27) hb28) hb29))) ?_)
                 refine Ops_quiet _ rfl rfl (QO.assign rfl rfl) ?_
                 refine Ops_nil ?_
                 refine thenA_n ?_
                 refine wpA_seq ?_
                 refine wpA_region ?_
                 refine Ops_quiet _ rfl rfl (QO.move rfl rfl) ?_
                 have hq := Option.bind_eq_some_iff.1 hm; clear hm; obtain ⟨r60, hr60, hm⟩ := hq
                 refine Ops_call _ _ rfl rfl (EO.fn rfl Try.func23 rfl rfl (Evs.cons rfl Evs.nil)) (QC.cc (c_impl_ElementarySquare hr60 ) ?_)
                 refine Ops_quiet _ rfl rfl (QO.move rfl rfl) ?_
                 refine Ops_quiet _ rfl rfl (QO.extract rfl rfl rfl) ?_
                 refine Ops_quiet _ rfl rfl (QO.extract rfl rfl rfl) ?_
                 refine Ops_loud rfl (LO.alloc rfl zr37 rfl (fun b30 hb30 => ?_))
                 simp only [upd_noneA] at hb30
                 obtain ⟨n_b30_b29, n_b30_b28, n_b30_b27, n_b30_b26, n_b30_b25, n_b30_b24, n_b30_b6, n_b30_b5, n_b30_b4, n_b30_b3, n_b30_b2, n_b30_b1, hb30⟩ := hb30
                 refine Ops_loud rfl (LO.storeAll (cs := sqC r60.1) rfl sz37 rfl rfl (sqC_one _) (sqC_length _) (upd_same _ _ _) (sqC_length _) Chg.here rfl ?_)
                 refine Ops_quiet _ rfl rfl (QO.assign rfl rfl) ?_
                 refine Ops_nil ?_
                 refine thenA_n ?_
                 refine wpA_seq ?_
                 refine wpA_region ?_
                 refine Ops_quiet _ rfl rfl (QO.move rfl rfl) ?_
                 have hq := Option.bind_eq_some_iff.1 hm; clear hm; obtain ⟨r61, hr61, hm⟩ := hq
                 refine Ops_call _ _ rfl rfl (EO.fn rfl Try.func24 rfl rfl (Evs.cons rfl Evs.nil)) (QC.cc (c_spec_ElementarySquare hr61 ) ?_)
                 refine Ops_quiet _ rfl rfl (QO.move rfl rfl) ?_
                 refine Ops_quiet _ rfl rfl (QO.extract rfl rfl rfl) ?_
                 refine Ops_quiet _ rfl rfl (QO.extract rfl rfl rfl) ?_
                 refine Ops_loud rfl (LO.alloc rfl zr37 rfl (fun b31 hb31 => ?_))
                 simp only [upd_noneA] at hb31
                 obtain ⟨n_b31_b30, n_b31_b29, n_b31_b28, n_b31_b27, n_b31_b26, n_b31_b25, n_b31_b24, n_b31_b6, n_b31_b5, n_b31_b4, n_b31_b3, n_b31_b2, n_b31_b1, hb31⟩ := hb31
                 refine Ops_loud rfl (LO.storeAll (cs := sqC r61.1) rfl sz37 rfl rfl (sqC_one _) (sqC_length _) (upd_same _ _ _) (sqC_length _) Chg.here rfl ?_)
                 refine Ops_quiet _ rfl rfl (QO.assign rfl rfl) ?_
                 refine Ops_nil ?_
                 refine thenA_n ?_
                 refine wpA_seq ?_
                 refine wpA_region ?_
                 refine Ops_quiet _ rfl rfl (QO.move rfl rfl) ?_
                 refine Ops_quiet _ rfl rfl (QO.move rfl rfl) ?_
                 refine Ops_quiet _ rfl rfl (QO.bin rfl rfl rfl rfl) ?_
                 refine Ops_quiet _ rfl rfl (QO.move rfl rfl) ?_
                 refine Ops_case 262 rfl (fun g60 => ?_) (fun g60 => ?_)
                 ·replace hm := cond_t hm g60
                  refine Ops_quiet _ rfl rfl (QO.loadRow (cs := sqC r57.1) (hr := (rdAll ((upd_ne _ _ n_b31_b28.ne.symm).trans ((upd_ne _ _ n_b30_b28.ne.symm).trans ((upd_ne _ _ n_b29_b28.ne.symm).trans (upd_same _ _ _)))))) rfl sz37 rfl rfl (sqC_length _)) ?_
                  refine Ops_quiet _ rfl rfl (QO.loadRow (cs := sqC r58.1) (hr := (rdAll ((upd_ne _ _ n_b31_b29.ne.symm).trans ((upd_ne _ _ n_b30_b29.ne.symm).trans (upd_same _ _ _))))) rfl sz37 rfl rfl (sqC_length _)) ?_
                  refine Ops_quiet _ rfl rfl (QO.agg_eql rfl rfl rfl eg37 (eqv37 _ _) rfl) ?_
                  refine Ops_quiet _ rfl rfl (QO.pick_t rfl rfl rfl) ?_
                  refine Ops_quiet _ rfl rfl (QO.move rfl rfl) ?_
                  refine Ops_case 267 rfl (fun g61 => ?_) (fun g61 => ?_)
                  ·replace hm := cond_t hm g61
                   refine Ops_quiet _ rfl rfl (QO.move rfl rfl) ?_
                   refine Ops_quiet _ rfl rfl (QO.bin rfl rfl rfl rfl) ?_
                   refine Ops_quiet _ rfl rfl (QO.move rfl rfl) ?_
                   refine Ops_case 270 rfl (fun g62 => ?_) (fun g62 => ?_)
                   ·replace hm := cond_t hm g62
                    refine Ops_skip rfl rfl ?_
                    refine Ops_skip rfl rfl ?_
                    refine Ops_quiet _ rfl rfl (QO.pick_t rfl rfl rfl) ?_
                    refine Ops_quiet _ rfl rfl (QO.pick_t rfl rfl rfl) ?_
                    refine Ops_quiet _ rfl rfl (QO.move rfl rfl) ?_
                    refine Ops_quiet _ rfl rfl (QO.move rfl rfl) ?_
                    refine Ops_quiet _ rfl rfl (QO.move rfl rfl) ?_
                    refine Ops_quiet _ rfl rfl (QO.bin rfl rfl rfl rfl) ?_
                    refine Ops_quiet _ rfl rfl (QO.pick_t rfl rfl rfl) ?_
                    refine Ops_quiet _ rfl rfl (QO.move rfl rfl) ?_
                    refine Ops_case 280 rfl (fun g63 => ?_) (fun g63 => ?_)
                    ·replace hm := cond_t hm g63
                     refine Ops_quiet _ rfl rfl (QO.loadRow (cs := sqC r60.1) (hr := (rdAll ((upd_ne _ _ n_b31_b30.ne.symm).trans (upd_same _ _ _)))) rfl sz37 rfl rfl (sqC_length _)) ?_
                     refine Ops_quiet _ rfl rfl (QO.loadRow (cs := sqC r61.1) (hr := (rdAll (upd_same _ _ _))) rfl sz37 rfl rfl (sqC_length _)) ?_
                     refine Ops_quiet _ rfl rfl (QO.agg_eql rfl rfl rfl eg37 (eqv37 _ _) rfl) ?_
                     refine Ops_quiet _ rfl rfl (QO.pick_t rfl rfl rfl) ?_
                     refine Ops_quiet _ rfl rfl (QO.move rfl rfl) ?_
                     refine Ops_case 285 rfl (fun g64 => ?_) (fun g64 => ?_)
                     ·replace hm := cond_t hm g64
                      refine Ops_quiet _ rfl rfl (QO.move rfl rfl) ?_
                      refine Ops_quiet _ rfl rfl (QO.bin rfl rfl rfl rfl) ?_
                      refine Ops_quiet _ rfl rfl (QO.move rfl rfl) ?_
                      refine Ops_case 288 rfl (fun g65 => ?_) (fun g65 => ?_)
                      ·replace hm := cond_t hm g65
                       refine Ops_skip rfl rfl ?_
                       refine Ops_skip rfl rfl ?_
                       refine Ops_quiet _ rfl rfl (QO.pick_t rfl rfl rfl) ?_
                       refine Ops_quiet _ rfl rfl (QO.pick_t rfl rfl rfl) ?_
                       refine Ops_quiet _ rfl rfl (QO.assign rfl rfl) ?_
                       refine Ops_nil ?_
                       refine thenA_n ?_
                       refine wpA_ret ?_
                       obtain rfl := Option.some.inj hm
                       exact retA_r (h2 := h) (Res.one rfl (rfl)) (Le.under (Le.under (Le.under (Le.under (Le.under (Le.under (Le.under (Le.under (Le.under (Le.under (Le.under (Le.under (Le.under (Le.under (Le.refl _) hb1) hb2) hb3) hb4) hb5) hb6) hb24) hb25) hb26) hb27) hb28) hb29) hb30) hb31) ⟨rfl, rfl⟩
                      ·replace hm := cond_f hm g65
                       refine Ops_quiet _ rfl rfl (QO.loadRow (cs := sqC r60.1) (hr := (rdAll ((upd_ne _ _ n_b31_b30.ne.symm).trans (upd_same _ _ _)))) rfl sz37 rfl rfl (sqC_length _)) ?_
                       have hq := Option.bind_eq_some_iff.1 hm; clear hm; obtain ⟨r62, hr62, hm⟩ := hq
                       refine Ops_call _ _ rfl rfl (EO.fn rfl Try.func18 rfl rfl (Evs.cons rfl Evs.nil)) (QC.cc (c_impl_IsGroup hr62 ) ?_)
                       refine Ops_quiet _ rfl rfl (QO.pick_f rfl rfl rfl) ?_
                       refine Ops_quiet _ rfl rfl (QO.pick_t rfl rfl rfl) ?_
                       refine Ops_quiet _ rfl rfl (QO.assign rfl rfl) ?_
                       refine Ops_nil ?_
                       refine thenA_n ?_
                       refine wpA_ret ?_
                       obtain rfl := Option.some.inj hm
                       exact retA_r (h2 := h) (Res.one rfl (rfl)) (Le.under (Le.under (Le.under (Le.under (Le.under (Le.under (Le.under (Le.under (Le.under (Le.under (Le.under (Le.under (Le.under (Le.under (Le.refl _) hb1) hb2) hb3) hb4) hb5) hb6) hb24) hb25) hb26) hb27) hb28) hb29) hb30) hb31) ⟨rfl, rfl⟩
                     ·replace hm := cond_f hm g64
                      refine Ops_skip rfl rfl ?_
                      refine Ops_skip rfl rfl ?_
                      refine Ops_skip rfl rfl ?_
                      refine Ops_skip rfl rfl ?_
                      refine Ops_skip rfl rfl ?_
                      refine Ops_skip rfl rfl ?_
                      refine Ops_quiet _ rfl rfl (QO.pick_f rfl rfl rfl) ?_
                      refine Ops_quiet _ rfl rfl (QO.assign rfl rfl) ?_
                      refine Ops_nil ?_
                      refine thenA_n ?_
                      refine wpA_ret ?_
                      obtain rfl := Option.some.inj hm
                      exact retA_r (h2 := h) (Res.one rfl (rfl)) (Le.under (Le.under (Le.under (Le.under (Le.under (Le.under (Le.under (Le.under (Le.under (Le.under (Le.under (Le.under (Le.under (Le.under (Le.refl _) hb1) hb2) hb3) hb4) hb5) hb6) hb24) hb25) hb26) hb27) hb28) hb29) hb30) hb31) ⟨rfl, rfl⟩
                    ·replace hm := cond_f hm g63
                     refine Ops_skip rfl rfl ?_
                     refine Ops_skip rfl rfl ?_
                     refine Ops_skip rfl rfl ?_
                     refine Ops_quiet _ rfl rfl (QO.pick_f rfl rfl rfl) ?_
                     refine Ops_quiet _ rfl rfl (QO.move rfl rfl) ?_
                     refine Ops_skip rfl rfl ?_
                     refine Ops_skip rfl rfl ?_
                     refine Ops_skip rfl rfl ?_
                     refine Ops_skip rfl rfl ?_
                     refine Ops_skip rfl rfl ?_
                     refine Ops_skip rfl rfl ?_
                     refine Ops_quiet _ rfl rfl (QO.pick_f rfl rfl rfl) ?_
                     refine Ops_quiet _ rfl rfl (QO.assign rfl rfl) ?_
                     refine Ops_nil ?_
                     refine thenA_n ?_
                     refine wpA_ret ?_
                     obtain rfl := Option.some.inj hm
                     exact retA_r (h2 := h) (Res.one rfl (rfl)) (Le.under (Le.under (Le.under (Le.under (Le.under (Le.under (Le.under (Le.under (Le.under (Le.under (Le.under (Le.under (Le.under (Le.under (Le.refl _) hb1) hb2) hb3) hb4) hb5) hb6) hb24) hb25) hb26) hb27) hb28) hb29) hb30) hb31) ⟨rfl, rfl⟩
                   ·replace hm := cond_f hm g62
                    refine Ops_quiet _ rfl rfl (QO.loadRow (cs := sqC r57.1) (hr := (rdAll ((upd_ne _ _ n_b31_b28.ne.symm).trans ((upd_ne _ _ n_b30_b28.ne.symm).trans ((upd_ne _ _ n_b29_b28.ne.symm).trans (upd_same _ _ _)))))) rfl sz37 rfl rfl (sqC_length _)) ?_
                    have hq := Option.bind_eq_some_iff.1 hm; clear hm; obtain ⟨r63, hr63, hm⟩ := hq
                    refine Ops_call _ _ rfl rfl (EO.fn rfl Try.func18 rfl rfl (Evs.cons rfl Evs.nil)) (QC.cc (c_impl_IsGroup hr63 ) ?_)
                    refine Ops_quiet _ rfl rfl (QO.pick_f rfl rfl rfl) ?_
                    refine Ops_quiet _ rfl rfl (QO.pick_t rfl rfl rfl) ?_
                    refine Ops_quiet _ rfl rfl (QO.move rfl rfl) ?_
                    refine Ops_case 275 rfl (fun g66 => ?_) (fun g66 => ?_)
                    ·replace hm := cond_t hm g66
                     refine Ops_quiet _ rfl rfl (QO.move rfl rfl) ?_
                     refine Ops_quiet _ rfl rfl (QO.move rfl rfl) ?_
                     refine Ops_quiet _ rfl rfl (QO.bin rfl rfl rfl rfl) ?_
                     refine Ops_quiet _ rfl rfl (QO.pick_t rfl rfl rfl) ?_
                     refine Ops_quiet _ rfl rfl (QO.move rfl rfl) ?_
                     refine Ops_case 280 rfl (fun g67 => ?_) (fun g67 => ?_)
                     ·replace hm := cond_t hm g67
                      refine Ops_quiet _ rfl rfl (QO.loadRow (cs := sqC r60.1) (hr := (rdAll ((upd_ne _ _ n_b31_b30.ne.symm).trans (upd_same _ _ _)))) rfl sz37 rfl rfl (sqC_length _)) ?_
                      refine Ops_quiet _ rfl rfl (QO.loadRow (cs := sqC r61.1) (hr := (rdAll (upd_same _ _ _))) rfl sz37 rfl rfl (sqC_length _)) ?_
                      refine Ops_quiet _ rfl rfl (QO.agg_eql rfl rfl rfl eg37 (eqv37 _ _) rfl) ?_
                      refine Ops_quiet _ rfl rfl (QO.pick_t rfl rfl rfl) ?_
                      refine Ops_quiet _ rfl rfl (QO.move rfl rfl) ?_
                      refine Ops_case 285 rfl (fun g68 => ?_) (fun g68 => ?_)
                      ·replace hm := cond_t hm g68
                       refine Ops_quiet _ rfl rfl (QO.move rfl rfl) ?_
                       refine Ops_quiet _ rfl rfl (QO.bin rfl rfl rfl rfl) ?_
                       refine Ops_quiet _ rfl rfl (QO.move rfl rfl) ?_
                       refine Ops_case 288 rfl (fun g69 => ?_) (fun g69 => ?_)
                       ·replace hm := cond_t hm g69
                        refine Ops_skip rfl rfl ?_
                        refine Ops_skip rfl rfl ?_
                        refine Ops_quiet _ rfl rfl (QO.pick_t rfl rfl rfl) ?_
                        refine Ops_quiet _ rfl rfl (QO.pick_t rfl rfl rfl) ?_
                        refine Ops_quiet _ rfl rfl (QO.assign rfl rfl) ?_
                        refine Ops_nil ?_
                        refine thenA_n ?_
                        refine wpA_ret ?_
                        obtain rfl := Option.some.inj hm
                        exact retA_r (h2 := h) (Res.one rfl (rfl)) (Le.under (Le.under (Le.under (Le.under (Le.under (Le.under (Le.under (Le.under (Le.under (Le.under (Le.under (Le.under (Le.under (Le.under (Le.refl _) hb1) hb2) hb3) hb4) hb5) hb6) hb24) hb25) hb26) hb27) hb28) hb29) hb30) hb31) ⟨rfl, rfl⟩
                       ·replace hm := cond_f hm g69
                        refine Ops_quiet _ rfl rfl (QO.loadRow (cs := sqC r60.1) (hr := (rdAll ((upd_ne _ _ n_b31_b30.ne.symm).trans (upd_same _ _ _)))) rfl sz37 rfl rfl (sqC_length _)) ?_
                        have hq := Option.bind_eq_some_iff.1 hm; clear hm; obtain ⟨r64, hr64, hm⟩ := hq
                        refine Ops_call _ _ rfl rfl (EO.fn rfl Try.func18 rfl rfl (Evs.cons rfl Evs.nil)) (QC.cc (c_impl_IsGroup hr64 ) ?_)
                        refine Ops_quiet _ rfl rfl (QO.pick_f rfl rfl rfl) ?_
                        refine Ops_quiet _ rfl rfl (QO.pick_t rfl rfl rfl) ?_
                        refine Ops_quiet _ rfl rfl (QO.assign rfl rfl) ?_
                        refine Ops_nil ?_
                        refine thenA_n ?_
                        refine wpA_ret ?_
                        obtain rfl := Option.some.inj hm
                        exact retA_r (h2 := h) (Res.one rfl (rfl)) (Le.under (Le.under (Le.under (Le.under (Le.under (Le.under (Le.under (Le.under (Le.under (Le.under (Le.under (Le.under (Le.under (Le.under (Le.refl _) hb1) hb2) hb3) hb4) hb5) hb6) hb24) hb25) hb26) hb27) hb28) hb29) hb30) hb31) ⟨rfl, rfl⟩
                      ·replace hm := cond_f hm g68
                       refine Ops_skip rfl rfl ?_
                       refine Ops_skip rfl rfl ?_
                       refine Ops_skip rfl rfl ?_
                       refine Ops_skip rfl rfl ?_
                       refine Ops_skip rfl rfl ?_
                       refine Ops_skip rfl rfl ?_
                       refine Ops_quiet _ rfl rfl (QO.pick_f rfl rfl rfl) ?_
                       refine Ops_quiet _ rfl rfl (QO.assign rfl rfl) ?_
                       refine Ops_nil ?_
                       refine thenA_n ?_
                       refine wpA_ret ?_
                       obtain rfl := Option.some.inj hm
                       exact retA_r (h2 := h) (Res.one rfl (rfl)) (Le.under (Le.under (Le.under (Le.under (Le.under (Le.under (Le.under (Le.under (Le.under (Le.under (Le.under (Le.under (Le.under (Le.under (Le.refl _) hb1) hb2) hb3) hb4) hb5) hb6) hb24) hb25) hb26) hb27) hb28) hb29) hb30) hb31) ⟨rfl, rfl⟩
                     ·replace hm := cond_f hm g67
                      refine Ops_skip rfl rfl ?_
                      refine Ops_skip rfl rfl ?_
                      refine Ops_skip rfl rfl ?_
                      refine Ops_quiet _ rfl rfl (QO.pick_f rfl rfl rfl) ?_
                      refine Ops_quiet _ rfl rfl (QO.move rfl rfl) ?_
                      refine Ops_skip rfl rfl ?_
                      refine Ops_skip rfl rfl ?_
                      refine Ops_skip rfl rfl ?_
                      refine Ops_skip rfl rfl ?_
                      refine Ops_skip rfl rfl ?_
                      refine Ops_skip rfl rfl ?_
                      refine Ops_quiet _ rfl rfl (QO.pick_f rfl rfl rfl) ?_
                      refine Ops_quiet _ rfl rfl (QO.assign rfl rfl) ?_
                      refine Ops_nil ?_
                      refine thenA_n ?_
                      refine wpA_ret ?_
                      obtain rfl := Option.some.inj hm
                      exact retA_r (h2 := h) (Res.one rfl (rfl)) (Le.under (Le.under (Le.under (Le.under (Le.under (Le.under (Le.under (Le.under (Le.under (Le.under (Le.under (Le.under (Le.under (Le.under (Le.refl _) hb1) hb2) hb3) hb4) hb5) hb6) hb24) hb25) hb26) hb27) hb28) hb29) hb30) hb31) ⟨rfl, rfl⟩
                    ·replace hm := cond_f hm g66
                     refine Ops_skip rfl rfl ?_
                     refine Ops_skip rfl rfl ?_
                     refine Ops_skip rfl rfl ?_
                     refine Ops_quiet _ rfl rfl (QO.pick_f rfl rfl rfl) ?_
                     refine Ops_quiet _ rfl rfl (QO.move rfl rfl) ?_
                     refine Ops_skip rfl rfl ?_
                     refine Ops_skip rfl rfl ?_
                     refine Ops_skip rfl rfl ?_
                     refine Ops_quiet _ rfl rfl (QO.pick_f rfl rfl rfl) ?_
                     refine Ops_quiet _ rfl rfl (QO.move rfl rfl) ?_
                     refine Ops_skip rfl rfl ?_
                     refine Ops_skip rfl rfl ?_
                     refine Ops_skip rfl rfl ?_
                     refine Ops_skip rfl rfl ?_
                     refine Ops_skip rfl rfl ?_
                     refine Ops_skip rfl rfl ?_
                     refine Ops_quiet _ rfl rfl (QO.pick_f rfl rfl rfl) ?_
                     refine Ops_quiet _ rfl rfl (QO.assign rfl rfl) ?_
                     refine Ops_nil ?_
                     refine thenA_n ?_
                     refine wpA_ret ?_
                     obtain rfl := Option.some.inj hm
                     exact retA_r (h2 := h) (Res.one rfl (rfl)) (Le.under (Le.under (Le.under (Le.under (Le.under (Le.under (Le.under (Le.under (Le.under (Le.under (Le.under (Le.under (Le.under (Le.under (Le.refl _) hb1) hb2) hb3) hb4) hb5) hb6) hb24) hb25) hb26) hb27) hb28) hb29) hb30) hb31) ⟨rfl, rfl⟩
                  ·replace hm := cond_f hm g61
                   refine Ops_skip rfl rfl ?_
                   refine Ops_skip rfl rfl ?_
                   refine Ops_skip rfl rfl ?_
                   refine Ops_skip rfl rfl ?_
                   refine Ops_skip rfl rfl ?_
                   refine Ops_skip rfl rfl ?_
                   refine Ops_quiet _ rfl rfl (QO.pick_f rfl rfl rfl) ?_
                   refine Ops_quiet _ rfl rfl (QO.move rfl rfl) ?_
                   refine Ops_skip rfl rfl ?_
                   refine Ops_skip rfl rfl ?_
                   refine Ops_skip rfl rfl ?_
                   refine Ops_quiet _ rfl rfl (QO.pick_f rfl rfl rfl) ?_
                   refine Ops_quiet _ rfl rfl (QO.move rfl rfl) ?_
                   refine Ops_skip rfl rfl ?_
                   refine Ops_skip rfl rfl ?_
                   refine Ops_skip rfl rfl ?_
                   refine Ops_quiet _ rfl rfl (QO.pick_f rfl rfl rfl) ?_
                   refine Ops_quiet _ rfl rfl (QO.move rfl rfl) ?_
                   refine Ops_skip rfl rfl ?_
                   refine Ops_skip rfl rfl ?_
                   refine Ops_skip rfl rfl ?_
                   refine Ops_skip rfl rfl ?_
                   refine Ops_skip rfl rfl ?_
                   refine Ops_skip rfl rfl ?_
                   refine Ops_quiet _ rfl rfl (QO.pick_f rfl rfl rfl) ?_
                   refine Ops_quiet _ rfl rfl (QO.assign rfl rfl) ?_
                   refine Ops_nil ?_
                   refine thenA_n ?_
                   refine wpA_ret ?_
                   obtain rfl := Option.some.inj hm
                   exact retA_r (h2 := h) (Res.one rfl (rfl)) (Le.under (Le.under (Le.under (Le.under (Le.under (Le.under (Le.under (Le.under (Le.under (Le.under (Le.under (Le.under (Le.under (Le.under (Le.refl _) hb1) hb2) hb3) hb4) hb5) hb6) hb24) hb25) hb26) hb27) hb28) hb29) hb30) hb31) ⟨rfl, rfl⟩
                 ·replace hm := cond_f hm g60
                  refine Ops_skip rfl rfl ?_
                  refine Ops_skip rfl rfl ?_
                  refine Ops_skip rfl rfl ?_
                  refine Ops_quiet _ rfl rfl (QO.pick_f rfl rfl rfl) ?_
                  refine Ops_quiet _ rfl rfl (QO.move rfl rfl) ?_
                  refine Ops_skip rfl rfl ?_
                  refine Ops_skip rfl rfl ?_
                  refine Ops_skip rfl rfl ?_
                  refine Ops_skip rfl rfl ?_
                  refine Ops_skip rfl rfl ?_
                  refine Ops_skip rfl rfl ?_
                  refine Ops_quiet _ rfl rfl (QO.pick_f rfl rfl rfl) ?_
                  refine Ops_quiet _ rfl rfl (QO.move rfl rfl) ?_
                  refine Ops_skip rfl rfl ?_
                  refine Ops_skip rfl rfl ?_
                  refine Ops_skip rfl rfl ?_
                  refine Ops_quiet _ rfl rfl (QO.pick_f rfl rfl rfl) ?_
                  refine Ops_quiet _ rfl rfl (QO.move rfl rfl) ?_
                  refine Ops_skip rfl rfl ?_
                  refine Ops_skip rfl rfl ?_
                  refine Ops_skip rfl rfl ?_
                  refine Ops_quiet _ rfl rfl (QO.pick_f rfl rfl rfl) ?_
                  refine Ops_quiet _ rfl rfl (QO.move rfl rfl) ?_
                  refine Ops_skip rfl rfl ?_
                  refine Ops_skip rfl rfl ?_
                  refine Ops_skip rfl rfl ?_
                  refine Ops_skip rfl rfl ?_
                  refine Ops_skip rfl rfl ?_
                  refine Ops_skip rfl rfl ?_
                  refine Ops_quiet _ rfl rfl (QO.pick_f rfl rfl rfl) ?_
                  refine Ops_quiet _ rfl rfl (QO.assign rfl rfl) ?_
                  refine Ops_nil ?_
                  refine thenA_n ?_
                  refine wpA_ret ?_
                  obtain rfl := Option.some.inj hm
                  exact retA_r (h2 := h) (Res.one rfl (rfl)) (Le.under (Le.under (Le.under (Le.under (Le.under (Le.under (Le.under (Le.under (Le.under (Le.under (Le.under (Le.under (Le.under (Le.under (Le.refl _) hb1) hb2) hb3) hb4) hb5) hb6) hb24) hb25) hb26) hb27) hb28) hb29) hb30) hb31) ⟨rfl, rfl⟩
               ·replace hm := cond_f hm g58
                refine QOps.skip rfl rfl ?_
                refine QOps.skip rfl rfl ?_
                refine QOps.skip rfl rfl ?_
                refine QOps.skip rfl rfl ?_
                refine QOps.skip rfl rfl ?_
                refine QOps.quiet _ rfl rfl (QO.pick_f rfl rfl rfl) ?_
                refine QOps.quiet _ rfl rfl (QO.pick_f rfl rfl rfl) ?_
                refine QOps.quiet _ rfl rfl (QO.pick_t rfl rfl rfl) ?_
                refine QOps.nil ?_
                refine thenA_n ?_
                refine wpA_cond_f rfl ?_
                refine wpA_skip ?_
                refine thenA_n ?_
                refine wpA_seq ?_
                refine wpA_region ?_
                refine Ops_quiet _ rfl rfl (QO.move rfl rfl) ?_
                have hq := Option.bind_eq_some_iff.1 hm; clear hm; obtain ⟨r65, hr65, hm⟩ := hq
                refine Ops_call _ _ rfl rfl (EO.fn rfl Try.func19 rfl rfl (Evs.cons rfl Evs.nil)) (QC.cc (c_spec_DrawCyclicSquare (l0 := l0) (A0 := A0) (c0 := c0) hr65 (RdS.le hs0 (Le.under (Le.under (Le.under (Le.under (Le.under (Le.under (Le.under (Le.under (Le.under (Le.under (Le.refl _) hb1) hb2) hb3) hb4) hb5) hb6) hb24) hb25) hb26) hb27))) ?_)
                refine Ops_quiet _ rfl rfl (QO.assign rfl rfl) ?_
                refine Ops_nil ?_
                refine thenA_n ?_
                refine wpA_weaken (show Abs.Sub _ [(0, .slice A0 l0.length c0), (2, .bool false), (31, .int .i64 r65)] from (Sub.cons rfl (Sub.cons rfl (Sub.cons rfl (Sub.nil))))).ok (Le.refl _) ?_
                refine wpA_seq ?_
                refine wpA_region ?_
                refine Ops_quiet _ rfl rfl (QO.move rfl rfl) ?_
                have hq := Option.bind_eq_some_iff.1 hm; clear hm; obtain ⟨r66, hr66, hm⟩ := hq
                refine Ops_call _ _ rfl rfl (EO.fn rfl Try.func20 rfl rfl (Evs.cons rfl Evs.nil)) (QC.cc (c_impl_CyclicSquare hr66 ) ?_)
                refine Ops_quiet _ rfl rfl (QO.move rfl rfl) ?_
                refine Ops_quiet _ rfl rfl (QO.extract rfl rfl rfl) ?_
                refine Ops_quiet _ rfl rfl (QO.extract rfl rfl rfl) ?_
                refine Ops_loud rfl (LO.alloc rfl zr37 rfl (fun b32 hb32 => ?_))
                simp only [upd_noneA] at hb32
                obtain ⟨n_b32_b27, n_b32_b26, n_b32_b25, n_b32_b24, n_b32_b6, n_b32_b5, n_b32_b4, n_b32_b3, n_b32_b2, n_b32_b1, hb32⟩ := hb32
                refine Ops_loud rfl (LO.storeAll (cs := sqC r66.1) rfl sz37 rfl rfl (sqC_one _) (sqC_length _) (upd_same _ _ _) (sqC_length _) Chg.here rfl ?_)
                refine Ops_quiet _ rfl rfl (QO.assign rfl rfl) ?_
                refine Ops_nil ?_
                refine thenA_n ?_
                refine wpA_seq ?_
                refine wpA_region ?_
                refine Ops_quiet _ rfl rfl (QO.move rfl rfl) ?_
                have hq := Option.bind_eq_some_iff.1 hm; clear hm; obtain ⟨r67, hr67, hm⟩ := hq
                refine Ops_call _ _ rfl rfl (EO.fn rfl Try.func21 rfl rfl (Evs.cons rfl Evs.nil)) (QC.cc (c_spec_CyclicSquare hr67 ) ?_)
                refine Ops_quiet _ rfl rfl (QO.move rfl rfl) ?_
                refine Ops_quiet _ rfl rfl (QO.extract rfl rfl rfl) ?_
                refine Ops_quiet _ rfl rfl (QO.extract rfl rfl rfl) ?_
                refine Ops_loud rfl (LO.alloc rfl zr37 rfl (fun b33 hb33 => ?_))
                simp only [upd_noneA] at hb33
                obtain ⟨n_b33_b32, n_b33_b27, n_b33_b26, n_b33_b25, n_b33_b24, n_b33_b6, n_b33_b5, n_b33_b4, n_b33_b3, n_b33_b2, n_b33_b1, hb33⟩ := hb33
                refine Ops_loud rfl (LO.storeAll (cs := sqC r67.1) rfl sz37 rfl rfl (sqC_one _) (sqC_length _) (upd_same _ _ _) (sqC_length _) Chg.here rfl ?_)
                refine Ops_quiet _ rfl rfl (QO.assign rfl rfl) ?_
                refine Ops_nil ?_
                refine thenA_n ?_
                refine wpA_seq ?_
                refine wpA_region ?_
                refine Ops_quiet _ rfl rfl (QO.move rfl rfl) ?_
                have hq := Option.bind_eq_some_iff.1 hm; clear hm; obtain ⟨r68, hr68, hm⟩ := hq
                refine Ops_call _ _ rfl rfl (EO.fn rfl Try.func22 rfl rfl (Evs.cons rfl Evs.nil)) (QC.cc (c_spec_DrawElementarySquare (l0 := l0) (A0 := A0) (c0 := c0) hr68 (RdS.le hs0 (Le.under (Le.under (Le.under (Le.under (Le.under (Le.under (Le.under (Le.under (Le.under (Le.under (Le.under (Le.under (Le.refl _) hb1) hb2) hb3) hb4) hb5) hb6) hb24) hb25) hb26) hb27) hb32) hb33))) ?_)
                refine Ops_quiet _ rfl rfl (QO.assign rfl rfl) ?_
                refine Ops_nil ?_
                refine thenA_n ?_
                refine wpA_seq ?_
                refine wpA_region ?_
                refine Ops_quiet _ rfl rfl (QO.move rfl rfl) ?_
                have hq := Option.bind_eq_some_iff.1 hm; clear hm; obtain ⟨r69, hr69, hm⟩ := hq
                refine Ops_call _ _ rfl rfl (EO.fn rfl Try.func23 rfl rfl (Evs.cons rfl Evs.nil)) (QC.cc (c_impl_ElementarySquare hr69 ) ?_)
                refine Ops_quiet _ rfl rfl (QO.move rfl rfl) ?_
                refine Ops_quiet _ rfl rfl (QO.extract rfl rfl rfl) ?_
                refine Ops_quiet _ rfl rfl (QO.extract rfl rfl rfl) ?_
                refine Ops_loud rfl (LO.alloc rfl zr37 rfl (fun b34 hb34 => ?_))
                simp only [upd_noneA] at hb34
                obtain ⟨n_b34_b33, n_b34_b32, n_b34_b27, n_b34_b26, n_b34_b25, n_b34_b24, n_b34_b6, n_b34_b5, n_b34_b4, n_b34_b3, n_b34_b2, n_b34_b1, hb34⟩ := hb34
                refine Ops_loud rfl (LO.storeAll (cs := sqC r69.1) rfl sz37 rfl rfl (sqC_one _) (sqC_length _) (upd_same _ _ _) (sqC_length _) Chg.here rfl ?_)
                refine Ops_quiet _ rfl rfl (QO.assign rfl rfl) ?_
                refine Ops_nil ?_
                refine thenA_n ?_
                refine wpA_seq ?_
                refine wpA_region ?_
                refine Ops_quiet _ rfl rfl (QO.move rfl rfl) ?_
                have hq := Option.bind_eq_some_iff.1 hm; clear hm; obtain ⟨r70, hr70, hm⟩ := hq
                refine Ops_call _ _ rfl rfl (EO.fn rfl Try.func24 rfl rfl (Evs.cons rfl Evs.nil)) (QC.cc (c_spec_ElementarySquare hr70 ) ?_)
                refine Ops_quiet _ rfl rfl (QO.move rfl rfl) ?_
                refine Ops_quiet _ rfl rfl (QO.extract rfl rfl rfl) ?_
                refine Ops_quiet _ rfl rfl (QO.extract rfl rfl rfl) ?_
                refine Ops_loud rfl (LO.alloc rfl zr37 rfl (fun b35 hb35 => ?_))
                simp only [upd_noneA] at hb35
                obtain ⟨n_b35_b34, n_b35_b33, n_b35_b32, n_b35_b27, n_b35_b26, n_b35_b25, n_b35_b24, n_b35_b6, n_b35_b5, n_b35_b4, n_b35_b3, n_b35_b2, n_b35_b1, hb35⟩ := hb35
                refine Ops_loud rfl (LO.storeAll (cs := sqC r70.1) rfl sz37 rfl rfl (sqC_one _) (sqC_length _) (upd_same _ _ _) (sqC_length _) Chg.here rfl ?_)
                refine Ops_quiet _ rfl rfl (QO.assign rfl rfl) ?_
                refine Ops_nil ?_
                refine thenA_n ?_
                refine wpA_seq ?_
                refine wpA_region ?_
                refine Ops_quiet _ rfl rfl (QO.move rfl rfl) ?_
                refine Ops_quiet _ rfl rfl (QO.move rfl rfl) ?_
                refine Ops_quiet _ rfl rfl (QO.bin rfl rfl rfl rfl) ?_
                refine Ops_quiet _ rfl rfl (QO.move rfl rfl) ?_
                refine Ops_case 262 rfl (fun g70 => ?_) (fun g70 => ?_)
                ·replace hm := cond_t hm g70
                 refine Ops_quiet _ rfl rfl (QO.loadRow (cs := sqC r66.1) (hr := (rdAll ((upd_ne _ _ n_b35_b32.ne.symm).trans ((upd_ne _ _ n_b34_b32.ne.symm).trans ((upd_ne _ _ n_b33_b32.ne.symm).trans (upd_same _ _ _)))))) rfl sz37 rfl rfl (sqC_length _)) ?_
                 refine Ops_quiet _ rfl rfl (QO.loadRow (cs := sqC r67.1) (hr := (rdAll ((upd_ne _ _ n_b35_b33.ne.symm).trans ((upd_ne _ _ n_b34_b33.ne.symm).trans (upd_same _ _ _))))) rfl sz37 rfl rfl (sqC_length _)) ?_
                 refine Ops_quiet _ rfl rfl (QO.agg_eql rfl rfl rfl eg37 (eqv37 _ _) rfl) ?_
                 refine Ops_quiet _ rfl rfl (QO.pick_t rfl rfl rfl) ?_
                 refine Ops_quiet _ rfl rfl (QO.move rfl rfl) ?_
                 refine Ops_case 267 rfl (fun g71 => ?_) (fun g71 => ?_)
                 ·replace hm := cond_t hm g71
                  refine Ops_quiet _ rfl rfl (QO.move rfl rfl) ?_
                  refine Ops_quiet _ rfl rfl (QO.bin rfl rfl rfl rfl) ?_
                  refine Ops_quiet _ rfl rfl (QO.move rfl rfl) ?_
                  refine Ops_case 270 rfl (fun g72 => ?_) (fun g72 => ?_)
                  ·replace hm := cond_t hm g72
                   refine Ops_skip rfl rfl ?_
                   refine Ops_skip rfl rfl ?_
                   refine Ops_quiet _ rfl rfl (QO.pick_t rfl rfl rfl) ?_
                   refine Ops_quiet _ rfl rfl (QO.pick_t rfl rfl rfl) ?_
                   refine Ops_quiet _ rfl rfl (QO.move rfl rfl) ?_
                   refine Ops_quiet _ rfl rfl (QO.move rfl rfl) ?_
                   refine Ops_quiet _ rfl rfl (QO.move rfl rfl) ?_
                   refine Ops_quiet _ rfl rfl (QO.bin rfl rfl rfl rfl) ?_
                   refine Ops_quiet _ rfl rfl (QO.pick_t rfl rfl rfl) ?_
                   refine Ops_quiet _ rfl rfl (QO.move rfl rfl) ?_
                   refine Ops_case 280 rfl (fun g73 => ?_) (fun g73 => ?_)
                   ·replace hm := cond_t hm g73
                    refine Ops_quiet _ rfl rfl (QO.loadRow (cs := sqC r69.1) (hr := (rdAll ((upd_ne _ _ n_b35_b34.ne.symm).trans (upd_same _ _ _)))) rfl sz37 rfl rfl (sqC_length _)) ?_
                    refine Ops_quiet _ rfl rfl (QO.loadRow (cs := sqC r70.1) (hr := (rdAll (upd_same _ _ _))) rfl sz37 rfl rfl (sqC_length _)) ?_
                    refine Ops_quiet _ rfl rfl (QO.agg_eql rfl rfl rfl eg37 (eqv37 _ _) rfl) ?_
                    refine Ops_quiet _ rfl rfl (QO.pick_t rfl rfl rfl) ?_
                    refine Ops_quiet _ rfl rfl (QO.move rfl rfl) ?_
                    refine Ops_case 285 rfl (fun g74 => ?_) (fun g74 => ?_)
                    ·replace hm := cond_t hm g74
                     refine Ops_quiet _ rfl rfl (QO.move rfl rfl) ?_
                     refine Ops_quiet _ rfl rfl (QO.bin rfl rfl rfl rfl) ?_
                     refine Ops_quiet _ rfl rfl (QO.move rfl rfl) ?_
                     refine Ops_case 288 rfl (fun g75 => ?_) (fun g75 => ?_)
                     ·replace hm := cond_t hm g75
                      refine Ops_skip rfl rfl ?_
                      refine Ops_skip rfl rfl ?_
                      refine Ops_quiet _ rfl rfl (QO.pick_t rfl rfl rfl) ?_
                      refine Ops_quiet _ rfl rfl (QO.pick_t rfl rfl rfl) ?_
                      refine Ops_quiet _ rfl rfl (QO.assign rfl rfl) ?_
                      refine Ops_nil ?_
                      refine thenA_n ?_
                      refine wpA_ret ?_
                      obtain rfl := Option.some.inj hm
                      exact retA_r (h2 := h) (Res.one rfl (rfl)) (Le.under (Le.under (Le.under (Le.under (Le.under (Le.under (Le.under (Le.under (Le.under (Le.under (Le.under (Le.under (Le.under (Le.under (Le.refl _) hb1) hb2) hb3) hb4) hb5) hb6) hb24) hb25) hb26) hb27) hb32) hb33) hb34) hb35) ⟨rfl, rfl⟩
                     ·replace hm := cond_f hm g75
                      refine Ops_quiet _ rfl rfl (QO.loadRow (cs := sqC r69.1) (hr := (rdAll ((upd_ne _ _ n_b35_b34.ne.symm).trans (upd_same _ _ _)))) rfl sz37 rfl rfl (sqC_length _)) ?_
                      have hq := Option.bind_eq_some_iff.1 hm; clear hm; obtain ⟨r71, hr71, hm⟩ := hq
                      refine Ops_call _ _ rfl rfl (EO.fn rfl Try.func18 rfl rfl (Evs.cons rfl Evs.nil)) (QC.cc (c_impl_IsGroup hr71 ) ?_)
                      refine Ops_quiet _ rfl rfl (QO.pick_f rfl rfl rfl) ?_
                      refine Ops_quiet _ rfl rfl (QO.pick_t rfl rfl rfl) ?_
                      refine Ops_quiet _ rfl rfl (QO.assign rfl rfl) ?_
                      refine Ops_nil ?_
                      refine thenA_n ?_
                      refine wpA_ret ?_
                      obtain rfl := Option.some.inj hm
                      exact retA_r (h2 := h) (Res.one rfl (rfl)) (Le.under (Le.under (Le.under (Le.under (Le.under (Le.under (Le.under (Le.under (Le.under (Le.under (Le.under (Le.under (Le.under (Le.under (Le.refl _) hb1) hb2) hb3) hb4) hb5) hb6) hb24) hb25) hb26) hb27) hb32) hb33) hb34) hb35) ⟨rfl, rfl⟩
                    ·replace hm := cond_f hm g74
                     refine Ops_skip rfl rfl ?_
                     refine Ops_skip rfl rfl ?_
                     refine Ops_skip rfl rfl ?_
                     refine Ops_skip rfl rfl ?_
                     refine Ops_skip rfl rfl ?_
                     refine Ops_skip rfl rfl ?_
                     refine Ops_quiet _ rfl rfl (QO.pick_f rfl rfl rfl) ?_
                     refine Ops_quiet _ rfl rfl (QO.assign rfl rfl) ?_
                     refine Ops_nil ?_
                     refine thenA_n ?_
                     refine wpA_ret ?_
                     obtain rfl := Option.some.inj hm
                     exact retA_r (h2 := h) (Res.one rfl (rfl)) (Le.under (Le.under (Le.under (Le.under (Le.under (Le.under (Le.under (Le.under (Le.under (Le.under (Le.under (Le.under (Le.under (Le.under (Le.refl _) hb1) hb2) hb3) hb4) hb5) hb6) hb24) hb25) hb26) hb27) hb32) hb33) hb34) hb35) ⟨rfl, rfl⟩
                   ·replace hm := cond_f hm g73
                    refine Ops_skip rfl rfl ?_
                    refine Ops_skip rfl rfl ?_
                    refine Ops_skip rfl rfl ?_
                    refine Ops_quiet _ rfl rfl (QO.pick_f rfl rfl rfl) ?_
                    refine Ops_quiet _ rfl rfl (QO.move rfl rfl) ?_
                    refine Ops_skip rfl rfl ?_
                    refine Ops_skip rfl rfl ?_
                    refine Ops_skip rfl rfl ?_
                    refine Ops_skip rfl rfl ?_
                    refine Ops_skip rfl rfl ?_
                    refine Ops_skip rfl rfl ?_
                    refine Ops_quiet _ rfl rfl (QO.pick_f rfl rfl rfl) ?_
                    refine Ops_quiet _ rfl rfl (QO.assign rfl rfl) ?_
                    refine Ops_nil ?_
                    refine thenA_n ?_
                    refine wpA_ret ?_
                    obtain rfl := Option.some.inj hm
                    exact retA_r (h2 := h) (Res.one rfl (rfl)) (Le.under (Le.under (Le.under (Le.under (Le.under (Le.under (Le.under (Le.under (Le.under (Le.under (Le.under (Le.under (Le.under (Le.under (Le.refl _) hb1) hb2) hb3) hb4) hb5) hb6) hb24) hb25) hb26) hb27) hb32) hb33) hb34) hb35) ⟨rfl, rfl⟩
                  ·replace hm := cond_f hm g72
                   refine Ops_quiet _ rfl rfl (QO.loadRow (cs := sqC r66.1) (hr := (rdAll ((upd_ne _ _ n_b35_b32.ne.symm).trans ((upd_ne _ _ n_b34_b32.ne.symm).trans ((upd_ne _ _ n_b33_b32.ne.symm).trans (upd_same _ _ _)))))) rfl sz37 rfl rfl (sqC_length _)) ?_
                   have hq := Option.bind_eq_some_iff.1 hm; clear hm; obtain ⟨r72, hr72, hm⟩ := hq
                   refine Ops_call _ _ rfl rfl (EO.fn rfl Try.func18 rfl rfl (Evs.cons rfl Evs.nil)) (QC.cc (c_impl_IsGroup hr72 ) ?_)
                   refine Ops_quiet _ rfl rfl (QO.pick_f rfl rfl rfl) ?_
                   refine Ops_quiet _ rfl rfl (QO.pick_t rfl rfl rfl) ?_
                   refine Ops_quiet _ rfl rfl (QO.move rfl rfl) ?_
                   refine Ops_case 275 rfl (fun g76 => ?_) (fun g76 => ?_)
                   ·replace hm := cond_t hm g76
                    refine Ops_quiet _ rfl rfl (QO.move rfl rfl) ?_
                    refine Ops_quiet _ rfl rfl (QO.move rfl rfl) ?_
                    refine Ops_quiet _ rfl rfl (QO.bin rfl rfl rfl rfl) ?_
                    refine Ops_quiet _ rfl rfl (QO.pick_t rfl rfl rfl) ?_
                    refine Ops_quiet _ rfl rfl (QO.move rfl rfl) ?_
                    refine Ops_case 280 rfl (fun g77 => ?_) (fun g77 => ?_)
                    ·replace hm := cond_t hm g77
                     refine Ops_quiet _ rfl rfl (QO.loadRow (cs := sqC r69.1) (hr := (rdAll ((upd_ne _ _ n_b35_b34.ne.symm).trans (upd_same _ _ _)))) rfl sz37 rfl rfl (sqC_length _)) ?_
                     refine Ops_quiet _ rfl rfl (QO.loadRow (cs := sqC r70.1) (hr := (rdAll (upd_same _ _ _))) rfl sz37 rfl rfl (sqC_length _)) ?_
                     refine Ops_quiet _ rfl rfl (QO.agg_eql rfl rfl rfl eg37 (eqv37 _ _) rfl) ?_
                     refine Ops_quiet _ rfl rfl (QO.pick_t rfl rfl rfl) ?_
                     refine Ops_quiet _ rfl rfl (QO.move rfl rfl) ?_
                     refine Ops_case 285 rfl (fun g78 => ?_) (fun g78 => ?_)
                     ·replace hm := cond_t hm g78
                      refine Ops_quiet _ rfl rfl (QO.move rfl rfl) ?_
                      refine Ops_quiet _ rfl rfl (QO.bin rfl rfl rfl rfl) ?_
                      refine Ops_quiet _ rfl rfl (QO.move rfl rfl) ?_
                      refine Ops_case 288 rfl (fun g79 => ?_) (fun g79 => ?_)
                      ·replace hm := cond_t hm g79
                       refine Ops_skip rfl rfl ?_
                       refine Ops_skip rfl rfl ?_
                       refine Ops_quiet _ rfl rfl (QO.pick_t rfl rfl rfl) ?_
                       refine Ops_quiet _ rfl rfl (QO.pick_t rfl rfl rfl) ?_
                       refine Ops_quiet _ rfl rfl (QO.assign rfl rfl) ?_
                       refine Ops_nil ?_
                       refine thenA_n ?_
                       refine wpA_ret ?_
                       obtain rfl := Option.some.inj hm
                       exact retA_r (h2 := h) (Res.one rfl (rfl)) (Le.under (Le.under (Le.under (Le.under (Le.under (Le.under (Le.under (Le.under (Le.under (Le.under (Le.under (Le.under (Le.under (Le.under (Le.refl _) hb1) hb2) hb3) hb4) hb5) hb6) hb24) hb25) hb26) hb27) hb32) hb33) hb34) hb35) ⟨rfl, rfl⟩
                      ·replace hm := cond_f hm g79
                       refine Ops_quiet _ rfl rfl (QO.loadRow (cs := sqC r69.1) (hr := (rdAll ((upd_ne _ _ n_b35_b34.ne.symm).trans (upd_same _ _ _)))) rfl sz37 rfl rfl (sqC_length _)) ?_
                       have hq := Option.bind_eq_some_iff.1 hm; clear hm; obtain ⟨r73, hr73, hm⟩ := hq
                       refine Ops_call _ _ rfl rfl (EO.fn rfl Try.func18 rfl rfl (Evs.cons rfl Evs.nil)) (QC.cc (c_impl_IsGroup hr73 ) ?_)
                       refine Ops_quiet _ rfl rfl (QO.pick_f rfl rfl rfl) ?_
                       refine Ops_quiet _ rfl rfl (QO.pick_t rfl rfl rfl) ?_
                       refine Ops_quiet _ rfl rfl (QO.assign rfl rfl) ?_
                       refine Ops_nil ?_
                       refine thenA_n ?_
                       refine wpA_ret ?_
                       obtain rfl := Option.some.inj hm
                       exact retA_r (h2 := h) (Res.one rfl (rfl)) (Le.under (Le.under (Le.under (Le.under (Le.under (Le.under (Le.under (Le.under (Le.under (Le.under (Le.under (Le.under (Le.under (Le.under (Le.refl _) hb1) hb2) hb3) hb4) hb5) hb6) hb24) hb25) hb26) hb27) hb32) hb33) hb34) hb35) ⟨rfl, rfl⟩
                     ·replace hm := cond_f hm g78
                      refine Ops_skip rfl rfl ?_
                      refine Ops_skip rfl rfl ?_
                      refine Ops_skip rfl rfl ?_
                      refine Ops_skip rfl rfl ?_
                      refine Ops_skip rfl rfl ?_
                      refine Ops_skip rfl rfl ?_
                      refine Ops_quiet _ rfl rfl (QO.pick_f rfl rfl rfl) ?_
                      refine Ops_quiet _ rfl rfl (QO.assign rfl rfl) ?_
                      refine Ops_nil ?_
                      refine thenA_n ?_
                      refine wpA_ret ?_
                      obtain rfl := Option.some.inj hm
                      exact retA_r (h2 := h) (Res.one rfl (rfl)) (Le.under (Le.under (Le.under (Le.under (Le.under (Le.under (Le.under (Le.under (Le.under (Le.under (Le.under (Le.under (Le.under (Le.under (Le.refl _) hb1) hb2) hb3) hb4) hb5) hb6) hb24) hb25) hb26) hb27) hb32) hb33) hb34) hb35) ⟨rfl, rfl⟩
                    ·replace hm := cond_f hm g77
                     refine Ops_skip rfl rfl ?_
                     refine Ops_skip rfl rfl ?_
                     refine Ops_skip rfl rfl ?_
                     refine Ops_quiet _ rfl rfl (QO.pick_f rfl rfl rfl) ?_
                     refine Ops_quiet _ rfl rfl (QO.move rfl rfl) ?_
                     refine Ops_skip rfl rfl ?_
                     refine Ops_skip rfl rfl ?_
                     refine Ops_skip rfl rfl ?_
                     refine Ops_skip rfl rfl ?_
                     refine Ops_skip rfl rfl ?_
                     refine Ops_skip rfl rfl ?_
                     refine Ops_quiet _ rfl rfl (QO.pick_f rfl rfl rfl) ?_
                     refine Ops_quiet _ rfl rfl (QO.assign rfl rfl) ?_
                     refine Ops_nil ?_
                     refine thenA_n ?_
                     refine wpA_ret ?_
                     obtain rfl := Option.some.inj hm
                     exact retA_r (h2 := h) (Res.one rfl (rfl)) (Le.under (Le.under (Le.under (Le.under (Le.under (Le.under (Le.under (Le.under (Le.under (Le.under (Le.under (Le.under (Le.under (Le.under (Le.refl _) hb1) hb2) hb3) hb4) hb5) hb6) hb24) hb25) hb26) hb27) hb32) hb33) hb34) hb35) ⟨rfl, rfl⟩
                   ·replace hm := cond_f hm g76
                    refine Ops_skip rfl rfl ?_
                    refine Ops_skip rfl rfl ?_
                    refine Ops_skip rfl rfl ?_
                    refine Ops_quiet _ rfl rfl (QO.pick_f rfl rfl rfl) ?_
                    refine Ops_quiet _ rfl rfl (QO.move rfl rfl) ?_
                    refine Ops_skip rfl rfl ?_
                    refine Ops_skip rfl rfl ?_
                    refine Ops_skip rfl rfl ?_
                    refine Ops_quiet _ rfl rfl (QO.pick_f rfl rfl rfl) ?_
                    refine Ops_quiet _ rfl rfl (QO.move rfl rfl) ?_
                    refine Ops_skip rfl rfl ?_
                    refine Ops_skip rfl rfl ?_
                    refine Ops_skip rfl rfl ?_
                    refine Ops_skip rfl rfl ?_
                    refine Ops_skip rfl rfl ?_
                    refine Ops_skip rfl rfl ?_
                    refine Ops_quiet _ rfl rfl (QO.pick_f rfl rfl rfl) ?_
                    refine Ops_quiet _ rfl rfl (QO.assign rfl rfl) ?_
                    refine Ops_nil ?_
                    refine thenA_n ?_
                    refine wpA_ret ?_
                    obtain rfl := Option.some.inj hm
                    exact retA_r (h2 := h) (Res.one rfl (rfl)) (Le.under (Le.under (Le.under (Le.under (Le.under (Le.under (Le.under (Le.under (Le.under (Le.under (Le.under (Le.under (Le.under (Le.under (Le.refl _) hb1) hb2) hb3) hb4) hb5) hb6) hb24) hb25) hb26) hb27) hb32) hb33) hb34) hb35) ⟨rfl, rfl⟩
                 ·replace hm := cond_f hm g71
                  refine Ops_skip rfl rfl ?_
                  refine Ops_skip rfl rfl ?_
                  refine Ops_skip rfl rfl ?_
                  refine Ops_skip rfl rfl ?_
                  refine Ops_skip rfl rfl ?_
                  refine Ops_skip rfl rfl ?_
                  refine Ops_quiet _ rfl rfl (QO.pick_f rfl rfl rfl) ?_
                  refine Ops_quiet _ rfl rfl (QO.move rfl rfl) ?_
                  refine Ops_skip rfl rfl ?_
                  refine Ops_skip rfl rfl ?_
                  refine Ops_skip rfl rfl ?_
                  refine Ops_quiet _ rfl rfl (QO.pick_f rfl rfl rfl) ?_
                  refine Ops_quiet _ rfl rfl (QO.move rfl rfl) ?_
                  refine Ops_skip rfl rfl ?_
                  refine Ops_skip rfl rfl ?_
                  refine Ops_skip rfl rfl ?_
                  refine Ops_quiet _ rfl rfl (QO.pick_f rfl rfl rfl) ?_
                  refine Ops_quiet _ rfl rfl (QO.move rfl rfl) ?_
                  refine Ops_skip rfl rfl ?_
                  refine Ops_skip rfl rfl ?_
                  refine Ops_skip rfl rfl ?_
                  refine Ops_skip rfl rfl ?_
                  refine Ops_skip rfl rfl ?_
                  refine Ops_skip rfl rfl ?_
                  refine Ops_quiet _ rfl rfl (QO.pick_f rfl rfl rfl) ?_
                  refine Ops_quiet _ rfl rfl (QO.assign rfl rfl) ?_
                  refine Ops_nil ?_
                  refine thenA_n ?_
                  refine wpA_ret ?_
                  obtain rfl := Option.some.inj hm
                  exact retA_r (h2 := h) (Res.one rfl (rfl)) (Le.under (Le.under (Le.under (Le.under (Le.under (Le.under (Le.under (Le.under (Le.under (Le.under (Le.under (Le.under (Le.under (Le.under (Le.refl _) hb1) hb2) hb3) hb4) hb5) hb6) hb24) hb25) hb26) hb27) hb32) hb33) hb34) hb35) ⟨rfl, rfl⟩
                ·replace hm := cond_f hm g70
                 refine Ops_skip rfl rfl ?_
                 refine Ops_skip rfl rfl ?_
                 refine Ops_skip rfl rfl ?_
                 refine Ops_quiet _ rfl rfl (QO.pick_f rfl rfl rfl) ?_
                 refine Ops_quiet _ rfl rfl (QO.move rfl rfl) ?_
                 refine Ops_skip rfl rfl ?_
                 refine Ops_skip rfl rfl ?_
                 refine Ops_skip rfl rfl ?_
                 refine Ops_skip rfl rfl ?_
                 refine Ops_skip rfl rfl ?_
                 refine Ops_skip rfl rfl ?_
                 refine Ops_quiet _ rfl rfl (QO.pick_f rfl rfl rfl) ?_
                 refine Ops_quiet _ rfl rfl (QO.move rfl rfl) ?_
                 refine Ops_skip rfl rfl ?_
                 refine Ops_skip rfl rfl ?_
                 refine Ops_skip rfl rfl ?_
                 refine Ops_quiet _ rfl rfl (QO.pick_f rfl rfl rfl) ?_
                 refine Ops_quiet _ rfl rfl (QO.move rfl rfl) ?_
                 refine Ops_skip rfl rfl ?_
                 refine Ops_skip rfl rfl ?_
                 refine Ops_skip rfl rfl ?_
                 refine Ops_quiet _ rfl rfl (QO.pick_f rfl rfl rfl) ?_
                 refine Ops_quiet _ rfl rfl (QO.move rfl rfl) ?_
                 refine Ops_skip rfl rfl ?_
                 refine Ops_skip rfl rfl ?_
                 refine Ops_skip rfl rfl ?_
                 refine Ops_skip rfl rfl ?_
                 refine Ops_skip rfl rfl ?_
                 refine Ops_skip rfl rfl ?_
                 refine Ops_quiet _ rfl rfl (QO.pick_f rfl rfl rfl) ?_
                 refine Ops_quiet _ rfl rfl (QO.assign rfl rfl) ?_
                 refine Ops_nil ?_
                 refine thenA_n ?_
                 refine wpA_ret ?_
                 obtain rfl := Option.some.inj hm
                 exact retA_r (h2 := h) (Res.one rfl (rfl)) (Le.under (Le.under (Le.under (Le.under (Le.under (Le.under (Le.under (Le.under (Le.under (Le.under (Le.under (Le.under (Le.under (Le.under (Le.refl _) hb1) hb2) hb3) hb4) hb5) hb6) hb24) hb25) hb26) hb27) hb32) hb33) hb34) hb35) ⟨rfl, rfl⟩
             ·replace hm := cond_f hm g56
              refine QOps.skip rfl rfl ?_
              refine QOps.skip rfl rfl ?_
              refine QOps.skip rfl rfl ?_
              refine QOps.skip rfl rfl ?_
              refine QOps.skip rfl rfl ?_
              refine QOps.skip rfl rfl ?_
              refine QOps.skip rfl rfl ?_
              refine QOps.skip rfl rfl ?_
              refine QOps.skip rfl rfl ?_
              refine QOps.skip rfl rfl ?_
              refine QOps.skip rfl rfl ?_
              refine QOps.skip rfl rfl ?_
              refine QOps.skip rfl rfl ?_
              refine QOps.skip rfl rfl ?_
              refine QOps.quiet _ rfl rfl (QO.pick_f rfl rfl rfl) ?_
              refine QOps.nil ?_
              refine thenA_n ?_
              refine wpA_cond_f rfl ?_
              refine wpA_skip ?_
              refine thenA_n ?_
              refine wpA_seq ?_
              refine wpA_region ?_
              refine Ops_quiet _ rfl rfl (QO.move rfl rfl) ?_
              have hq := Option.bind_eq_some_iff.1 hm; clear hm; obtain ⟨r74, hr74, hm⟩ := hq
              refine Ops_call _ _ rfl rfl (EO.fn rfl Try.func19 rfl rfl (Evs.cons rfl Evs.nil)) (QC.cc (c_spec_DrawCyclicSquare (l0 := l0) (A0 := A0) (c0 := c0) hr74 (RdS.le hs0 (Le.under (Le.under (Le.under (Le.under (Le.under (Le.under (Le.under (Le.under (Le.under (Le.under (Le.refl _) hb1) hb2) hb3) hb4) hb5) hb6) hb24) hb25) hb26) hb27))) ?_)
              refine Ops_quiet _ rfl rfl (QO.assign rfl rfl) ?_
              refine Ops_nil ?_
              refine thenA_n ?_
              refine wpA_weaken (show Abs.Sub _ [(0, .slice A0 l0.length c0), (2, .bool false), (31, .int .i64 r74)] from (Sub.cons rfl (Sub.cons rfl (Sub.cons rfl (Sub.nil))))).ok (Le.refl _) ?_
              refine wpA_seq ?_
              refine wpA_region ?_
              refine Ops_quiet _ rfl rfl (QO.move rfl rfl) ?_
              have hq := Option.bind_eq_some_iff.1 hm; clear hm; obtain ⟨r75, hr75, hm⟩ := hq
              refine Ops_call _ _ rfl rfl (EO.fn rfl Try.func20 rfl rfl (Evs.cons rfl Evs.nil)) (QC.cc (c_impl_CyclicSquare hr75 ) ?_)
              refine Ops_quiet _ rfl rfl (QO.move rfl rfl) ?_
              refine Ops_quiet _ rfl rfl (QO.extract rfl rfl rfl) ?_
              refine Ops_quiet _ rfl rfl (QO.extract rfl rfl rfl) ?_
              refine Ops_loud rfl (LO.alloc rfl zr37 rfl (fun b36 hb36 => ?_))
              simp only [upd_noneA] at hb36
              obtain ⟨n_b36_b27, n_b36_b26, n_b36_b25, n_b36_b24, n_b36_b6, n_b36_b5, n_b36_b4, n_b36_b3, n_b36_b2, n_b36_b1, hb36⟩ := hb36
              refine Ops_loud rfl (LO.storeAll (cs := sqC r75.1) rfl sz37 rfl rfl (sqC_one _) (sqC_length _) (upd_same _ _ _) (sqC_length _) Chg.here rfl ?_)
              refine Ops_quiet _ rfl rfl (QO.assign rfl rfl) ?_
              refine Ops_nil ?_
              refine thenA_n ?_
              refine wpA_seq ?_
              refine wpA_region ?_
              refine Ops_quiet _ rfl rfl (QO.move rfl rfl) ?_
              have hq := Option.bind_eq_some_iff.1 hm; clear hm; obtain ⟨r76, hr76, hm⟩ := hq
              refine Ops_call _ _ rfl rfl (EO.fn rfl Try.func21 rfl rfl (Evs.cons rfl Evs.nil)) (QC.cc (c_spec_CyclicSquare hr76 ) ?_)
              refine Ops_quiet _ rfl rfl (QO.move rfl rfl) ?_
              refine Ops_quiet _ rfl rfl (QO.extract rfl rfl rfl) ?_
              refine Ops_quiet _ rfl rfl (QO.extract rfl rfl rfl) ?_
              refine Ops_loud rfl (LO.alloc rfl zr37 rfl (fun b37 hb37 => ?_))
              simp only [upd_noneA] at hb37
              obtain ⟨n_b37_b36, n_b37_b27, n_b37_b26, n_b37_b25, n_b37_b24, n_b37_b6, n_b37_b5, n_b37_b4, n_b37_b3, n_b37_b2, n_b37_b1, hb37⟩ := hb37
              refine Ops_loud rfl (LO.storeAll (cs := sqC r76.1) rfl sz37 rfl rfl (sqC_one _) (sqC_length _) (upd_same _ _ _) (sqC_length _) Chg.here rfl ?_)
              refine Ops_quiet _ rfl rfl (QO.assign rfl rfl) ?_
              refine Ops_nil ?_
              refine thenA_n ?_
              refine wpA_seq ?_
              refine wpA_region ?_
              refine Ops_quiet _ rfl rfl (QO.move rfl rfl) ?_
              have hq := Option.bind_eq_some_iff.1 hm; clear hm; obtain ⟨r77, hr77, hm⟩ := hq
              refine Ops_call _ _ rfl rfl (EO.fn rfl Try.func22 rfl rfl (Evs.cons rfl Evs.nil)) (QC.cc (c_spec_DrawElementarySquare (l0 := l0) (A0 := A0) (c0 := c0) hr77 (RdS.le hs0 (Le.under (Le.under (Le.under (Le.under (Le.under (Le.under (Le.under (Le.under (Le.under (Le.under (Le.under (Le.under (Le.refl _) hb1) hb2) hb3) hb4) hb5) hb6) hb24) hb25) hb26) hb27) hb36) hb37))) ?_)
              refine Ops_quiet _ rfl rfl (QO.assign rfl rfl) ?_
              refine Ops_nil ?_
              refine thenA_n ?_
              refine wpA_seq ?_
              refine wpA_region ?_
              refine Ops_quiet _ rfl rfl (QO.move rfl rfl) ?_
              have hq := Option.bind_eq_some_iff.1 hm; clear hm; obtain ⟨r78, hr78, hm⟩ := hq
              refine Ops_call _ _ rfl rfl (EO.fn rfl Try.func23 rfl rfl (Evs.cons rfl Evs.nil)) (QC.cc (c_impl_ElementarySquare hr78 ) ?_)
              refine Ops_quiet _ rfl rfl (QO.move rfl rfl) ?_
              refine Ops_quiet _ rfl rfl (QO.extract rfl rfl rfl) ?_
              refine Ops_quiet _ rfl rfl (QO.extract rfl rfl rfl) ?_
              refine Ops_loud rfl (LO.alloc rfl zr37 rfl (fun b38 hb38 => ?_))
              simp only [upd_noneA] at hb38
              obtain ⟨n_b38_b37, n_b38_b36, n_b38_b27, n_b38_b26, n_b38_b25, n_b38_b24, n_b38_b6, n_b38_b5, n_b38_b4, n_b38_b3, n_b38_b2, n_b38_b1, hb38⟩ := hb38
              refine Ops_loud rfl (LO.storeAll (cs := sqC r78.1) rfl sz37 rfl rfl (sqC_one _) (sqC_length _) (upd_same _ _ _) (sqC_length _) Chg.here rfl ?_)
              refine Ops_quiet _ rfl rfl (QO.assign rfl rfl) ?_
              refine Ops_nil ?_
              refine thenA_n ?_
              refine wpA_seq ?_
              refine wpA_region ?_
              refine Ops_quiet _ rfl rfl (QO.move rfl rfl) ?_
              have hq := Option.bind_eq_some_iff.1 hm; clear hm; obtain ⟨r79, hr79, hm⟩ := hq
              refine Ops_call _ _ rfl rfl (EO.fn rfl Try.func24 rfl rfl (Evs.cons rfl Evs.nil)) (QC.cc (c_spec_ElementarySquare hr79 ) ?_)
              refine Ops_quiet _ rfl rfl (QO.move rfl rfl) ?_
              refine Ops_quiet _ rfl rfl (QO.extract rfl rfl rfl) ?_
              refine Ops_quiet _ rfl rfl (QO.extract rfl rfl rfl) ?_
              refine Ops_loud rfl (LO.alloc rfl zr37 rfl (fun b39 hb39 => ?_))
              simp only [upd_noneA] at hb39
              obtain ⟨n_b39_b38, n_b39_b37, n_b39_b36, n_b39_b27, n_b39_b26, n_b39_b25, n_b39_b24, n_b39_b6, n_b39_b5, n_b39_b4, n_b39_b3, n_b39_b2, n_b39_b1, hb39⟩ := hb39
              refine Ops_loud rfl (LO.storeAll (cs := sqC r79.1) rfl sz37 rfl rfl (sqC_one _) (sqC_length _) (upd_same _ _ _) (sqC_length _) Chg.here rfl ?_)
              refine Ops_quiet _ rfl rfl (QO.assign rfl rfl) ?_
              refine Ops_nil ?_
              refine thenA_n ?_
              refine wpA_seq ?_
              refine wpA_region ?_
              refine Ops_quiet _ rfl rfl (QO.move rfl rfl) ?_
              refine Ops_quiet _ rfl rfl (QO.move rfl rfl) ?_
              refine Ops_quiet _ rfl rfl (QO.bin rfl rfl rfl rfl) ?_
              refine Ops_quiet _ rfl rfl (QO.move rfl rfl) ?_
              refine Ops_case 262 rfl (fun g80 => ?_) (fun g80 => ?_)
              ·replace hm := cond_t hm g80
               refine Ops_quiet _ rfl rfl (QO.loadRow (cs := sqC r75.1) (hr := (rdAll ((upd_ne _ _ n_b39_b36.ne.symm).trans ((upd_ne _ _ n_b38_b36.ne.symm).trans ((upd_ne _ _ n_b37_b36.ne.symm).trans (upd_same _ _ _)))))) rfl sz37 rfl rfl (sqC_length _)) ?_
               refine Ops_quiet _ rfl rfl (QO.loadRow (cs := sqC r76.1) (hr := (rdAll ((upd_ne _ _ n_b39_b37.ne.symm).trans ((upd_ne _ _ n_b38_b37.ne.symm).trans (upd_same _ _ _))))) rfl sz37 rfl rfl (sqC_length _)) ?_
               refine Ops_quiet _ rfl rfl (QO.agg_eql rfl rfl rfl eg37 (eqv37 _ _) rfl) ?_
               refine Ops_quiet _ rfl rfl (QO.pick_t rfl rfl rfl) ?_
               refine Ops_quiet _ rfl rfl (QO.move rfl rfl) ?_
               refine Ops_case 267 rfl (fun g81 => ?_) (fun g81 => ?_)
               ·replace hm := cond_t hm g81
                refine Ops_quiet _ rfl rfl (QO.move rfl rfl) ?_
                refine Ops_quiet _ rfl rfl (QO.bin rfl rfl rfl rfl) ?_
                refine Ops_quiet _ rfl rfl (QO.move rfl rfl) ?_
                refine Ops_case 270 rfl (fun g82 => ?_) (fun g82 => ?_)
                ·replace hm := cond_t hm g82
                 refine Ops_skip rfl rfl ?_
                 refine Ops_skip rfl rfl ?_
                 refine Ops_quiet _ rfl rfl (QO.pick_t rfl rfl rfl) ?_
                 refine Ops_quiet _ rfl rfl (QO.pick_t rfl rfl rfl) ?_
                 refine Ops_quiet _ rfl rfl (QO.move rfl rfl) ?_
                 refine Ops_quiet _ rfl rfl (QO.move rfl rfl) ?_
                 refine Ops_quiet _ rfl rfl (QO.move rfl rfl) ?_
                 refine Ops_quiet _ rfl rfl (QO.bin rfl rfl rfl rfl) ?_
                 refine Ops_quiet _ rfl rfl (QO.pick_t rfl rfl rfl) ?_
                 refine Ops_quiet _ rfl rfl (QO.move rfl rfl) ?_
                 refine Ops_case 280 rfl (fun g83 => ?_) (fun g83 => ?_)
                 ·replace hm := cond_t hm g83
                  refine Ops_quiet _ rfl rfl (QO.loadRow (cs := sqC r78.1) (hr := (rdAll ((upd_ne _ _ n_b39_b38.ne.symm).trans (upd_same _ _ _)))) rfl sz37 rfl rfl (sqC_length _)) ?_
                  refine Ops_quiet _ rfl rfl (QO.loadRow (cs := sqC r79.1) (hr := (rdAll (upd_same _ _ _))) rfl sz37 rfl rfl (sqC_length _)) ?_
                  refine Ops_quiet _ rfl rfl (QO.agg_eql rfl rfl rfl eg37 (eqv37 _ _) rfl) ?_
                  refine Ops_quiet _ rfl rfl (QO.pick_t rfl rfl rfl) ?_
                  refine Ops_quiet _ rfl rfl (QO.move rfl rfl) ?_
                  refine Ops_case 285 rfl (fun g84 => ?_) (fun g84 => ?_)
                  ·replace hm := cond_t hm g84
                   refine Ops_quiet _ rfl rfl (QO.move rfl rfl) ?_
                   refine Ops_quiet _ rfl rfl (QO.bin rfl rfl rfl rfl) ?_
                   refine Ops_quiet _ rfl rfl (QO.move rfl rfl) ?_
                   refine Ops_case 288 rfl (fun g85 => ?_) (fun g85 => ?_)
                   ·replace hm := cond_t hm g85
                    refine Ops_skip rfl rfl ?_
                    refine Ops_skip rfl rfl ?_
                    refine Ops_quiet _ rfl rfl (QO.pick_t rfl rfl rfl) ?_
                    refine Ops_quiet _ rfl rfl (QO.pick_t rfl rfl rfl) ?_
                    refine Ops_quiet _ rfl rfl (QO.assign rfl rfl) ?_
                    refine Ops_nil ?_
                    refine thenA_n ?_
                    refine wpA_ret ?_
                    obtain rfl := Option.some.inj hm
                    exact retA_r (h2 := h) (Res.one rfl (rfl)) (Le.under (Le.under (Le.under (Le.under (Le.under (Le.under (Le.under (Le.under (Le.under (Le.under (Le.under (Le.under (Le.under (Le.under (Le.refl _) hb1) hb2) hb3) hb4) hb5) hb6) hb24) hb25) hb26) hb27) hb36) hb37) hb38) hb39) ⟨rfl, rfl⟩
                   ·replace hm := cond_f hm g85
                    refine Ops_quiet _ rfl rfl (QO.loadRow (cs := sqC r78.1) (hr := (rdAll ((upd_ne _ _ n_b39_b38.ne.symm).trans (upd_same _ _ _)))) rfl sz37 rfl rfl (sqC_length _)) ?_
                    have hq := Option.bind_eq_some_iff.1 hm; clear hm; obtain ⟨r80, hr80, hm⟩ := hq
                    refine Ops_call _ _ rfl rfl (EO.fn rfl Try.func18 rfl rfl (Evs.cons rfl Evs.nil)) (QC.cc (c_impl_IsGroup hr80 ) ?_)
                    refine Ops_quiet _ rfl rfl (QO.pick_f rfl rfl rfl) ?_
                    refine Ops_quiet _ rfl rfl (QO.pick_t rfl rfl rfl) ?_
                    refine Ops_quiet _ rfl rfl (QO.assign rfl rfl) ?_
                    refine Ops_nil ?_
                    refine thenA_n ?_
                    refine wpA_ret ?_
                    obtain rfl := Option.some.inj hm
                    exact retA_r (h2 := h) (Res.one rfl (rfl)) (Le.under (Le.under (Le.under (Le.under (Le.under (Le.under (Le.under (Le.under (Le.under (Le.under (Le.under (Le.under (Le.under (Le.under (Le.refl _) hb1) hb2) hb3) hb4) hb5) hb6) hb24) hb25) hb26) hb27) hb36) hb37) hb38) hb39) ⟨rfl, rfl⟩
                  ·replace hm := cond_f hm g84
                   refine Ops_skip rfl rfl ?_
                   refine Ops_skip rfl rfl ?_
                   refine Ops_skip rfl rfl ?_
                   refine Ops_skip rfl rfl ?_
                   refine Ops_skip rfl rfl ?_
                   refine Ops_skip rfl rfl ?_
                   refine Ops_quiet _ rfl rfl (QO.pick_f rfl rfl rfl) ?_
                   refine Ops_quiet _ rfl rfl (QO.assign rfl rfl) ?_
                   refine Ops_nil ?_
                   refine thenA_n ?_
                   refine wpA_ret ?_
                   obtain rfl := Option.some.inj hm
                   exact retA_r (h2 := h) (Res.one rfl (rfl)) (Le.under (Le.under (Le.under (Le.under (Le.under (Le.under (Le.under (Le.under (Le.under (Le.under (Le.under (Le.under (Le.under (Le.under (Le.refl _) hb1) hb2) hb3) hb4) hb5) hb6) hb24) hb25) hb26) hb27) hb36) hb37) hb38) hb39) ⟨rfl, rfl⟩
                 ·replace hm := cond_f hm g83
                  refine Ops_skip rfl rfl ?_
                  refine Ops_skip rfl rfl ?_
                  refine Ops_skip rfl rfl ?_
                  refine Ops_quiet _ rfl rfl (QO.pick_f rfl rfl rfl) ?_
                  refine Ops_quiet _ rfl rfl (QO.move rfl rfl) ?_
                  refine Ops_skip rfl rfl ?_
                  refine Ops_skip rfl rfl ?_
                  refine Ops_skip rfl rfl ?_
                  refine Ops_skip rfl rfl ?_
                  refine Ops_skip rfl rfl ?_
                  refine Ops_skip rfl rfl ?_
                  refine Ops_quiet _ rfl rfl (QO.pick_f rfl rfl rfl) ?_
                  refine Ops_quiet _ rfl rfl (QO.assign rfl rfl) ?_
                  refine Ops_nil ?_
                  refine thenA_n ?_
                  refine wpA_ret ?_
                  obtain rfl := Option.some.inj hm
                  exact retA_r (h2 := h) (Res.one rfl (rfl)) (Le.under (Le.under (Le.under (Le.under (Le.under (Le.under (Le.under (Le.under (Le.under (Le.under (Le.under (Le.under (Le.under (Le.under (Le.refl _) hb1) hb2) hb3) hb4) hb5) hb6) hb24) hb25) hb26) hb27) hb36) hb37) hb38) hb39) ⟨rfl, rfl⟩
                ·replace hm := cond_f hm g82
                 refine Ops_quiet _ rfl rfl (QO.loadRow (cs := sqC r75.1) (hr := (rdAll ((upd_ne _ _ n_b39_b36.ne.symm).trans ((upd_ne _ _ n_b38_b36.ne.symm).trans ((upd_ne _ _ n_b37_b36.ne.symm).trans (upd_same _ _ _)))))) rfl sz37 rfl rfl (sqC_length _)) ?_
                 have hq := Option.bind_eq_some_iff.1 hm; clear hm; obtain ⟨r81, hr81, hm⟩ := hq
                 refine Ops_call _ _ rfl rfl (EO.fn rfl Try.func18 rfl rfl (Evs.cons rfl Evs.nil)) (QC.cc (c_impl_IsGroup hr81 ) ?_)
                 refine Ops_quiet _ rfl rfl (QO.pick_f rfl rfl rfl) ?_
                 refine Ops_quiet _ rfl rfl (QO.pick_t rfl rfl rfl) ?_
                 refine Ops_quiet _ rfl rfl (QO.move rfl rfl) ?_
                 refine Ops_case 275 rfl (fun g86 => ?_) (fun g86 => ?_)
                 ·replace hm := cond_t hm g86
                  refine Ops_quiet _ rfl rfl (QO.move rfl rfl) ?_
                  refine Ops_quiet _ rfl rfl (QO.move rfl rfl) ?_
                  refine Ops_quiet _ rfl rfl (QO.bin rfl rfl rfl rfl) ?_
                  refine Ops_quiet _ rfl rfl (QO.pick_t rfl rfl rfl) ?_
                  refine Ops_quiet _ rfl rfl (QO.move rfl rfl) ?_
                  refine Ops_case 280 rfl (fun g87 => ?_) (fun g87 => ?_)
                  ·replace hm := cond_t hm g87
                   refine Ops_quiet _ rfl rfl (QO.loadRow (cs := sqC r78.1) (hr := (rdAll ((upd_ne _ _ n_b39_b38.ne.symm).trans (upd_same _ _ _)))) rfl sz37 rfl rfl (sqC_length _)) ?_
                   refine Ops_quiet _ rfl rfl (QO.loadRow (cs := sqC r79.1) (hr := (rdAll (upd_same _ _ _))) rfl sz37 rfl rfl (sqC_length _)) ?_
                   refine Ops_quiet _ rfl rfl (QO.agg_eql rfl rfl rfl eg37 (eqv37 _ _) rfl) ?_
                   refine Ops_quiet _ rfl rfl (QO.pick_t rfl rfl rfl) ?_
                   refine Ops_quiet _ rfl rfl (QO.move rfl rfl) ?_
                   refine Ops_case 285 rfl (fun g88 => ?_) (fun g88 => ?_)
                   ·replace hm := cond_t hm g88
                    refine Ops_quiet _ rfl rfl (QO.move rfl rfl) ?_
                    refine Ops_quiet _ rfl rfl (QO.bin rfl rfl rfl rfl) ?_
                    refine Ops_quiet _ rfl rfl (QO.move rfl rfl) ?_
                    refine Ops_case 288 rfl (fun g89 => ?_) (fun g89 => ?_)
                    ·replace hm := cond_t hm g89
                     refine Ops_skip rfl rfl ?_
                     refine Ops_skip rfl rfl ?_
                     refine Ops_quiet _ rfl rfl (QO.pick_t rfl rfl rfl) ?_
                     refine Ops_quiet _ rfl rfl (QO.pick_t rfl rfl rfl) ?_
                     refine Ops_quiet _ rfl rfl (QO.assign rfl rfl) ?_
                     refine Ops_nil ?_
                     refine thenA_n ?_
                     refine wpA_ret ?_
                     obtain rfl := Option.some.inj hm
                     exact retA_r (h2 := h) (Res.one rfl (rfl)) (Le.under (Le.under (Le.under (Le.under (Le.under (Le.under (Le.under (Le.under (Le.under (Le.under (Le.under (Le.under (Le.under (Le.under (Le.refl _) hb1) hb2) hb3) hb4) hb5) hb6) hb24) hb25) hb26) hb27) hb36) hb37) hb38) hb39) ⟨rfl, rfl⟩
                    ·replace hm := cond_f hm g89
                     refine Ops_quiet _ rfl rfl (QO.loadRow (cs := sqC r78.1) (hr := (rdAll ((upd_ne _ _ n_b39_b38.ne.symm).trans (upd_same _ _ _)))) rfl sz37 rfl rfl (sqC_length _)) ?_
                     have hq := Option.bind_eq_some_iff.1 hm; clear hm; obtain ⟨r82, hr82, hm⟩ := hq
                     refine Ops_call _ _ rfl rfl (EO.fn rfl Try.func18 rfl rfl (Evs.cons rfl Evs.nil)) (QC.cc (c_impl_IsGroup hr82 ) ?_)
                     refine Ops_quiet _ rfl rfl (QO.pick_f rfl rfl rfl) ?_
                     refine Ops_quiet _ rfl rfl (QO.pick_t rfl rfl rfl) ?_
                     refine Ops_quiet _ rfl rfl (QO.assign rfl rfl) ?_
                     refine Ops_nil ?_
                     refine thenA_n ?_
                     refine wpA_ret ?_
                     obtain rfl := Option.some.inj hm
                     exact retA_r (h2 := h) (Res.one rfl (rfl)) (Le.under (Le.under (Le.under (Le.under (Le.under (Le.under (Le.under (Le.under (Le.under (Le.under (Le.under (Le.under (Le.under (Le.under (Le.refl _) hb1) hb2) hb3) hb4) hb5) hb6) hb24) hb25) hb26) hb27) hb36) hb37) hb38) hb39) ⟨rfl, rfl⟩
                   ·replace hm := cond_f hm g88
                    refine Ops_skip rfl rfl ?_
                    refine Ops_skip rfl rfl ?_
                    refine Ops_skip rfl rfl ?_
                    refine Ops_skip rfl rfl ?_
                    refine Ops_skip rfl rfl ?_
                    refine Ops_skip rfl rfl ?_
                    refine Ops_quiet _ rfl rfl (QO.pick_f rfl rfl rfl) ?_
                    refine Ops_quiet _ rfl rfl (QO.assign rfl rfl) ?_
                    refine Ops_nil ?_
                    refine thenA_n ?_
                    refine wpA_ret ?_
                    obtain rfl := Option.some.inj hm
                    exact retA_r (h2 := h) (Res.one rfl (rfl)) (Le.under (Le.under (Le.under (Le.under (Le.under (Le.under (Le.under (Le.under (Le.under (Le.under (Le.under (Le.under (Le.under (Le.under (Le.refl _) hb1) hb2) hb3) hb4) hb5) hb6) hb24) hb25) hb26) hb27) hb36) hb37) hb38) hb39) ⟨rfl, rfl⟩
                  ·replace hm := cond_f hm g87
                   refine Ops_skip rfl rfl ?_
                   refine Ops_skip rfl rfl ?_
                   refine Ops_skip rfl rfl ?_
                   refine Ops_quiet _ rfl rfl (QO.pick_f rfl rfl rfl) ?_
                   refine Ops_quiet _ rfl rfl (QO.move rfl rfl) ?_
                   refine Ops_skip rfl rfl ?_
                   refine Ops_skip rfl rfl ?_
                   refine Ops_skip rfl rfl ?_
                   refine Ops_skip rfl rfl ?_
                   refine Ops_skip rfl rfl ?_
                   refine Ops_skip rfl rfl ?_
                   refine Ops_quiet _ rfl rfl (QO.pick_f rfl rfl rfl) ?_
                   refine Ops_quiet _ rfl rfl (QO.assign rfl rfl) ?_
                   refine Ops_nil ?_
                   refine thenA_n ?_
                   refine wpA_ret ?_
                   obtain rfl := Option.some.inj hm
                   exact retA_r (h2 := h) (Res.one rfl (rfl)) (Le.under (Le.under (Le.under (Le.under (Le.under (Le.under (Le.under (Le.under (Le.under (Le.under (Le.under (Le.under (Le.under (Le.under (Le.refl _) hb1) hb2) hb3) hb4) hb5) hb6) hb24) hb25) hb26) hb27) hb36) hb37) hb38) hb39) ⟨rfl, rfl⟩
                 ·replace hm := cond_f hm g86
                  refine Ops_skip rfl rfl ?_
                  refine Ops_skip rfl rfl ?_
                  refine Ops_skip rfl rfl ?_
                  refine Ops_quiet _ rfl rfl (QO.pick_f rfl rfl rfl) ?_
                  refine Ops_quiet _ rfl rfl (QO.move rfl rfl) ?_
                  refine Ops_skip rfl rfl ?_
                  refine Ops_skip rfl rfl ?_
                  refine Ops_skip rfl rfl ?_
                  refine Ops_quiet _ rfl rfl (QO.pick_f rfl rfl rfl) ?_
                  refine Ops_quiet _ rfl rfl (QO.move rfl rfl) ?_
                  refine Ops_skip rfl rfl ?_
                  refine Ops_skip rfl rfl ?_
                  refine Ops_skip rfl rfl ?_
                  refine Ops_skip rfl rfl ?_
                  refine Ops_skip rfl rfl ?_
                  refine Ops_skip rfl rfl ?_
                  refine Ops_quiet _ rfl rfl (QO.pick_f rfl rfl rfl) ?_
                  refine Ops_quiet _ rfl rfl (QO.assign rfl rfl) ?_
                  refine Ops_nil ?_
                  refine thenA_n ?_
                  refine wpA_ret ?_
                  obtain rfl := Option.some.inj hm
                  exact retA_r (h2 := h) (Res.one rfl (rfl)) (Le.under (Le.under (Le.under (Le.under (Le.under (Le.under (Le.under (Le.under (Le.under (Le.under (Le.under (Le.under (Le.under (Le.under (Le.refl _) hb1) hb2) hb3) hb4) hb5) hb6) hb24) hb25) hb26) hb27) hb36) hb37) hb38) hb39) ⟨rfl, rfl⟩
               ·replace hm := cond_f hm g81
                refine Ops_skip rfl rfl ?_
                refine Ops_skip rfl rfl ?_
                refine Ops_skip rfl rfl ?_
                refine Ops_skip rfl rfl ?_
                refine Ops_skip rfl rfl ?_
                refine Ops_skip rfl rfl ?_
                refine Ops_quiet _ rfl rfl (QO.pick_f rfl rfl rfl) ?_
                refine Ops_quiet _ rfl rfl (QO.move rfl rfl) ?_
                refine Ops_skip rfl rfl ?_
                refine Ops_skip rfl rfl ?_
                refine Ops_skip rfl rfl ?_
                refine Ops_quiet _ rfl rfl (QO.pick_f rfl rfl rfl) ?_
                refine Ops_quiet _ rfl rfl (QO.move rfl rfl) ?_
                refine Ops_skip rfl rfl ?_
                refine Ops_skip rfl rfl ?_
                refine Ops_skip rfl rfl ?_
                refine Ops_quiet _ rfl rfl (QO.pick_f rfl rfl rfl) ?_
                refine Ops_quiet _ rfl rfl (QO.move rfl rfl) ?_
                refine Ops_skip rfl rfl ?_
                refine Ops_skip rfl rfl ?_
                refine Ops_skip rfl rfl ?_
                refine Ops_skip rfl rfl ?_
                refine Ops_skip rfl rfl ?_
                refine Ops_skip rfl rfl ?_
                refine Ops_quiet _ rfl rfl (QO.pick_f rfl rfl rfl) ?_
                refine Ops_quiet _ rfl rfl (QO.assign rfl rfl) ?_
                refine Ops_nil ?_
                refine thenA_n ?_
                refine wpA_ret ?_
                obtain rfl := Option.some.inj hm
                exact retA_r (h2 := h) (Res.one rfl (rfl)) (Le.under (Le.under (Le.under (Le.under (Le.under (Le.under (Le.under (Le.under (Le.under (Le.under (Le.under (Le.under (Le.under (Le.under (Le.refl _) hb1) hb2) hb3) hb4) hb5) hb6) hb24) hb25) hb26) hb27) hb36) hb37) hb38) hb39) ⟨rfl, rfl⟩
              ·replace hm := cond_f hm g80
               refine Ops_skip rfl rfl ?_
               refine Ops_skip rfl rfl ?_
               refine Ops_skip rfl rfl ?_
               refine Ops_quiet _ rfl rfl (QO.pick_f rfl rfl rfl) ?_
               refine Ops_quiet _ rfl rfl (QO.move rfl rfl) ?_
               refine Ops_skip rfl rfl ?_
               refine Ops_skip rfl rfl ?_
               refine Ops_skip rfl rfl ?_
               refine Ops_skip rfl rfl ?_
               refine Ops_skip rfl rfl ?_
               refine Ops_skip rfl rfl ?_
               refine Ops_quiet _ rfl rfl (QO.pick_f rfl rfl rfl) ?_
               refine Ops_quiet _ rfl rfl (QO.move rfl rfl) ?_
               refine Ops_skip rfl rfl ?_
               refine Ops_skip rfl rfl ?_
               refine Ops_skip rfl rfl ?_
               refine Ops_quiet _ rfl rfl (QO.pick_f rfl rfl rfl) ?_
               refine Ops_quiet _ rfl rfl (QO.move rfl rfl) ?_
               refine Ops_skip rfl rfl ?_
               refine Ops_skip rfl rfl ?_
               refine Ops_skip rfl rfl ?_
               refine Ops_quiet _ rfl rfl (QO.pick_f rfl rfl rfl) ?_
               refine Ops_quiet _ rfl rfl (QO.move rfl rfl) ?_
               refine Ops_skip rfl rfl ?_
               refine Ops_skip rfl rfl ?_
               refine Ops_skip rfl rfl ?_
               refine Ops_skip rfl rfl ?_
               refine Ops_skip rfl rfl ?_
               refine Ops_skip rfl rfl ?_
               refine Ops_quiet _ rfl rfl (QO.pick_f rfl rfl rfl) ?_
               refine Ops_quiet _ rfl rfl (QO.assign rfl rfl) ?_
               refine Ops_nil ?_
               refine thenA_n ?_
               refine wpA_ret ?_
               obtain rfl := Option.some.inj hm
               exact retA_r (h2 := h) (Res.one rfl (rfl)) (Le.under (Le.under (Le.under (Le.under (Le.under (Le.under (Le.under (Le.under (Le.under (Le.under (Le.under (Le.under (Le.under (Le.under (Le.refl _) hb1) hb2) hb3) hb4) hb5) hb6) hb24) hb25) hb26) hb27) hb36) hb37) hb38) hb39) ⟨rfl, rfl⟩
end Go.Lab
