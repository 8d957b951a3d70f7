/- The walks: each function computes what its model tells. -/
import Derived.Test.YthhgemlaiekjpacW3
set_option linter.unusedVariables false
set_option linter.unusedSimpArgs false
namespace Go.Lab
open Go Go.Abs Go.Proofs
set_option maxRecDepth 20000
set_option linter.unusedVariables false
set_option linter.unusedSimpArgs false
/-! loop.example/g01195/laws.FnSums -/
theorem c_laws_FnSums {l0 : (List Int)} {A0 : Option Addr} {c0 : Nat} {h : Hp} {r : Bool} (hm : m_laws_FnSums l0 = some r) (hs0 : RdS h A0 (ints .u8 l0)) :
    QC Try.prog 3 #[.slice A0 l0.length c0] h (.bool r) := by
 unfold m_laws_FnSums at hm
 refine CC.enter Try.func3 rfl Try.ntmps3 rfl ?_
 refine wpA_seq ?_
 refine wpA_region ?_
 refine Ops_quiet _ rfl rfl (QO.assign rfl rfl) ?_
 refine Ops_nil ?_
 refine thenA_n ?_
 refine wpA_seq ?_
 refine wpA_seq ?_
 refine wpA_region ?_
 refine Ops_quiet _ rfl rfl (QO.move rfl rfl) ?_
 have hq := Option.bind_eq_some_iff.1 hm; clear hm; obtain ⟨r1, hr1, hm⟩ := hq
 refine Ops_call _ _ rfl rfl (EO.fn rfl Try.func4 rfl rfl (Evs.cons rfl Evs.nil)) (QC.cc (c_laws_big (l0 := l0) (A0 := A0) (c0 := c0) hr1 (RdS.le hs0 (Le.refl _))) ?_)
 refine Ops_nil ?_
 refine thenA_n ?_
 refine wpA_cond rfl (fun g1 => ?_) (fun g1 => ?_)
 ·replace hm := cond_t hm g1
  refine wpA_seq ?_
  refine wpA_region ?_
  refine Ops_quiet _ rfl rfl (QO.assign rfl rfl) ?_
  refine Ops_nil ?_
  refine thenA_n ?_
  refine wpA_ret ?_
  refine thenA_r ?_
  obtain rfl := Option.some.inj hm
  exact retA_r (h2 := h) (Res.one rfl (rfl)) (Le.refl _) ⟨rfl, rfl⟩
 ·replace hm := cond_f hm g1
  refine wpA_skip ?_
  refine thenA_n ?_
  refine wpA_seq ?_
  refine wpA_region ?_
  refine Ops_quiet _ rfl rfl (QO.move rfl rfl) ?_
  have hq := Option.bind_eq_some_iff.1 hm; clear hm; obtain ⟨r2, hr2, hm⟩ := hq
  refine Ops_call _ _ rfl rfl (EO.fn rfl Try.func5 rfl rfl (Evs.cons rfl Evs.nil)) (CC.mono (c_spec_DrawMultiplySums (l0 := l0) (A0 := A0) (c0 := c0) hr2 (RdS.le hs0 (Le.refl _))) ?_)
  rintro _ _ ⟨b1, cap_b1, b2, cap_b2, hb1, ho_b1, hb2, ho_b2, rfl, rfl⟩
  simp only [frO_updA, frO_updOA, frO_famHA] at hb2
  obtain ⟨n_b2_b1, hb2⟩ := hb2
  refine Ops_quiet _ rfl rfl (QO.move rfl rfl) ?_
  refine Ops_quiet _ rfl rfl (QO.extract rfl rfl rfl) ?_
  refine Ops_quiet _ rfl rfl (QO.extract rfl rfl rfl) ?_
  refine Ops_quiet _ rfl rfl (QO.extract rfl rfl rfl) ?_
  refine Ops_quiet _ rfl rfl (QO.extract rfl rfl rfl) ?_
  refine Ops_loud rfl (LO.alloc rfl zr28 rfl (fun b3 hb3 => ?_))
  simp only [upd_noneA, updO_noneA, famH_noneA] at hb3
  obtain ⟨n_b3_b2, n_b3_b1, hb3⟩ := hb3
  refine Ops_loud rfl (LO.storeAll (cs := sqC r2.1) rfl sz28 rfl rfl (sqC_one _) (sqC_length _) (upd_same _ _ _) (sqC_length _) Chg.here rfl ?_)
  refine Ops_quiet _ rfl rfl (QO.assign rfl rfl) ?_
  refine Ops_quiet _ rfl rfl (QO.assign rfl rfl) ?_
  refine Ops_quiet _ rfl rfl (QO.assign rfl rfl) ?_
  refine Ops_nil ?_
  refine thenA_n ?_
  refine wpA_seq ?_
  refine wpA_region ?_
  refine Ops_quiet _ rfl rfl (QO.loadRow (cs := sqC r2.1) (hr := (rdAll (upd_same _ _ _))) rfl sz28 rfl rfl (sqC_length _)) ?_
  refine Ops_quiet _ rfl rfl (QO.move rfl rfl) ?_
  refine Ops_quiet _ rfl rfl (QO.move rfl rfl) ?_
  refine Ops_quiet _ rfl rfl (QO.move rfl rfl) ?_
  have hq := Option.bind_eq_some_iff.1 hm; clear hm; obtain ⟨r3, hr3, hm⟩ := hq
  refine Ops_call _ _ rfl rfl (EO.fn rfl Try.func6 rfl rfl (Evs.cons rfl (Evs.cons rfl (Evs.cons rfl (Evs.cons rfl Evs.nil))))) (CC.mono (c_impl_MultiplySums (l2 := r2.2.2.1) (A2 := adO b1) (c2 := cap_b1) (l3 := r2.2.2.2) (A3 := adO b2) (c3 := cap_b2) hr3 (RdS.ownO (LkO.there n_b3_b1 (LkO.thereO n_b2_b1.symm LkO.here)) (fun e => congrArg (fun l => ints .i64 l) (ho_b1.nilL e))) (RdS.ownO (LkO.there n_b3_b2 LkO.here) (fun e => congrArg (fun l => ints .i64 l) (ho_b2.nilL e)))) ?_)
  rintro _ _ ⟨b4, cap_b4, hb4, ho_b4, rfl, rfl⟩
  simp only [frO_updA, frO_updOA, frO_famHA] at hb4
  obtain ⟨n_b4_b3, n_b4_b2, n_b4_b1, hb4⟩ := hb4
  refine Ops_quiet _ rfl rfl (QO.move rfl rfl) ?_
  refine Ops_quiet _ rfl rfl (QO.extract rfl rfl rfl) ?_
  refine Ops_quiet _ rfl rfl (QO.extract rfl rfl rfl) ?_
  refine Ops_quiet _ rfl rfl (QO.assign rfl rfl) ?_
  refine Ops_quiet _ rfl rfl (QO.assign rfl rfl) ?_
  refine Ops_nil ?_
  refine thenA_n ?_
  refine wpA_seq ?_
  refine wpA_seq ?_
  refine wpA_region ?_
  refine Ops_quiet _ rfl rfl (QO.loadRow (cs := sqC r2.1) (hr := (rdAll ((updO_ne n_b4_b3).trans (upd_same _ _ _)))) rfl sz28 rfl rfl (sqC_length _)) ?_
  refine Ops_quiet _ rfl rfl (QO.move rfl rfl) ?_
  refine Ops_quiet _ rfl rfl (QO.move rfl rfl) ?_
  refine Ops_quiet _ rfl rfl (QO.move rfl rfl) ?_
  have hq := Option.bind_eq_some_iff.1 hm; clear hm; obtain ⟨r4, hr4, hm⟩ := hq
  refine Ops_call _ _ rfl rfl (EO.fn rfl Try.func7 rfl rfl (Evs.cons rfl (Evs.cons rfl (Evs.cons rfl (Evs.cons rfl Evs.nil))))) (CC.mono (c_spec_MultiplySums (l2 := r2.2.2.1) (A2 := adO b1) (c2 := cap_b1) (l3 := r2.2.2.2) (A3 := adO b2) (c3 := cap_b2) hr4 (RdS.ownO (LkO.thereO n_b4_b1.symm (LkO.there n_b3_b1 (LkO.thereO n_b2_b1.symm LkO.here))) (fun e => congrArg (fun l => ints .i64 l) (ho_b1.nilL e))) (RdS.ownO (LkO.thereO n_b4_b2.symm (LkO.there n_b3_b2 LkO.here)) (fun e => congrArg (fun l => ints .i64 l) (ho_b2.nilL e)))) ?_)
  rintro _ _ ⟨b5, cap_b5, hb5, ho_b5, rfl, rfl⟩
  simp only [frO_updA, frO_updOA, frO_famHA] at hb5
  obtain ⟨n_b5_b4, n_b5_b3, n_b5_b2, n_b5_b1, hb5⟩ := hb5
  refine Ops_quiet _ rfl rfl (QO.move rfl rfl) ?_
  refine Ops_quiet _ rfl rfl (QO.extract rfl rfl rfl) ?_
  refine Ops_quiet _ rfl rfl (QO.extract rfl rfl rfl) ?_
  refine Ops_quiet _ rfl rfl (QO.assign rfl rfl) ?_
  refine Ops_quiet _ rfl rfl (QO.assign rfl rfl) ?_
  refine Ops_nil ?_
  refine thenA_n ?_
  refine wpA_seq ?_
  refine wpA_region ?_
  refine Ops_quiet _ rfl rfl (QO.move rfl rfl) ?_
  refine Ops_quiet _ rfl rfl (QO.move rfl rfl) ?_
  refine Ops_quiet _ rfl rfl (QO.bin rfl rfl rfl rfl) ?_
  refine Ops_quiet _ rfl rfl (QO.move rfl rfl) ?_
  refine Ops_case 72 rfl (fun g2 => ?_) (fun g2 => ?_)
  ·replace hm := cond_t hm g2
   refine Ops_skip rfl rfl ?_
   refine Ops_skip rfl rfl ?_
   refine Ops_skip rfl rfl ?_
   refine Ops_skip rfl rfl ?_
   refine Ops_quiet _ rfl rfl (QO.pick_t rfl rfl rfl) ?_
   refine Ops_nil ?_
   refine thenA_n ?_
   refine wpA_cond_t rfl ?_
   refine wpA_seq ?_
   refine wpA_region ?_
   refine Ops_quiet _ rfl rfl (QO.assign rfl rfl) ?_
   refine Ops_nil ?_
   refine thenA_n ?_
   refine wpA_ret ?_
   refine thenA_r ?_
   obtain rfl := Option.some.inj hm
   exact retA_r (h2 := h) (Res.one rfl (rfl)) (Le.underO (Le.underO (Le.under (Le.underO (Le.underO (Le.refl _) hb1) hb2) hb3) hb4) hb5) ⟨rfl, rfl⟩
  ·replace hm := cond_f hm g2
   refine Ops_quiet _ rfl rfl (QO.move rfl rfl) ?_
   refine Ops_quiet _ rfl rfl (QO.move rfl rfl) ?_
   have hq := Option.bind_eq_some_iff.1 hm; clear hm; obtain ⟨r5, hr5, hm⟩ := hq
   refine Ops_call _ _ rfl rfl (EO.fn rfl Try.func8 rfl rfl (Evs.cons rfl (Evs.cons rfl Evs.nil))) (QC.cc (c_laws_likeInts (l0 := r3.1) (A0 := adO b4) (c0 := cap_b4) (l1 := r4.1) (A1 := adO b5) (c1 := cap_b5) hr5 (RdS.ownO (LkO.thereO n_b5_b4.symm LkO.here) (fun e => congrArg (fun l => ints .i64 l) (ho_b4.nilL e))) (RdS.ownO LkO.here (fun e => congrArg (fun l => ints .i64 l) (ho_b5.nilL e)))) ?_)
   refine Ops_quiet _ rfl rfl (QO.not rfl rfl) ?_
   refine Ops_quiet _ rfl rfl (QO.pick_f rfl rfl rfl) ?_
   refine Ops_nil ?_
   refine thenA_n ?_
   refine wpA_cond rfl (fun g3 => ?_) (fun g3 => ?_)
   ·replace hm := cond_t hm g3
    refine wpA_seq ?_
    refine wpA_region ?_
    refine Ops_quiet _ rfl rfl (QO.assign rfl rfl) ?_
    refine Ops_nil ?_
    refine thenA_n ?_
    refine wpA_ret ?_
    refine thenA_r ?_
    obtain rfl := Option.some.inj hm
    exact retA_r (h2 := h) (Res.one rfl (rfl)) (Le.underO (Le.underO (Le.under (Le.underO (Le.underO (Le.refl _) hb1) hb2) hb3) hb4) hb5) ⟨rfl, rfl⟩
   ·replace hm := cond_f hm g3
    refine wpA_skip ?_
    refine thenA_n ?_
    refine wpA_seq ?_
    refine wpA_region ?_
    refine Ops_quiet _ rfl rfl (QO.loadRow (cs := sqC r2.1) (hr := (rdAll ((updO_ne n_b5_b3).trans ((updO_ne n_b4_b3).trans (upd_same _ _ _))))) rfl sz28 rfl rfl (sqC_length _)) ?_
    refine Ops_quiet _ rfl rfl (QO.move rfl rfl) ?_
    refine Ops_quiet _ rfl rfl (QO.move rfl rfl) ?_
    refine Ops_quiet _ rfl rfl (QO.move rfl rfl) ?_
    have hq := Option.bind_eq_some_iff.1 hm; clear hm; obtain ⟨r6, hr6, hm⟩ := hq
    refine Ops_call _ _ rfl rfl (EO.fn rfl Try.func9 rfl rfl (Evs.cons rfl (Evs.cons rfl (Evs.cons rfl (Evs.cons rfl Evs.nil))))) (CC.mono (c_impl_AddSums (l2 := r2.2.2.1) (A2 := adO b1) (c2 := cap_b1) (l3 := r2.2.2.2) (A3 := adO b2) (c3 := cap_b2) hr6 (RdS.ownO (LkO.thereO n_b5_b1.symm (LkO.thereO n_b4_b1.symm (LkO.there n_b3_b1 (LkO.thereO n_b2_b1.symm LkO.here)))) (fun e => congrArg (fun l => ints .i64 l) (ho_b1.nilL e))) (RdS.ownO (LkO.thereO n_b5_b2.symm (LkO.thereO n_b4_b2.symm (LkO.there n_b3_b2 LkO.here))) (fun e => congrArg (fun l => ints .i64 l) (ho_b2.nilL e)))) ?_)
    rintro _ _ ⟨b6, cap_b6, hb6, ho_b6, rfl, rfl⟩
    simp only [frO_updA, frO_updOA, frO_famHA] at hb6
    obtain ⟨n_b6_b5, n_b6_b4, n_b6_b3, n_b6_b2, n_b6_b1, hb6⟩ := hb6
    refine Ops_quiet _ rfl rfl (QO.move rfl rfl) ?_
    refine Ops_quiet _ rfl rfl (QO.extract rfl rfl rfl) ?_
    refine Ops_quiet _ rfl rfl (QO.extract rfl rfl rfl) ?_
    refine Ops_quiet _ rfl rfl (QO.assign rfl rfl) ?_
    refine Ops_quiet _ rfl rfl (QO.assign rfl rfl) ?_
    refine Ops_nil ?_
    refine thenA_n ?_
    refine wpA_seq ?_
    refine wpA_seq ?_
    refine wpA_region ?_
    refine Ops_quiet _ rfl rfl (QO.loadRow (cs := sqC r2.1) (hr := (rdAll ((updO_ne n_b6_b3).trans ((updO_ne n_b5_b3).trans ((updO_ne n_b4_b3).trans (upd_same _ _ _)))))) rfl sz28 rfl rfl (sqC_length _)) ?_
    refine Ops_quiet _ rfl rfl (QO.move rfl rfl) ?_
    refine Ops_quiet _ rfl rfl (QO.move rfl rfl) ?_
    refine Ops_quiet _ rfl rfl (QO.move rfl rfl) ?_
    have hq := Option.bind_eq_some_iff.1 hm; clear hm; obtain ⟨r7, hr7, hm⟩ := hq
    refine Ops_call _ _ rfl rfl (EO.fn rfl Try.func10 rfl rfl (Evs.cons rfl (Evs.cons rfl (Evs.cons rfl (Evs.cons rfl Evs.nil))))) (CC.mono (c_spec_AddSums (l2 := r2.2.2.1) (A2 := adO b1) (c2 := cap_b1) (l3 := r2.2.2.2) (A3 := adO b2) (c3 := cap_b2) hr7 (RdS.ownO (LkO.thereO n_b6_b1.symm (LkO.thereO n_b5_b1.symm (LkO.thereO n_b4_b1.symm (LkO.there n_b3_b1 (LkO.thereO n_b2_b1.symm LkO.here))))) (fun e => congrArg (fun l => ints .i64 l) (ho_b1.nilL e))) (RdS.ownO (LkO.thereO n_b6_b2.symm (LkO.thereO n_b5_b2.symm (LkO.thereO n_b4_b2.symm (LkO.there n_b3_b2 LkO.here)))) (fun e => congrArg (fun l => ints .i64 l) (ho_b2.nilL e)))) ?_)
    rintro _ _ ⟨b7, cap_b7, hb7, ho_b7, rfl, rfl⟩
    simp only [frO_updA, frO_updOA, frO_famHA] at hb7
    obtain ⟨n_b7_b6, n_b7_b5, n_b7_b4, n_b7_b3, n_b7_b2, n_b7_b1, hb7⟩ := hb7
    refine Ops_quiet _ rfl rfl (QO.move rfl rfl) ?_
    refine Ops_quiet _ rfl rfl (QO.extract rfl rfl rfl) ?_
    refine Ops_quiet _ rfl rfl (QO.extract rfl rfl rfl) ?_
    refine Ops_quiet _ rfl rfl (QO.assign rfl rfl) ?_
    refine Ops_quiet _ rfl rfl (QO.assign rfl rfl) ?_
    refine Ops_nil ?_
    refine thenA_n ?_
    refine wpA_weaken (show Abs.Sub _ [(0, .slice A0 l0.length c0), (2, .bool false), (3, .pointer (some ⟨b3, 0, none⟩)), (4, .int .i64 r2.2.1), (5, .slice (adO b1) r2.2.2.1.length cap_b1), (6, .slice (adO b2) r2.2.2.2.length cap_b2), (7, .slice (adO b4) r3.1.length cap_b4), (8, .int .i64 r3.2), (11, .slice (adO b6) r6.1.length cap_b6), (12, .int .i64 r6.2), (13, .slice (adO b7) r7.1.length cap_b7), (14, .int .i64 r7.2)] from (Sub.cons rfl (Sub.cons rfl (Sub.cons rfl (Sub.cons rfl (Sub.cons rfl (Sub.cons rfl (Sub.cons rfl (Sub.cons rfl (Sub.cons rfl (Sub.cons rfl (Sub.cons rfl (Sub.cons rfl (Sub.nil)))))))))))))).ok (Le.refl _) ?_
    refine wpA_seq ?_
    refine wpA_region ?_
    refine Ops_quiet _ rfl rfl (QO.move rfl rfl) ?_
    refine Ops_quiet _ rfl rfl (QO.move rfl rfl) ?_
    refine Ops_quiet _ rfl rfl (QO.bin rfl rfl rfl rfl) ?_
    refine Ops_quiet _ rfl rfl (QO.move rfl rfl) ?_
    refine Ops_case 97 rfl (fun g4 => ?_) (fun g4 => ?_)
    ·replace hm := cond_t hm g4
     refine Ops_skip rfl rfl ?_
     refine Ops_skip rfl rfl ?_
     refine Ops_skip rfl rfl ?_
     refine Ops_skip rfl rfl ?_
     refine Ops_quiet _ rfl rfl (QO.pick_t rfl rfl rfl) ?_
     refine Ops_nil ?_
     refine thenA_n ?_
     refine wpA_cond_t rfl ?_
     refine wpA_seq ?_
     refine wpA_region ?_
     refine Ops_quiet _ rfl rfl (QO.assign rfl rfl) ?_
     refine Ops_nil ?_
     refine thenA_n ?_
     refine wpA_ret ?_
     refine thenA_r ?_
     obtain rfl := Option.some.inj hm
     exact retA_r (h2 := h) (Res.one rfl (rfl)) (Le.underO (Le.underO (Le.underO (Le.underO (Le.under (Le.underO (Le.underO (Le.refl _) hb1) hb2) hb3) hb4) hb5) hb6) hb7) ⟨rfl, rfl⟩
    ·replace hm := cond_f hm g4
     refine Ops_quiet _ rfl rfl (QO.move rfl rfl) ?_
     refine Ops_quiet _ rfl rfl (QO.move rfl rfl) ?_
     have hq := Option.bind_eq_some_iff.1 hm; clear hm; obtain ⟨r8, hr8, hm⟩ := hq
     refine Ops_call _ _ rfl rfl (EO.fn rfl Try.func8 rfl rfl (Evs.cons rfl (Evs.cons rfl Evs.nil))) (QC.cc (c_laws_likeInts (l0 := r6.1) (A0 := adO b6) (c0 := cap_b6) (l1 := r7.1) (A1 := adO b7) (c1 := cap_b7) hr8 (RdS.ownO (LkO.thereO n_b7_b6.symm LkO.here) (fun e => congrArg (fun l => ints .i64 l) (ho_b6.nilL e))) (RdS.ownO LkO.here (fun e => congrArg (fun l => ints .i64 l) (ho_b7.nilL e)))) ?_)
     refine Ops_quiet _ rfl rfl (QO.not rfl rfl) ?_
     refine Ops_quiet _ rfl rfl (QO.pick_f rfl rfl rfl) ?_
     refine Ops_nil ?_
     refine thenA_n ?_
     refine wpA_cond rfl (fun g5 => ?_) (fun g5 => ?_)
     ·replace hm := cond_t hm g5
      refine wpA_seq ?_
      refine wpA_region ?_
      refine Ops_quiet _ rfl rfl (QO.assign rfl rfl) ?_
      refine Ops_nil ?_
      refine thenA_n ?_
      refine wpA_ret ?_
      refine thenA_r ?_
      obtain rfl := Option.some.inj hm
      exact retA_r (h2 := h) (Res.one rfl (rfl)) (Le.underO (Le.underO (Le.underO (Le.underO (Le.under (Le.underO (Le.underO (Le.refl _) hb1) hb2) hb3) hb4) hb5) hb6) hb7) ⟨rfl, rfl⟩
     ·replace hm := cond_f hm g5
      refine wpA_skip ?_
      refine thenA_n ?_
      refine wpA_seq ?_
      refine wpA_region ?_
      refine Ops_quiet _ rfl rfl (QO.move rfl rfl) ?_
      have hq := Option.bind_eq_some_iff.1 hm; clear hm; obtain ⟨r9, hr9, hm⟩ := hq
      refine Ops_call _ _ rfl rfl (EO.fn rfl Try.func11 rfl rfl (Evs.cons rfl Evs.nil)) (CC.mono (c_spec_DrawPowerOfSum (l0 := l0) (A0 := A0) (c0 := c0) hr9 (RdS.le hs0 (Le.underO (Le.underO (Le.underO (Le.underO (Le.under (Le.underO (Le.underO (Le.refl _) hb1) hb2) hb3) hb4) hb5) hb6) hb7))) ?_)
      rintro _ _ ⟨b8, cap_b8, hb8, ho_b8, rfl, rfl⟩
      simp only [frO_updA, frO_updOA, frO_famHA] at hb8
      obtain ⟨n_b8_b7, n_b8_b6, n_b8_b5, n_b8_b4, n_b8_b3, n_b8_b2, n_b8_b1, hb8⟩ := hb8
      refine Ops_quiet _ rfl rfl (QO.move rfl rfl) ?_
      refine Ops_quiet _ rfl rfl (QO.extract rfl rfl rfl) ?_
      refine Ops_quiet _ rfl rfl (QO.extract rfl rfl rfl) ?_
      refine Ops_quiet _ rfl rfl (QO.extract rfl rfl rfl) ?_
      refine Ops_quiet _ rfl rfl (QO.extract rfl rfl rfl) ?_
      refine Ops_loud rfl (LO.alloc rfl zr28 rfl (fun b9 hb9 => ?_))
      simp only [upd_noneA, updO_noneA, famH_noneA] at hb9
      obtain ⟨n_b9_b8, n_b9_b7, n_b9_b6, n_b9_b5, n_b9_b4, n_b9_b3, n_b9_b2, n_b9_b1, hb9⟩ := hb9
      refine Ops_loud rfl (LO.storeAll (cs := sqC r9.1) rfl sz28 rfl rfl (sqC_one _) (sqC_length _) (upd_same _ _ _) (sqC_length _) Chg.here rfl ?_)
      refine Ops_quiet _ rfl rfl (QO.assign rfl rfl) ?_
      refine Ops_quiet _ rfl rfl (QO.assign rfl rfl) ?_
      refine Ops_quiet _ rfl rfl (QO.assign rfl rfl) ?_
      refine Ops_nil ?_
      refine thenA_n ?_
      refine wpA_seq ?_
      refine wpA_region ?_
      refine Ops_quiet _ rfl rfl (QO.loadRow (cs := sqC r9.1) (hr := (rdAll (upd_same _ _ _))) rfl sz28 rfl rfl (sqC_length _)) ?_
      refine Ops_quiet _ rfl rfl (QO.move rfl rfl) ?_
      refine Ops_quiet _ rfl rfl (QO.move rfl rfl) ?_
      refine Ops_quiet _ rfl rfl (QO.move rfl rfl) ?_
      have hq := Option.bind_eq_some_iff.1 hm; clear hm; obtain ⟨r10, hr10, hm⟩ := hq
      refine Ops_call _ _ rfl rfl (EO.fn rfl Try.func12 rfl rfl (Evs.cons rfl (Evs.cons rfl (Evs.cons rfl (Evs.cons rfl Evs.nil))))) (CC.mono (c_impl_PowerOfSum (l2 := r9.2.2.1) (A2 := adO b8) (c2 := cap_b8) hr10 (RdS.ownO (LkO.there n_b9_b8 LkO.here) (fun e => congrArg (fun l => ints .i64 l) (ho_b8.nilL e)))) ?_)
      rintro _ _ ⟨b10, cap_b10, hb10, ho_b10, rfl, rfl⟩
      simp only [frO_updA, frO_updOA, frO_famHA] at hb10
      obtain ⟨n_b10_b9, n_b10_b8, n_b10_b7, n_b10_b6, n_b10_b5, n_b10_b4, n_b10_b3, n_b10_b2, n_b10_b1, hb10⟩ := hb10
      refine Ops_quiet _ rfl rfl (QO.move rfl rfl) ?_
      refine Ops_quiet _ rfl rfl (QO.extract rfl rfl rfl) ?_
      refine Ops_quiet _ rfl rfl (QO.extract rfl rfl rfl) ?_
      refine Ops_quiet _ rfl rfl (QO.assign rfl rfl) ?_
      refine Ops_quiet _ rfl rfl (QO.assign rfl rfl) ?_
      refine Ops_nil ?_
      refine thenA_n ?_
      refine wpA_seq ?_
      refine wpA_seq ?_
      refine wpA_region ?_
      refine Ops_quiet _ rfl rfl (QO.loadRow (cs := sqC r9.1) (hr := (rdAll ((updO_ne n_b10_b9).trans (upd_same _ _ _)))) rfl sz28 rfl rfl (sqC_length _)) ?_
      refine Ops_quiet _ rfl rfl (QO.move rfl rfl) ?_
      refine Ops_quiet _ rfl rfl (QO.move rfl rfl) ?_
      refine Ops_quiet _ rfl rfl (QO.move rfl rfl) ?_
      have hq := Option.bind_eq_some_iff.1 hm; clear hm; obtain ⟨r11, hr11, hm⟩ := hq
      refine Ops_call _ _ rfl rfl (EO.fn rfl Try.func13 rfl rfl (Evs.cons rfl (Evs.cons rfl (Evs.cons rfl (Evs.cons rfl Evs.nil))))) (CC.mono (c_spec_PowerOfSum (l2 := r9.2.2.1) (A2 := adO b8) (c2 := cap_b8) hr11 (RdS.ownO (LkO.thereO n_b10_b8.symm (LkO.there n_b9_b8 LkO.here)) (fun e => congrArg (fun l => ints .i64 l) (ho_b8.nilL e)))) ?_)
      rintro _ _ ⟨b11, cap_b11, hb11, ho_b11, rfl, rfl⟩
      simp only [frO_updA, frO_updOA, frO_famHA] at hb11
      obtain ⟨n_b11_b10, n_b11_b9, n_b11_b8, n_b11_b7, n_b11_b6, n_b11_b5, n_b11_b4, n_b11_b3, n_b11_b2, n_b11_b1, hb11⟩ := hb11
      refine Ops_quiet _ rfl rfl (QO.move rfl rfl) ?_
      refine Ops_quiet _ rfl rfl (QO.extract rfl rfl rfl) ?_
      refine Ops_quiet _ rfl rfl (QO.extract rfl rfl rfl) ?_
      refine Ops_quiet _ rfl rfl (QO.assign rfl rfl) ?_
      refine Ops_quiet _ rfl rfl (QO.assign rfl rfl) ?_
      refine Ops_nil ?_
      refine thenA_n ?_
      refine wpA_seq ?_
      refine wpA_region ?_
      refine Ops_quiet _ rfl rfl (QO.move rfl rfl) ?_
      refine Ops_quiet _ rfl rfl (QO.move rfl rfl) ?_
      refine Ops_quiet _ rfl rfl (QO.bin rfl rfl rfl rfl) ?_
      refine Ops_quiet _ rfl rfl (QO.move rfl rfl) ?_
      refine Ops_case 129 rfl (fun g6 => ?_) (fun g6 => ?_)
      ·replace hm := cond_t hm g6
       refine Ops_skip rfl rfl ?_
       refine Ops_skip rfl rfl ?_
       refine Ops_skip rfl rfl ?_
       refine Ops_skip rfl rfl ?_
       refine Ops_quiet _ rfl rfl (QO.pick_t rfl rfl rfl) ?_
       refine Ops_nil ?_
       refine thenA_n ?_
       refine wpA_cond_t rfl ?_
       refine wpA_weaken (show Abs.Sub _ [(2, .bool false)] from (Sub.cons rfl (Sub.nil))).ok (Le.refl _) ?_
       refine wpA_seq ?_
       refine wpA_region ?_
       refine Ops_quiet _ rfl rfl (QO.assign rfl rfl) ?_
       refine Ops_nil ?_
       refine thenA_n ?_
       refine wpA_ret ?_
       refine thenA_r ?_
       obtain rfl := Option.some.inj hm
       exact retA_r (h2 := h) (Res.one rfl (rfl)) (Le.underO (Le.underO (Le.under (Le.underO (Le.underO (Le.underO (Le.underO (Le.underO (Le.under (Le.underO (Le.underO (Le.refl _) hb1) hb2) hb3) hb4) hb5) hb6) hb7) hb8) hb9) hb10) hb11) ⟨rfl, rfl⟩
      ·replace hm := cond_f hm g6
       refine Ops_quiet _ rfl rfl (QO.move rfl rfl) ?_
       refine Ops_quiet _ rfl rfl (QO.move rfl rfl) ?_
       have hq := Option.bind_eq_some_iff.1 hm; clear hm; obtain ⟨r12, hr12, hm⟩ := hq
       refine Ops_call _ _ rfl rfl (EO.fn rfl Try.func8 rfl rfl (Evs.cons rfl (Evs.cons rfl Evs.nil))) (QC.cc (c_laws_likeInts (l0 := r10.1) (A0 := adO b10) (c0 := cap_b10) (l1 := r11.1) (A1 := adO b11) (c1 := cap_b11) hr12 (RdS.ownO (LkO.thereO n_b11_b10.symm LkO.here) (fun e => congrArg (fun l => ints .i64 l) (ho_b10.nilL e))) (RdS.ownO LkO.here (fun e => congrArg (fun l => ints .i64 l) (ho_b11.nilL e)))) ?_)
       refine Ops_quiet _ rfl rfl (QO.not rfl rfl) ?_
       refine Ops_quiet _ rfl rfl (QO.pick_f rfl rfl rfl) ?_
       refine Ops_nil ?_
       refine thenA_n ?_
       refine wpA_cond rfl (fun g7 => ?_) (fun g7 => ?_)
       ·replace hm := cond_t hm g7
        refine wpA_weaken (show Abs.Sub _ [(2, .bool false)] from (Sub.cons rfl (Sub.nil))).ok (Le.refl _) ?_
        refine wpA_seq ?_
        refine wpA_region ?_
        refine Ops_quiet _ rfl rfl (QO.assign rfl rfl) ?_
        refine Ops_nil ?_
        refine thenA_n ?_
        refine wpA_ret ?_
        refine thenA_r ?_
        obtain rfl := Option.some.inj hm
        exact retA_r (h2 := h) (Res.one rfl (rfl)) (Le.underO (Le.underO (Le.under (Le.underO (Le.underO (Le.underO (Le.underO (Le.underO (Le.under (Le.underO (Le.underO (Le.refl _) hb1) hb2) hb3) hb4) hb5) hb6) hb7) hb8) hb9) hb10) hb11) ⟨rfl, rfl⟩
       ·replace hm := cond_f hm g7
        refine wpA_skip ?_
        refine thenA_n ?_
        refine wpA_weaken (show Abs.Sub _ [(0, .slice A0 l0.length c0), (2, .bool false), (3, .pointer (some ⟨b3, 0, none⟩)), (4, .int .i64 r2.2.1), (5, .slice (adO b1) r2.2.2.1.length cap_b1), (6, .slice (adO b2) r2.2.2.2.length cap_b2), (7, .slice (adO b4) r3.1.length cap_b4), (8, .int .i64 r3.2), (11, .slice (adO b6) r6.1.length cap_b6), (15, .pointer (some ⟨b9, 0, none⟩)), (16, .int .i64 r9.2.1), (17, .slice (adO b8) r9.2.2.1.length cap_b8), (18, .int .i64 r9.2.2.2), (19, .slice (adO b10) r10.1.length cap_b10), (20, .int .i64 r10.2)] from (Sub.cons rfl (Sub.cons rfl (Sub.cons rfl (Sub.cons rfl (Sub.cons rfl (Sub.cons rfl (Sub.cons rfl (Sub.cons rfl (Sub.cons rfl (Sub.cons rfl (Sub.cons rfl (Sub.cons rfl (Sub.cons rfl (Sub.cons rfl (Sub.cons rfl (Sub.nil))))))))))))))))).ok (Le.refl _) ?_
        refine wpA_seq ?_
        refine wpA_region ?_
        refine Ops_quiet _ rfl rfl (QO.loadRow (cs := sqC r2.1) (hr := (rdAll ((updO_ne n_b11_b3).trans ((updO_ne n_b10_b3).trans ((upd_ne _ _ n_b9_b3.ne.symm).trans ((updO_ne n_b8_b3).trans ((updO_ne n_b7_b3).trans ((updO_ne n_b6_b3).trans ((updO_ne n_b5_b3).trans ((updO_ne n_b4_b3).trans (upd_same _ _ _))))))))))) rfl sz28 rfl rfl (sqC_length _)) ?_
        refine Ops_quiet _ rfl rfl (QO.move rfl rfl) ?_
        refine Ops_quiet _ rfl rfl (QO.move rfl rfl) ?_
        have hq := Option.bind_eq_some_iff.1 hm; clear hm; obtain ⟨r13, hr13, hm⟩ := hq
        refine Ops_call _ _ rfl rfl (EO.fn rfl Try.func14 rfl rfl (Evs.cons rfl (Evs.cons rfl (Evs.cons rfl Evs.nil)))) (QC.cc (c_impl_AugmentationOf (l2 := r2.2.2.1) (A2 := adO b1) (c2 := cap_b1) hr13 (RdS.ownO (LkO.thereO n_b11_b1.symm (LkO.thereO n_b10_b1.symm (LkO.there n_b9_b1 (LkO.thereO n_b8_b1.symm (LkO.thereO n_b7_b1.symm (LkO.thereO n_b6_b1.symm (LkO.thereO n_b5_b1.symm (LkO.thereO n_b4_b1.symm (LkO.there n_b3_b1 (LkO.thereO n_b2_b1.symm LkO.here)))))))))) (fun e => congrArg (fun l => ints .i64 l) (ho_b1.nilL e)))) ?_)
        refine Ops_quiet _ rfl rfl (QO.move rfl rfl) ?_
        refine Ops_quiet _ rfl rfl (QO.extract rfl rfl rfl) ?_
        refine Ops_quiet _ rfl rfl (QO.extract rfl rfl rfl) ?_
        refine Ops_quiet _ rfl rfl (QO.assign rfl rfl) ?_
        refine Ops_quiet _ rfl rfl (QO.assign rfl rfl) ?_
        refine Ops_nil ?_
        refine thenA_n ?_
        refine wpA_seq ?_
        refine wpA_seq ?_
        refine wpA_region ?_
        refine Ops_quiet _ rfl rfl (QO.loadRow (cs := sqC r2.1) (hr := (rdAll ((updO_ne n_b11_b3).trans ((updO_ne n_b10_b3).trans ((upd_ne _ _ n_b9_b3.ne.symm).trans ((updO_ne n_b8_b3).trans ((updO_ne n_b7_b3).trans ((updO_ne n_b6_b3).trans ((updO_ne n_b5_b3).trans ((updO_ne n_b4_b3).trans (upd_same _ _ _))))))))))) rfl sz28 rfl rfl (sqC_length _)) ?_
        refine Ops_quiet _ rfl rfl (QO.move rfl rfl) ?_
        refine Ops_quiet _ rfl rfl (QO.move rfl rfl) ?_
        have hq := Option.bind_eq_some_iff.1 hm; clear hm; obtain ⟨r14, hr14, hm⟩ := hq
        refine Ops_call _ _ rfl rfl (EO.fn rfl Try.func15 rfl rfl (Evs.cons rfl (Evs.cons rfl (Evs.cons rfl Evs.nil)))) (QC.cc (c_spec_AugmentationOf (l2 := r2.2.2.1) (A2 := adO b1) (c2 := cap_b1) hr14 (RdS.ownO (LkO.thereO n_b11_b1.symm (LkO.thereO n_b10_b1.symm (LkO.there n_b9_b1 (LkO.thereO n_b8_b1.symm (LkO.thereO n_b7_b1.symm (LkO.thereO n_b6_b1.symm (LkO.thereO n_b5_b1.symm (LkO.thereO n_b4_b1.symm (LkO.there n_b3_b1 (LkO.thereO n_b2_b1.symm LkO.here)))))))))) (fun e => congrArg (fun l => ints .i64 l) (ho_b1.nilL e)))) ?_)
        refine Ops_quiet _ rfl rfl (QO.move rfl rfl) ?_
        refine Ops_quiet _ rfl rfl (QO.extract rfl rfl rfl) ?_
        refine Ops_quiet _ rfl rfl (QO.extract rfl rfl rfl) ?_
        refine Ops_quiet _ rfl rfl (QO.assign rfl rfl) ?_
        refine Ops_quiet _ rfl rfl (QO.assign rfl rfl) ?_
        refine Ops_nil ?_
        refine thenA_n ?_
        refine wpA_seq ?_
        refine wpA_region ?_
        refine Ops_quiet _ rfl rfl (QO.move rfl rfl) ?_
        refine Ops_quiet _ rfl rfl (QO.move rfl rfl) ?_
        refine Ops_quiet _ rfl rfl (QO.bin rfl rfl rfl rfl) ?_
        refine Ops_quiet _ rfl rfl (QO.move rfl rfl) ?_
        refine Ops_case 152 rfl (fun g8 => ?_) (fun g8 => ?_)
        ·replace hm := cond_t hm g8
         refine Ops_skip rfl rfl ?_
         refine Ops_skip rfl rfl ?_
         refine Ops_skip rfl rfl ?_
         refine Ops_quiet _ rfl rfl (QO.pick_t rfl rfl rfl) ?_
         refine Ops_nil ?_
         refine thenA_n ?_
         refine wpA_cond_t rfl ?_
         refine wpA_seq ?_
         refine wpA_region ?_
         refine Ops_quiet _ rfl rfl (QO.assign rfl rfl) ?_
         refine Ops_nil ?_
         refine thenA_n ?_
         refine wpA_ret ?_
         refine thenA_r ?_
         obtain rfl := Option.some.inj hm
         exact retA_r (h2 := h) (Res.one rfl (rfl)) (Le.underO (Le.underO (Le.under (Le.underO (Le.underO (Le.underO (Le.underO (Le.underO (Le.under (Le.underO (Le.underO (Le.refl _) hb1) hb2) hb3) hb4) hb5) hb6) hb7) hb8) hb9) hb10) hb11) ⟨rfl, rfl⟩
        ·replace hm := cond_f hm g8
         refine Ops_quiet _ rfl rfl (QO.move rfl rfl) ?_
         refine Ops_quiet _ rfl rfl (QO.move rfl rfl) ?_
         refine Ops_quiet _ rfl rfl (QO.bin rfl rfl rfl rfl) ?_
         refine Ops_quiet _ rfl rfl (QO.pick_f rfl rfl rfl) ?_
         refine Ops_nil ?_
         refine thenA_n ?_
         refine wpA_cond rfl (fun g9 => ?_) (fun g9 => ?_)
         ·replace hm := cond_t hm g9
          refine wpA_seq ?_
          refine wpA_region ?_
          refine Ops_quiet _ rfl rfl (QO.assign rfl rfl) ?_
          refine Ops_nil ?_
          refine thenA_n ?_
          refine wpA_ret ?_
          refine thenA_r ?_
          obtain rfl := Option.some.inj hm
          exact retA_r (h2 := h) (Res.one rfl (rfl)) (Le.underO (Le.underO (Le.under (Le.underO (Le.underO (Le.underO (Le.underO (Le.underO (Le.under (Le.underO (Le.underO (Le.refl _) hb1) hb2) hb3) hb4) hb5) hb6) hb7) hb8) hb9) hb10) hb11) ⟨rfl, rfl⟩
         ·replace hm := cond_f hm g9
          refine wpA_skip ?_
          refine thenA_n ?_
          refine wpA_seq ?_
          refine wpA_seq ?_
          refine wpA_region ?_
          refine Ops_quiet _ rfl rfl (QO.move rfl rfl) ?_
          refine Ops_quiet _ rfl rfl (QO.bin rfl rfl rfl rfl) ?_
          refine Ops_quiet _ rfl rfl (QO.move rfl rfl) ?_
          refine Ops_case 159 rfl (fun g10 => ?_) (fun g10 => ?_)
          ·replace hm := cond_t hm g10
           refine Ops_quiet _ rfl rfl (QO.move rfl rfl) ?_
           refine Ops_quiet _ rfl rfl (QO.bin rfl rfl rfl rfl) ?_
           refine Ops_quiet _ rfl rfl (QO.pick_t rfl rfl rfl) ?_
           refine Ops_nil ?_
           refine thenA_n ?_
           refine wpA_cond rfl (fun g11 => ?_) (fun g11 => ?_)
           ·replace hm := cond_t hm g11
            refine wpA_seq ?_
            refine wpA_region ?_
            refine Ops_quiet _ rfl rfl (QO.loadRow (cs := sqC r9.1) (hr := (rdAll ((updO_ne n_b11_b9).trans ((updO_ne n_b10_b9).trans (upd_same _ _ _))))) rfl sz28 rfl rfl (sqC_length _)) ?_
            refine Ops_quiet _ rfl rfl (QO.move rfl rfl) ?_
            refine Ops_quiet _ rfl rfl (QO.move rfl rfl) ?_
            refine Ops_quiet _ rfl rfl (QO.move rfl rfl) ?_
            refine Ops_quiet _ rfl rfl (QO.bin rfl rfl rfl rfl) ?_
            have hq := Option.bind_eq_some_iff.1 hm; clear hm; obtain ⟨r15, hr15, hm⟩ := hq
            refine Ops_call _ _ rfl rfl (EO.fn rfl Try.func12 rfl rfl (Evs.cons rfl (Evs.cons rfl (Evs.cons rfl (Evs.cons rfl Evs.nil))))) (CC.mono (c_impl_PowerOfSum (l2 := r9.2.2.1) (A2 := adO b8) (c2 := cap_b8) hr15 (RdS.ownO (LkO.thereO n_b11_b8.symm (LkO.thereO n_b10_b8.symm (LkO.there n_b9_b8 LkO.here))) (fun e => congrArg (fun l => ints .i64 l) (ho_b8.nilL e)))) ?_)
            rintro _ _ ⟨b12, cap_b12, hb12, ho_b12, rfl, rfl⟩
            simp only [frO_updA, frO_updOA, frO_famHA] at hb12
            obtain ⟨n_b12_b11, n_b12_b10, n_b12_b9, n_b12_b8, n_b12_b7, n_b12_b6, n_b12_b5, n_b12_b4, n_b12_b3, n_b12_b2, n_b12_b1, hb12⟩ := hb12
            refine Ops_quiet _ rfl rfl (QO.move rfl rfl) ?_
            refine Ops_quiet _ rfl rfl (QO.extract rfl rfl rfl) ?_
            refine Ops_quiet _ rfl rfl (QO.extract rfl rfl rfl) ?_
            refine Ops_quiet _ rfl rfl (QO.assign rfl rfl) ?_
            refine Ops_quiet _ rfl rfl (QO.assign rfl rfl) ?_
            refine Ops_nil ?_
            refine thenA_n ?_
            refine wpA_seq ?_
            refine wpA_region ?_
            refine Ops_quiet _ rfl rfl (QO.loadRow (cs := sqC r9.1) (hr := (rdAll ((updO_ne n_b12_b9).trans ((updO_ne n_b11_b9).trans ((updO_ne n_b10_b9).trans (upd_same _ _ _)))))) rfl sz28 rfl rfl (sqC_length _)) ?_
            refine Ops_quiet _ rfl rfl (QO.move rfl rfl) ?_
            refine Ops_quiet _ rfl rfl (QO.move rfl rfl) ?_
            refine Ops_quiet _ rfl rfl (QO.move rfl rfl) ?_
            have hq := Option.bind_eq_some_iff.1 hm; clear hm; obtain ⟨r16, hr16, hm⟩ := hq
            refine Ops_call _ _ rfl rfl (EO.fn rfl Try.func6 rfl rfl (Evs.cons rfl (Evs.cons rfl (Evs.cons rfl (Evs.cons rfl Evs.nil))))) (CC.mono (c_impl_MultiplySums (l2 := r10.1) (A2 := adO b10) (c2 := cap_b10) (l3 := r9.2.2.1) (A3 := adO b8) (c3 := cap_b8) hr16 (RdS.ownO (LkO.thereO n_b12_b10.symm (LkO.thereO n_b11_b10.symm LkO.here)) (fun e => congrArg (fun l => ints .i64 l) (ho_b10.nilL e))) (RdS.ownO (LkO.thereO n_b12_b8.symm (LkO.thereO n_b11_b8.symm (LkO.thereO n_b10_b8.symm (LkO.there n_b9_b8 LkO.here)))) (fun e => congrArg (fun l => ints .i64 l) (ho_b8.nilL e)))) ?_)
            rintro _ _ ⟨b13, cap_b13, hb13, ho_b13, rfl, rfl⟩
            simp only [frO_updA, frO_updOA, frO_famHA] at hb13
            obtain ⟨n_b13_b12, n_b13_b11, n_b13_b10, n_b13_b9, n_b13_b8, n_b13_b7, n_b13_b6, n_b13_b5, n_b13_b4, n_b13_b3, n_b13_b2, n_b13_b1, hb13⟩ := hb13
            refine Ops_quiet _ rfl rfl (QO.move rfl rfl) ?_
            refine Ops_quiet _ rfl rfl (QO.extract rfl rfl rfl) ?_
            refine Ops_quiet _ rfl rfl (QO.extract rfl rfl rfl) ?_
            refine Ops_quiet _ rfl rfl (QO.assign rfl rfl) ?_
            refine Ops_quiet _ rfl rfl (QO.assign rfl rfl) ?_
            refine Ops_nil ?_
            refine thenA_n ?_
            refine wpA_weaken (show Abs.Sub _ [(0, .slice A0 l0.length c0), (2, .bool false), (3, .pointer (some ⟨b3, 0, none⟩)), (4, .int .i64 r2.2.1), (5, .slice (adO b1) r2.2.2.1.length cap_b1), (6, .slice (adO b2) r2.2.2.2.length cap_b2), (7, .slice (adO b4) r3.1.length cap_b4), (8, .int .i64 r3.2), (11, .slice (adO b6) r6.1.length cap_b6), (23, .int .i64 r13.1), (27, .slice (adO b12) r15.1.length cap_b12), (28, .int .i64 r15.2), (29, .slice (adO b13) r16.1.length cap_b13), (30, .int .i64 r16.2)] from (Sub.cons rfl (Sub.cons rfl (Sub.cons rfl (Sub.cons rfl (Sub.cons rfl (Sub.cons rfl (Sub.cons rfl (Sub.cons rfl (Sub.cons rfl (Sub.cons rfl (Sub.cons rfl (Sub.cons rfl (Sub.cons rfl (Sub.cons rfl (Sub.nil)))))))))))))))).ok (Le.refl _) ?_
            refine wpA_seq ?_
            refine wpA_region ?_
            refine Ops_quiet _ rfl rfl (QO.move rfl rfl) ?_
            refine Ops_quiet _ rfl rfl (QO.bin rfl rfl rfl rfl) ?_
            refine Ops_quiet _ rfl rfl (QO.move rfl rfl) ?_
            refine Ops_case 182 rfl (fun g12 => ?_) (fun g12 => ?_)
            ·replace hm := cond_t hm g12
             refine Ops_skip rfl rfl ?_
             refine Ops_skip rfl rfl ?_
             refine Ops_quiet _ rfl rfl (QO.pick_t rfl rfl rfl) ?_
             refine Ops_quiet _ rfl rfl (QO.move rfl rfl) ?_
             refine Ops_skip rfl rfl ?_
             refine Ops_skip rfl rfl ?_
             refine Ops_skip rfl rfl ?_
             refine Ops_skip rfl rfl ?_
             refine Ops_quiet _ rfl rfl (QO.pick_t rfl rfl rfl) ?_
             refine Ops_nil ?_
             refine thenA_n ?_
             refine wpA_cond_t rfl ?_
             refine wpA_seq ?_
             refine wpA_region ?_
             refine Ops_quiet _ rfl rfl (QO.assign rfl rfl) ?_
             refine Ops_nil ?_
             refine thenA_n ?_
             refine wpA_ret ?_
             refine thenA_r ?_
             obtain rfl := Option.some.inj hm
             exact retA_r (h2 := h) (Res.one rfl (rfl)) (Le.underO (Le.underO (Le.underO (Le.underO (Le.under (Le.underO (Le.underO (Le.underO (Le.underO (Le.underO (Le.under (Le.underO (Le.underO (Le.refl _) hb1) hb2) hb3) hb4) hb5) hb6) hb7) hb8) hb9) hb10) hb11) hb12) hb13) ⟨rfl, rfl⟩
            ·replace hm := cond_f hm g12
             refine Ops_quiet _ rfl rfl (QO.move rfl rfl) ?_
             refine Ops_quiet _ rfl rfl (QO.bin rfl rfl rfl rfl) ?_
             refine Ops_quiet _ rfl rfl (QO.pick_f rfl rfl rfl) ?_
             refine Ops_quiet _ rfl rfl (QO.move rfl rfl) ?_
             refine Ops_case 186 rfl (fun g13 => ?_) (fun g13 => ?_)
             ·replace hm := cond_t hm g13
              refine Ops_skip rfl rfl ?_
              refine Ops_skip rfl rfl ?_
              refine Ops_skip rfl rfl ?_
              refine Ops_skip rfl rfl ?_
              refine Ops_quiet _ rfl rfl (QO.pick_t rfl rfl rfl) ?_
              refine Ops_nil ?_
              refine thenA_n ?_
              refine wpA_cond_t rfl ?_
              refine wpA_seq ?_
              refine wpA_region ?_
              refine Ops_quiet _ rfl rfl (QO.assign rfl rfl) ?_
              refine Ops_nil ?_
              refine thenA_n ?_
              refine wpA_ret ?_
              refine thenA_r ?_
              obtain rfl := Option.some.inj hm
              exact retA_r (h2 := h) (Res.one rfl (rfl)) (Le.underO (Le.underO (Le.underO (Le.underO (Le.under (Le.underO (Le.underO (Le.underO (Le.underO (Le.underO (Le.under (Le.underO (Le.underO (Le.refl _) hb1) hb2) hb3) hb4) hb5) hb6) hb7) hb8) hb9) hb10) hb11) hb12) hb13) ⟨rfl, rfl⟩
             ·replace hm := cond_f hm g13
              refine Ops_quiet _ rfl rfl (QO.move rfl rfl) ?_
              refine Ops_quiet _ rfl rfl (QO.move rfl rfl) ?_
              have hq := Option.bind_eq_some_iff.1 hm; clear hm; obtain ⟨r17, hr17, hm⟩ := hq
              refine Ops_call _ _ rfl rfl (EO.fn rfl Try.func8 rfl rfl (Evs.cons rfl (Evs.cons rfl Evs.nil))) (QC.cc (c_laws_likeInts (l0 := r15.1) (A0 := adO b12) (c0 := cap_b12) (l1 := r16.1) (A1 := adO b13) (c1 := cap_b13) hr17 (RdS.ownO (LkO.thereO n_b13_b12.symm LkO.here) (fun e => congrArg (fun l => ints .i64 l) (ho_b12.nilL e))) (RdS.ownO LkO.here (fun e => congrArg (fun l => ints .i64 l) (ho_b13.nilL e)))) ?_)
              refine Ops_quiet _ rfl rfl (QO.not rfl rfl) ?_
              refine Ops_quiet _ rfl rfl (QO.pick_f rfl rfl rfl) ?_
              refine Ops_nil ?_
              refine thenA_n ?_
              refine wpA_cond rfl (fun g14 => ?_) (fun g14 => ?_)
              ·replace hm := cond_t hm g14
               refine wpA_seq ?_
               refine wpA_region ?_
               refine Ops_quiet _ rfl rfl (QO.assign rfl rfl) ?_
               refine Ops_nil ?_
               refine thenA_n ?_
               refine wpA_ret ?_
               refine thenA_r ?_
               obtain rfl := Option.some.inj hm
               exact retA_r (h2 := h) (Res.one rfl (rfl)) (Le.underO (Le.underO (Le.underO (Le.underO (Le.under (Le.underO (Le.underO (Le.underO (Le.underO (Le.underO (Le.under (Le.underO (Le.underO (Le.refl _) hb1) hb2) hb3) hb4) hb5) hb6) hb7) hb8) hb9) hb10) hb11) hb12) hb13) ⟨rfl, rfl⟩
              ·replace hm := cond_f hm g14
               refine wpA_skip ?_
               refine thenA_n ?_
               refine wpA_seq ?_
               refine wpA_seq ?_
               refine wpA_region ?_
               refine Ops_quiet _ rfl rfl (QO.move rfl rfl) ?_
               refine Ops_quiet _ rfl rfl (QO.bin rfl rfl rfl rfl) ?_
               refine Ops_nil ?_
               refine thenA_n ?_
               refine wpA_cond rfl (fun g15 => ?_) (fun g15 => ?_)
               ·replace hm := cond_t hm g15
                refine wpA_seq ?_
                refine wpA_region ?_
                refine Ops_quiet _ rfl rfl (QO.move rfl rfl) ?_
                refine Ops_quiet _ rfl rfl (QO.lenSl rfl sz29 rfl) ?_
                refine Ops_quiet _ rfl rfl (QO.bin rfl rfl rfl rfl) ?_
                refine Ops_quiet _ rfl rfl (QO.assign rfl rfl) ?_
                refine Ops_nil ?_
                refine thenA_n ?_
                refine wpA_ret ?_
                refine thenA_r ?_
                obtain rfl := Option.some.inj hm
                exact retA_r (h2 := h) (Res.one rfl (rfl)) (Le.underO (Le.underO (Le.underO (Le.underO (Le.under (Le.underO (Le.underO (Le.underO (Le.underO (Le.underO (Le.under (Le.underO (Le.underO (Le.refl _) hb1) hb2) hb3) hb4) hb5) hb6) hb7) hb8) hb9) hb10) hb11) hb12) hb13) ⟨rfl, rfl⟩
               ·replace hm := cond_f hm g15
                refine wpA_skip ?_
                refine thenA_n ?_
                refine wpA_seq ?_
                refine wpA_region ?_
                refine Ops_quiet _ rfl rfl (QO.loadRow (cs := sqC r2.1) (hr := (rdAll ((updO_ne n_b13_b3).trans ((updO_ne n_b12_b3).trans ((updO_ne n_b11_b3).trans ((updO_ne n_b10_b3).trans ((upd_ne _ _ n_b9_b3.ne.symm).trans ((updO_ne n_b8_b3).trans ((updO_ne n_b7_b3).trans ((updO_ne n_b6_b3).trans ((updO_ne n_b5_b3).trans ((updO_ne n_b4_b3).trans (upd_same _ _ _))))))))))))) rfl sz28 rfl rfl (sqC_length _)) ?_
                refine Ops_quiet _ rfl rfl (QO.move rfl rfl) ?_
                refine Ops_quiet _ rfl rfl (QO.move rfl rfl) ?_
                have hq := Option.bind_eq_some_iff.1 hm; clear hm; obtain ⟨r18, hr18, hm⟩ := hq
                refine Ops_call _ _ rfl rfl (EO.fn rfl Try.func14 rfl rfl (Evs.cons rfl (Evs.cons rfl (Evs.cons rfl Evs.nil)))) (QC.cc (c_impl_AugmentationOf (l2 := r2.2.2.2) (A2 := adO b2) (c2 := cap_b2) hr18 (RdS.ownO (LkO.thereO n_b13_b2.symm (LkO.thereO n_b12_b2.symm (LkO.thereO n_b11_b2.symm (LkO.thereO n_b10_b2.symm (LkO.there n_b9_b2 (LkO.thereO n_b8_b2.symm (LkO.thereO n_b7_b2.symm (LkO.thereO n_b6_b2.symm (LkO.thereO n_b5_b2.symm (LkO.thereO n_b4_b2.symm (LkO.there n_b3_b2 LkO.here))))))))))) (fun e => congrArg (fun l => ints .i64 l) (ho_b2.nilL e)))) ?_)
                refine Ops_quiet _ rfl rfl (QO.move rfl rfl) ?_
                refine Ops_quiet _ rfl rfl (QO.extract rfl rfl rfl) ?_
                refine Ops_quiet _ rfl rfl (QO.extract rfl rfl rfl) ?_
                refine Ops_quiet _ rfl rfl (QO.assign rfl rfl) ?_
                refine Ops_quiet _ rfl rfl (QO.assign rfl rfl) ?_
                refine Ops_nil ?_
                refine thenA_n ?_
                refine wpA_seq ?_
                refine wpA_region ?_
                refine Ops_quiet _ rfl rfl (QO.loadRow (cs := sqC r2.1) (hr := (rdAll ((updO_ne n_b13_b3).trans ((updO_ne n_b12_b3).trans ((updO_ne n_b11_b3).trans ((updO_ne n_b10_b3).trans ((upd_ne _ _ n_b9_b3.ne.symm).trans ((updO_ne n_b8_b3).trans ((updO_ne n_b7_b3).trans ((updO_ne n_b6_b3).trans ((updO_ne n_b5_b3).trans ((updO_ne n_b4_b3).trans (upd_same _ _ _))))))))))))) rfl sz28 rfl rfl (sqC_length _)) ?_
                refine Ops_quiet _ rfl rfl (QO.move rfl rfl) ?_
                refine Ops_quiet _ rfl rfl (QO.move rfl rfl) ?_
                have hq := Option.bind_eq_some_iff.1 hm; clear hm; obtain ⟨r19, hr19, hm⟩ := hq
                refine Ops_call _ _ rfl rfl (EO.fn rfl Try.func14 rfl rfl (Evs.cons rfl (Evs.cons rfl (Evs.cons rfl Evs.nil)))) (QC.cc (c_impl_AugmentationOf (l2 := r3.1) (A2 := adO b4) (c2 := cap_b4) hr19 (RdS.ownO (LkO.thereO n_b13_b4.symm (LkO.thereO n_b12_b4.symm (LkO.thereO n_b11_b4.symm (LkO.thereO n_b10_b4.symm (LkO.there n_b9_b4 (LkO.thereO n_b8_b4.symm (LkO.thereO n_b7_b4.symm (LkO.thereO n_b6_b4.symm (LkO.thereO n_b5_b4.symm LkO.here))))))))) (fun e => congrArg (fun l => ints .i64 l) (ho_b4.nilL e)))) ?_)
                refine Ops_quiet _ rfl rfl (QO.move rfl rfl) ?_
                refine Ops_quiet _ rfl rfl (QO.extract rfl rfl rfl) ?_
                refine Ops_quiet _ rfl rfl (QO.extract rfl rfl rfl) ?_
                refine Ops_quiet _ rfl rfl (QO.assign rfl rfl) ?_
                refine Ops_quiet _ rfl rfl (QO.assign rfl rfl) ?_
                refine Ops_nil ?_
                refine thenA_n ?_
                refine wpA_seq ?_
                refine wpA_any (updO (updO (updO (updO (upd (updO (updO (updO (updO (updO (upd (updO (updO (h) b1 (.own 2 (ints .i64 r2.2.2.1) (cap_b1 * 1))) b2 (.own 2 (ints .i64 r2.2.2.2) (cap_b2 * 1))) b3 (.own 28 (sqC r2.1) 101)) b4 (.own 2 (ints .i64 r3.1) (cap_b4 * 1))) b5 (.own 2 (ints .i64 r4.1) (cap_b5 * 1))) b6 (.own 2 (ints .i64 r6.1) (cap_b6 * 1))) b7 (.own 2 (ints .i64 r7.1) (cap_b7 * 1))) b8 (.own 2 (ints .i64 r9.2.2.1) (cap_b8 * 1))) b9 (.own 28 (sqC r9.1) 101)) b10 (.own 2 (ints .i64 r10.1) (cap_b10 * 1))) b11 (.own 2 (ints .i64 r11.1) (cap_b11 * 1))) b12 (.own 2 (ints .i64 r15.1) (cap_b12 * 1))) b13 (.own 2 (ints .i64 r16.1) (cap_b13 * 1))) [1, 5] [] (by kernel_rfl) (by kernel_rfl) (DW.start ?_)
                refine DW.pure' 0 _ rfl (by kernel_rfl) rfl (fun _ => QO.move rfl rfl) ?_
                refine DW.pure' 2 _ rfl (by kernel_rfl) rfl (fun _ => QO.fieldAt (fo := 0) rfl sz28 rfl rfl sz2 rfl rfl) ?_
                refine DW.readK' 3 _ rfl (by kernel_rfl) rfl (Le.upd_leftO (Le.upd_leftO (Le.upd_leftO (Le.upd_leftO (Le.upd_left (Le.upd_leftO (Le.upd_leftO (Le.upd_leftO (Le.upd_leftO (Le.upd_leftO (Le.upd_left (Le.upd_leftO (Le.upd_leftO (Le.underO (Le.underO (Le.underO (Le.underO (Le.under (Le.underO (Le.underO (Le.underO (Le.underO (Le.underO (Le.under (Le.underO (Le.underO (Le.refl _) hb1) hb2) hb3) hb4) hb5) hb6) hb7) hb8) hb9) hb10) hb11) hb12) hb13) (LkO.thereO n_b13_b1.symm (LkO.thereO n_b12_b1.symm (LkO.thereO n_b11_b1.symm (LkO.thereO n_b10_b1.symm (LkO.there n_b9_b1 (LkO.thereO n_b8_b1.symm (LkO.thereO n_b7_b1.symm (LkO.thereO n_b6_b1.symm (LkO.thereO n_b5_b1.symm (LkO.thereO n_b4_b1.symm (LkO.there n_b3_b1 (LkO.thereO n_b2_b1.symm LkO.here)))))))))))) (by first | rfl | (simp; done))) (LkO.thereO n_b13_b2.symm (LkO.thereO n_b12_b2.symm (LkO.thereO n_b11_b2.symm (LkO.thereO n_b10_b2.symm (LkO.there n_b9_b2 (LkO.thereO n_b8_b2.symm (LkO.thereO n_b7_b2.symm (LkO.thereO n_b6_b2.symm (LkO.thereO n_b5_b2.symm (LkO.thereO n_b4_b2.symm (LkO.there n_b3_b2 LkO.here))))))))))) (by first | rfl | (simp; done))) ((updO_ne n_b13_b3).trans ((updO_ne n_b12_b3).trans ((updO_ne n_b11_b3).trans ((updO_ne n_b10_b3).trans ((upd_ne _ _ n_b9_b3.ne.symm).trans ((updO_ne n_b8_b3).trans ((updO_ne n_b7_b3).trans ((updO_ne n_b6_b3).trans ((updO_ne n_b5_b3).trans ((updO_ne n_b4_b3).trans (upd_same _ _ _))))))))))) (by first | rfl | (simp; done))) (LkO.thereO n_b13_b4.symm (LkO.thereO n_b12_b4.symm (LkO.thereO n_b11_b4.symm (LkO.thereO n_b10_b4.symm (LkO.there n_b9_b4 (LkO.thereO n_b8_b4.symm (LkO.thereO n_b7_b4.symm (LkO.thereO n_b6_b4.symm (LkO.thereO n_b5_b4.symm LkO.here))))))))) (by first | rfl | (simp; done))) (LkO.thereO n_b13_b5.symm (LkO.thereO n_b12_b5.symm (LkO.thereO n_b11_b5.symm (LkO.thereO n_b10_b5.symm (LkO.there n_b9_b5 (LkO.thereO n_b8_b5.symm (LkO.thereO n_b7_b5.symm (LkO.thereO n_b6_b5.symm LkO.here)))))))) (by first | rfl | (simp; done))) (LkO.thereO n_b13_b6.symm (LkO.thereO n_b12_b6.symm (LkO.thereO n_b11_b6.symm (LkO.thereO n_b10_b6.symm (LkO.there n_b9_b6 (LkO.thereO n_b8_b6.symm (LkO.thereO n_b7_b6.symm LkO.here))))))) (by first | rfl | (simp; done))) (LkO.thereO n_b13_b7.symm (LkO.thereO n_b12_b7.symm (LkO.thereO n_b11_b7.symm (LkO.thereO n_b10_b7.symm (LkO.there n_b9_b7 (LkO.thereO n_b8_b7.symm LkO.here)))))) (by first | rfl | (simp; done))) (LkO.thereO n_b13_b8.symm (LkO.thereO n_b12_b8.symm (LkO.thereO n_b11_b8.symm (LkO.thereO n_b10_b8.symm (LkO.there n_b9_b8 LkO.here))))) (by first | rfl | (simp; done))) ((updO_ne n_b13_b9).trans ((updO_ne n_b12_b9).trans ((updO_ne n_b11_b9).trans ((updO_ne n_b10_b9).trans (upd_same _ _ _))))) (by first | rfl | (simp; done))) (LkO.thereO n_b13_b10.symm (LkO.thereO n_b12_b10.symm (LkO.thereO n_b11_b10.symm LkO.here))) (by first | rfl | (simp; done))) (LkO.thereO n_b13_b11.symm (LkO.thereO n_b12_b11.symm LkO.here)) (by first | rfl | (simp; done))) (LkO.thereO n_b13_b12.symm LkO.here) (by first | rfl | (simp; done))) LkO.here (by first | rfl | (simp; done))) (QO.load rfl sz2 rfl rfl (by (refine (rd_own ((updO_ne n_b13_b3).trans ((updO_ne n_b12_b3).trans ((updO_ne n_b11_b3).trans ((updO_ne n_b10_b3).trans ((upd_ne _ _ n_b9_b3.ne.symm).trans ((updO_ne n_b8_b3).trans ((updO_ne n_b7_b3).trans ((updO_ne n_b6_b3).trans ((updO_ne n_b5_b3).trans ((updO_ne n_b4_b3).trans (upd_same _ _ _))))))))))) _).trans ?_); exact rfl)) ?_
                refine DW.pure' 4 _ rfl (by kernel_rfl) rfl (fun _ => QO.move rfl rfl) ?_
                have hq := Option.bind_eq_some_iff.1 hm; clear hm; obtain ⟨r20, hr20, hm⟩ := hq
                refine DW.call 1 _ _ rfl (by kernel_rfl) rfl rfl (EO.fn rfl Try.func17 rfl rfl (Evs.cons rfl (Evs.cons rfl Evs.nil))) (CC.mono (c_laws_roll (l0 := l0) (A0 := A0) (c0 := c0) hr20 (RdS.le hs0 (Le.underO (Le.underO (Le.underO (Le.underO (Le.under (Le.underO (Le.underO (Le.underO (Le.underO (Le.underO (Le.under (Le.underO (Le.underO (Le.refl _) hb1) hb2) hb3) hb4) hb5) hb6) hb7) hb8) hb9) hb10) hb11) hb12) hb13))) ?_)
                rintro _ _ ⟨b14, hb14, rfl, rfl⟩
                simp only [upd_noneA, updO_noneA, famH_noneA] at hb14
                obtain ⟨n_b14_b13, n_b14_b12, n_b14_b11, n_b14_b10, n_b14_b9, n_b14_b8, n_b14_b7, n_b14_b6, n_b14_b5, n_b14_b4, n_b14_b3, n_b14_b2, n_b14_b1, hb14⟩ := hb14
                refine ⟨(fun _ => (Le.upd_leftO (Le.upd_leftO (Le.upd_leftO (Le.upd_leftO (Le.upd_left (Le.upd_leftO (Le.upd_leftO (Le.upd_leftO (Le.upd_leftO (Le.upd_leftO (Le.upd_left (Le.upd_leftO (Le.upd_leftO (Le.under (Le.underO (Le.underO (Le.underO (Le.underO (Le.under (Le.underO (Le.underO (Le.underO (Le.underO (Le.underO (Le.under (Le.underO (Le.underO (Le.refl _) hb1) hb2) hb3) hb4) hb5) hb6) hb7) hb8) hb9) hb10) hb11) hb12) hb13) hb14) (LkO.there n_b14_b1 (LkO.thereO n_b13_b1.symm (LkO.thereO n_b12_b1.symm (LkO.thereO n_b11_b1.symm (LkO.thereO n_b10_b1.symm (LkO.there n_b9_b1 (LkO.thereO n_b8_b1.symm (LkO.thereO n_b7_b1.symm (LkO.thereO n_b6_b1.symm (LkO.thereO n_b5_b1.symm (LkO.thereO n_b4_b1.symm (LkO.there n_b3_b1 (LkO.thereO n_b2_b1.symm LkO.here))))))))))))) (by first | rfl | (simp; done))) (LkO.there n_b14_b2 (LkO.thereO n_b13_b2.symm (LkO.thereO n_b12_b2.symm (LkO.thereO n_b11_b2.symm (LkO.thereO n_b10_b2.symm (LkO.there n_b9_b2 (LkO.thereO n_b8_b2.symm (LkO.thereO n_b7_b2.symm (LkO.thereO n_b6_b2.symm (LkO.thereO n_b5_b2.symm (LkO.thereO n_b4_b2.symm (LkO.there n_b3_b2 LkO.here)))))))))))) (by first | rfl | (simp; done))) ((upd_ne _ _ n_b14_b3.ne.symm).trans ((updO_ne n_b13_b3).trans ((updO_ne n_b12_b3).trans ((updO_ne n_b11_b3).trans ((updO_ne n_b10_b3).trans ((upd_ne _ _ n_b9_b3.ne.symm).trans ((updO_ne n_b8_b3).trans ((updO_ne n_b7_b3).trans ((updO_ne n_b6_b3).trans ((updO_ne n_b5_b3).trans ((updO_ne n_b4_b3).trans (upd_same _ _ _)))))))))))) (by first | rfl | (simp; done))) (LkO.there n_b14_b4 (LkO.thereO n_b13_b4.symm (LkO.thereO n_b12_b4.symm (LkO.thereO n_b11_b4.symm (LkO.thereO n_b10_b4.symm (LkO.there n_b9_b4 (LkO.thereO n_b8_b4.symm (LkO.thereO n_b7_b4.symm (LkO.thereO n_b6_b4.symm (LkO.thereO n_b5_b4.symm LkO.here)))))))))) (by first | rfl | (simp; done))) (LkO.there n_b14_b5 (LkO.thereO n_b13_b5.symm (LkO.thereO n_b12_b5.symm (LkO.thereO n_b11_b5.symm (LkO.thereO n_b10_b5.symm (LkO.there n_b9_b5 (LkO.thereO n_b8_b5.symm (LkO.thereO n_b7_b5.symm (LkO.thereO n_b6_b5.symm LkO.here))))))))) (by first | rfl | (simp; done))) (LkO.there n_b14_b6 (LkO.thereO n_b13_b6.symm (LkO.thereO n_b12_b6.symm (LkO.thereO n_b11_b6.symm (LkO.thereO n_b10_b6.symm (LkO.there n_b9_b6 (LkO.thereO n_b8_b6.symm (LkO.thereO n_b7_b6.symm LkO.here)))))))) (by first | rfl | (simp; done))) (LkO.there n_b14_b7 (LkO.thereO n_b13_b7.symm (LkO.thereO n_b12_b7.symm (LkO.thereO n_b11_b7.symm (LkO.thereO n_b10_b7.symm (LkO.there n_b9_b7 (LkO.thereO n_b8_b7.symm LkO.here))))))) (by first | rfl | (simp; done))) (LkO.there n_b14_b8 (LkO.thereO n_b13_b8.symm (LkO.thereO n_b12_b8.symm (LkO.thereO n_b11_b8.symm (LkO.thereO n_b10_b8.symm (LkO.there n_b9_b8 LkO.here)))))) (by first | rfl | (simp; done))) ((upd_ne _ _ n_b14_b9.ne.symm).trans ((updO_ne n_b13_b9).trans ((updO_ne n_b12_b9).trans ((updO_ne n_b11_b9).trans ((updO_ne n_b10_b9).trans (upd_same _ _ _)))))) (by first | rfl | (simp; done))) (LkO.there n_b14_b10 (LkO.thereO n_b13_b10.symm (LkO.thereO n_b12_b10.symm (LkO.thereO n_b11_b10.symm LkO.here)))) (by first | rfl | (simp; done))) (LkO.there n_b14_b11 (LkO.thereO n_b13_b11.symm (LkO.thereO n_b12_b11.symm LkO.here))) (by first | rfl | (simp; done))) (LkO.there n_b14_b12 (LkO.thereO n_b13_b12.symm LkO.here)) (by first | rfl | (simp; done))) (LkO.there n_b14_b13 LkO.here) (by first | rfl | (simp; done)))), ?_⟩
                have hq := Option.bind_eq_some_iff.1 hm; clear hm; obtain ⟨r21, hr21, hm⟩ := hq
                have hd1 : Del (upd (updO (updO (updO (updO (upd (updO (updO (updO (updO (updO (upd (updO (updO (h) b1 (.own 2 (ints .i64 r2.2.2.1) (cap_b1 * 1))) b2 (.own 2 (ints .i64 r2.2.2.2) (cap_b2 * 1))) b3 (.own 28 (sqC r2.1) 101)) b4 (.own 2 (ints .i64 r3.1) (cap_b4 * 1))) b5 (.own 2 (ints .i64 r4.1) (cap_b5 * 1))) b6 (.own 2 (ints .i64 r6.1) (cap_b6 * 1))) b7 (.own 2 (ints .i64 r7.1) (cap_b7 * 1))) b8 (.own 2 (ints .i64 r9.2.2.1) (cap_b8 * 1))) b9 (.own 28 (sqC r9.1) 101)) b10 (.own 2 (ints .i64 r10.1) (cap_b10 * 1))) b11 (.own 2 (ints .i64 r11.1) (cap_b11 * 1))) b12 (.own 2 (ints .i64 r15.1) (cap_b12 * 1))) b13 (.own 2 (ints .i64 r16.1) (cap_b13 * 1))) b14 (.own 60 (srcC A0 l0.length c0 r20) 3)) b14 (.own 60 (srcC A0 l0.length c0 r20) 3) (updO (updO (updO (updO (upd (updO (updO (updO (updO (updO (upd (updO (updO (h) b1 (.own 2 (ints .i64 r2.2.2.1) (cap_b1 * 1))) b2 (.own 2 (ints .i64 r2.2.2.2) (cap_b2 * 1))) b3 (.own 28 (sqC r2.1) 101)) b4 (.own 2 (ints .i64 r3.1) (cap_b4 * 1))) b5 (.own 2 (ints .i64 r4.1) (cap_b5 * 1))) b6 (.own 2 (ints .i64 r6.1) (cap_b6 * 1))) b7 (.own 2 (ints .i64 r7.1) (cap_b7 * 1))) b8 (.own 2 (ints .i64 r9.2.2.1) (cap_b8 * 1))) b9 (.own 28 (sqC r9.1) 101)) b10 (.own 2 (ints .i64 r10.1) (cap_b10 * 1))) b11 (.own 2 (ints .i64 r11.1) (cap_b11 * 1))) b12 (.own 2 (ints .i64 r15.1) (cap_b12 * 1))) b13 (.own 2 (ints .i64 r16.1) (cap_b13 * 1))) := (Del.here (none_updO n_b14_b13 (none_updO n_b14_b12 (none_updO n_b14_b11 (none_updO n_b14_b10 (none_upd n_b14_b9.ne (none_updO n_b14_b8 (none_updO n_b14_b7 (none_updO n_b14_b6 (none_updO n_b14_b5 (none_updO n_b14_b4 (none_upd n_b14_b3.ne (none_updO n_b14_b2 (none_updO n_b14_b1 hb14))))))))))))))
                refine DW.call 5 _ _ rfl (by kernel_rfl) rfl rfl (EO.fn rfl Try.func16 rfl rfl (Evs.cons rfl (Evs.cons rfl (Evs.cons rfl Evs.nil)))) (CC.mono (CC.atLe (c_laws_sum9 (h := updO (updO (updO (updO (upd (updO (updO (updO (updO (updO (upd (updO (updO (h) b1 (.own 2 (ints .i64 r2.2.2.1) (cap_b1 * 1))) b2 (.own 2 (ints .i64 r2.2.2.2) (cap_b2 * 1))) b3 (.own 28 (sqC r2.1) 101)) b4 (.own 2 (ints .i64 r3.1) (cap_b4 * 1))) b5 (.own 2 (ints .i64 r4.1) (cap_b5 * 1))) b6 (.own 2 (ints .i64 r6.1) (cap_b6 * 1))) b7 (.own 2 (ints .i64 r7.1) (cap_b7 * 1))) b8 (.own 2 (ints .i64 r9.2.2.1) (cap_b8 * 1))) b9 (.own 28 (sqC r9.1) 101)) b10 (.own 2 (ints .i64 r10.1) (cap_b10 * 1))) b11 (.own 2 (ints .i64 r11.1) (cap_b11 * 1))) b12 (.own 2 (ints .i64 r15.1) (cap_b12 * 1))) b13 (.own 2 (ints .i64 r16.1) (cap_b13 * 1))) hr21 (RdS.le hs0 (Le.underO (Le.underO (Le.underO (Le.underO (Le.under (Le.underO (Le.underO (Le.underO (Le.underO (Le.underO (Le.under (Le.underO (Le.underO (Le.refl _) hb1) hb2) hb3) hb4) hb5) hb6) hb7) hb8) hb9) hb10) hb11) hb12) hb13)) hd1.none) hd1.le) ?_)
                rintro _ _ ⟨b15, cap_b15, hb15, hk_b15, hc_b15, rfl, rfl⟩
                simp only [upd_noneA, updO_noneA, famH_noneA] at hb15
                obtain ⟨n_b15_b14, n_b15_b13, n_b15_b12, n_b15_b11, n_b15_b10, n_b15_b9, n_b15_b8, n_b15_b7, n_b15_b6, n_b15_b5, n_b15_b4, n_b15_b3, n_b15_b2, n_b15_b1, hb15⟩ := hb15
                refine ⟨(fun _ => (Le.upd_leftO (Le.upd_leftO (Le.upd_leftO (Le.upd_leftO (Le.upd_left (Le.upd_leftO (Le.upd_leftO (Le.upd_leftO (Le.upd_leftO (Le.upd_leftO (Le.upd_left (Le.upd_leftO (Le.upd_leftO (Le.under (Le.under (Le.underO (Le.underO (Le.underO (Le.underO (Le.under (Le.underO (Le.underO (Le.underO (Le.underO (Le.underO (Le.under (Le.underO (Le.underO (Le.refl _) hb1) hb2) hb3) hb4) hb5) hb6) hb7) hb8) hb9) hb10) hb11) hb12) hb13) hb14) hb15) (LkO.there n_b15_b1 (LkO.there n_b14_b1 (LkO.thereO n_b13_b1.symm (LkO.thereO n_b12_b1.symm (LkO.thereO n_b11_b1.symm (LkO.thereO n_b10_b1.symm (LkO.there n_b9_b1 (LkO.thereO n_b8_b1.symm (LkO.thereO n_b7_b1.symm (LkO.thereO n_b6_b1.symm (LkO.thereO n_b5_b1.symm (LkO.thereO n_b4_b1.symm (LkO.there n_b3_b1 (LkO.thereO n_b2_b1.symm LkO.here)))))))))))))) (by first | rfl | (simp; done))) (LkO.there n_b15_b2 (LkO.there n_b14_b2 (LkO.thereO n_b13_b2.symm (LkO.thereO n_b12_b2.symm (LkO.thereO n_b11_b2.symm (LkO.thereO n_b10_b2.symm (LkO.there n_b9_b2 (LkO.thereO n_b8_b2.symm (LkO.thereO n_b7_b2.symm (LkO.thereO n_b6_b2.symm (LkO.thereO n_b5_b2.symm (LkO.thereO n_b4_b2.symm (LkO.there n_b3_b2 LkO.here))))))))))))) (by first | rfl | (simp; done))) ((upd_ne _ _ n_b15_b3.ne.symm).trans ((upd_ne _ _ n_b14_b3.ne.symm).trans ((updO_ne n_b13_b3).trans ((updO_ne n_b12_b3).trans ((updO_ne n_b11_b3).trans ((updO_ne n_b10_b3).trans ((upd_ne _ _ n_b9_b3.ne.symm).trans ((updO_ne n_b8_b3).trans ((updO_ne n_b7_b3).trans ((updO_ne n_b6_b3).trans ((updO_ne n_b5_b3).trans ((updO_ne n_b4_b3).trans (upd_same _ _ _))))))))))))) (by first | rfl | (simp; done))) (LkO.there n_b15_b4 (LkO.there n_b14_b4 (LkO.thereO n_b13_b4.symm (LkO.thereO n_b12_b4.symm (LkO.thereO n_b11_b4.symm (LkO.thereO n_b10_b4.symm (LkO.there n_b9_b4 (LkO.thereO n_b8_b4.symm (LkO.thereO n_b7_b4.symm (LkO.thereO n_b6_b4.symm (LkO.thereO n_b5_b4.symm LkO.here))))))))))) (by first | rfl | (simp; done))) (LkO.there n_b15_b5 (LkO.there n_b14_b5 (LkO.thereO n_b13_b5.symm (LkO.thereO n_b12_b5.symm (LkO.thereO n_b11_b5.symm (LkO.thereO n_b10_b5.symm (LkO.there n_b9_b5 (LkO.thereO n_b8_b5.symm (LkO.thereO n_b7_b5.symm (LkO.thereO n_b6_b5.symm LkO.here)))))))))) (by first | rfl | (simp; done))) (LkO.there n_b15_b6 (LkO.there n_b14_b6 (LkO.thereO n_b13_b6.symm (LkO.thereO n_b12_b6.symm (LkO.thereO n_b11_b6.symm (LkO.thereO n_b10_b6.symm (LkO.there n_b9_b6 (LkO.thereO n_b8_b6.symm (LkO.thereO n_b7_b6.symm LkO.here))))))))) (by first | rfl | (simp; done))) (LkO.there n_b15_b7 (LkO.there n_b14_b7 (LkO.thereO n_b13_b7.symm (LkO.thereO n_b12_b7.symm (LkO.thereO n_b11_b7.symm (LkO.thereO n_b10_b7.symm (LkO.there n_b9_b7 (LkO.thereO n_b8_b7.symm LkO.here)))))))) (by first | rfl | (simp; done))) (LkO.there n_b15_b8 (LkO.there n_b14_b8 (LkO.thereO n_b13_b8.symm (LkO.thereO n_b12_b8.symm (LkO.thereO n_b11_b8.symm (LkO.thereO n_b10_b8.symm (LkO.there n_b9_b8 LkO.here))))))) (by first | rfl | (simp; done))) ((upd_ne _ _ n_b15_b9.ne.symm).trans ((upd_ne _ _ n_b14_b9.ne.symm).trans ((updO_ne n_b13_b9).trans ((updO_ne n_b12_b9).trans ((updO_ne n_b11_b9).trans ((updO_ne n_b10_b9).trans (upd_same _ _ _))))))) (by first | rfl | (simp; done))) (LkO.there n_b15_b10 (LkO.there n_b14_b10 (LkO.thereO n_b13_b10.symm (LkO.thereO n_b12_b10.symm (LkO.thereO n_b11_b10.symm LkO.here))))) (by first | rfl | (simp; done))) (LkO.there n_b15_b11 (LkO.there n_b14_b11 (LkO.thereO n_b13_b11.symm (LkO.thereO n_b12_b11.symm LkO.here)))) (by first | rfl | (simp; done))) (LkO.there n_b15_b12 (LkO.there n_b14_b12 (LkO.thereO n_b13_b12.symm LkO.here))) (by first | rfl | (simp; done))) (LkO.there n_b15_b13 (LkO.there n_b14_b13 LkO.here)) (by first | rfl | (simp; done)))), ?_⟩
                refine DW.pure' 6 _ rfl (by kernel_rfl) rfl (fun _ => QO.assign rfl rfl) ?_
                refine DW.done (by kernel_rfl) ?_ _
                refine thenA_n ?_
                refine wpA_seq ?_
                refine wpA_region ?_
                refine Ops_quiet _ rfl rfl (QO.loadRow (cs := sqC r2.1) (hr := (rdAll ((upd_ne _ _ n_b15_b3.ne.symm).trans ((upd_ne _ _ n_b14_b3.ne.symm).trans ((updO_ne n_b13_b3).trans ((updO_ne n_b12_b3).trans ((updO_ne n_b11_b3).trans ((updO_ne n_b10_b3).trans ((upd_ne _ _ n_b9_b3.ne.symm).trans ((updO_ne n_b8_b3).trans ((updO_ne n_b7_b3).trans ((updO_ne n_b6_b3).trans ((updO_ne n_b5_b3).trans ((updO_ne n_b4_b3).trans (upd_same _ _ _))))))))))))))) rfl sz28 rfl rfl (sqC_length _)) ?_
                refine Ops_quiet _ rfl rfl (QO.move rfl rfl) ?_
                refine Ops_quiet _ rfl rfl (QO.move rfl rfl) ?_
                refine Ops_quiet _ rfl rfl (QO.move rfl rfl) ?_
                have hq := Option.bind_eq_some_iff.1 hm; clear hm; obtain ⟨r22, hr22, hm⟩ := hq
                refine Ops_call _ _ rfl rfl (EO.fn rfl Try.func6 rfl rfl (Evs.cons rfl (Evs.cons rfl (Evs.cons rfl (Evs.cons rfl Evs.nil))))) (CC.mono (c_impl_MultiplySums (l2 := r6.1) (A2 := adO b6) (c2 := cap_b6) (l3 := r21.1) (A3 := some ⟨b15, 0, none⟩) (c3 := cap_b15) hr22 (RdS.ownO (LkO.there n_b15_b6 (LkO.there n_b14_b6 (LkO.thereO n_b13_b6.symm (LkO.thereO n_b12_b6.symm (LkO.thereO n_b11_b6.symm (LkO.thereO n_b10_b6.symm (LkO.there n_b9_b6 (LkO.thereO n_b8_b6.symm (LkO.thereO n_b7_b6.symm LkO.here))))))))) (fun e => congrArg (fun l => ints .i64 l) (ho_b6.nilL e))) (RdS.own (upd_same _ _ _))) ?_)
                rintro _ _ ⟨b16, cap_b16, hb16, ho_b16, rfl, rfl⟩
                simp only [frO_updA, frO_updOA, frO_famHA] at hb16
                obtain ⟨n_b16_b15, n_b16_b14, n_b16_b13, n_b16_b12, n_b16_b11, n_b16_b10, n_b16_b9, n_b16_b8, n_b16_b7, n_b16_b6, n_b16_b5, n_b16_b4, n_b16_b3, n_b16_b2, n_b16_b1, hb16⟩ := hb16
                refine Ops_quiet _ rfl rfl (QO.move rfl rfl) ?_
                refine Ops_quiet _ rfl rfl (QO.extract rfl rfl rfl) ?_
                refine Ops_quiet _ rfl rfl (QO.extract rfl rfl rfl) ?_
                refine Ops_quiet _ rfl rfl (QO.assign rfl rfl) ?_
                refine Ops_quiet _ rfl rfl (QO.assign rfl rfl) ?_
                refine Ops_nil ?_
                refine thenA_n ?_
                refine wpA_weaken (show Abs.Sub _ [(2, .bool false), (3, .pointer (some ⟨b3, 0, none⟩)), (4, .int .i64 r2.2.1), (5, .slice (adO b1) r2.2.2.1.length cap_b1), (6, .slice (adO b2) r2.2.2.2.length cap_b2), (23, .int .i64 r13.1), (31, .int .i64 r18.1), (32, .int .i64 r18.2), (33, .int .i64 r19.1), (34, .int .i64 r19.2), (35, .slice (some ⟨b15, 0, none⟩) r21.1.length cap_b15), (36, .slice (adO b16) r22.1.length cap_b16), (37, .int .i64 r22.2)] from (Sub.cons rfl (Sub.cons rfl (Sub.cons rfl (Sub.cons rfl (Sub.cons rfl (Sub.cons rfl (Sub.cons rfl (Sub.cons rfl (Sub.cons rfl (Sub.cons rfl (Sub.cons rfl (Sub.cons rfl (Sub.cons rfl (Sub.nil))))))))))))))).ok (Le.refl _) ?_
                refine wpA_seq ?_
                refine wpA_region ?_
                refine Ops_quiet _ rfl rfl (QO.loadRow (cs := sqC r2.1) (hr := (rdAll ((updO_ne n_b16_b3).trans ((upd_ne _ _ n_b15_b3.ne.symm).trans ((upd_ne _ _ n_b14_b3.ne.symm).trans ((updO_ne n_b13_b3).trans ((updO_ne n_b12_b3).trans ((updO_ne n_b11_b3).trans ((updO_ne n_b10_b3).trans ((upd_ne _ _ n_b9_b3.ne.symm).trans ((updO_ne n_b8_b3).trans ((updO_ne n_b7_b3).trans ((updO_ne n_b6_b3).trans ((updO_ne n_b5_b3).trans ((updO_ne n_b4_b3).trans (upd_same _ _ _)))))))))))))))) rfl sz28 rfl rfl (sqC_length _)) ?_
                refine Ops_quiet _ rfl rfl (QO.move rfl rfl) ?_
                refine Ops_quiet _ rfl rfl (QO.move rfl rfl) ?_
                refine Ops_quiet _ rfl rfl (QO.move rfl rfl) ?_
                have hq := Option.bind_eq_some_iff.1 hm; clear hm; obtain ⟨r23, hr23, hm⟩ := hq
                refine Ops_call _ _ rfl rfl (EO.fn rfl Try.func6 rfl rfl (Evs.cons rfl (Evs.cons rfl (Evs.cons rfl (Evs.cons rfl Evs.nil))))) (CC.mono (c_impl_MultiplySums (l2 := r2.2.2.1) (A2 := adO b1) (c2 := cap_b1) (l3 := r21.1) (A3 := some ⟨b15, 0, none⟩) (c3 := cap_b15) hr23 (RdS.ownO (LkO.thereO n_b16_b1.symm (LkO.there n_b15_b1 (LkO.there n_b14_b1 (LkO.thereO n_b13_b1.symm (LkO.thereO n_b12_b1.symm (LkO.thereO n_b11_b1.symm (LkO.thereO n_b10_b1.symm (LkO.there n_b9_b1 (LkO.thereO n_b8_b1.symm (LkO.thereO n_b7_b1.symm (LkO.thereO n_b6_b1.symm (LkO.thereO n_b5_b1.symm (LkO.thereO n_b4_b1.symm (LkO.there n_b3_b1 (LkO.thereO n_b2_b1.symm LkO.here))))))))))))))) (fun e => congrArg (fun l => ints .i64 l) (ho_b1.nilL e))) (RdS.own ((updO_ne n_b16_b15).trans (upd_same _ _ _)))) ?_)
                rintro _ _ ⟨b17, cap_b17, hb17, ho_b17, rfl, rfl⟩
                simp only [frO_updA, frO_updOA, frO_famHA] at hb17
                obtain ⟨n_b17_b16, n_b17_b15, n_b17_b14, n_b17_b13, n_b17_b12, n_b17_b11, n_b17_b10, n_b17_b9, n_b17_b8, n_b17_b7, n_b17_b6, n_b17_b5, n_b17_b4, n_b17_b3, n_b17_b2, n_b17_b1, hb17⟩ := hb17
                refine Ops_quiet _ rfl rfl (QO.move rfl rfl) ?_
                refine Ops_quiet _ rfl rfl (QO.extract rfl rfl rfl) ?_
                refine Ops_quiet _ rfl rfl (QO.extract rfl rfl rfl) ?_
                refine Ops_quiet _ rfl rfl (QO.assign rfl rfl) ?_
                refine Ops_quiet _ rfl rfl (QO.assign rfl rfl) ?_
                refine Ops_nil ?_
                refine thenA_n ?_
                refine wpA_seq ?_
                refine wpA_region ?_
                refine Ops_quiet _ rfl rfl (QO.loadRow (cs := sqC r2.1) (hr := (rdAll ((updO_ne n_b17_b3).trans ((updO_ne n_b16_b3).trans ((upd_ne _ _ n_b15_b3.ne.symm).trans ((upd_ne _ _ n_b14_b3.ne.symm).trans ((updO_ne n_b13_b3).trans ((updO_ne n_b12_b3).trans ((updO_ne n_b11_b3).trans ((updO_ne n_b10_b3).trans ((upd_ne _ _ n_b9_b3.ne.symm).trans ((updO_ne n_b8_b3).trans ((updO_ne n_b7_b3).trans ((updO_ne n_b6_b3).trans ((updO_ne n_b5_b3).trans ((updO_ne n_b4_b3).trans (upd_same _ _ _))))))))))))))))) rfl sz28 rfl rfl (sqC_length _)) ?_
                refine Ops_quiet _ rfl rfl (QO.move rfl rfl) ?_
                refine Ops_quiet _ rfl rfl (QO.move rfl rfl) ?_
                refine Ops_quiet _ rfl rfl (QO.move rfl rfl) ?_
                have hq := Option.bind_eq_some_iff.1 hm; clear hm; obtain ⟨r24, hr24, hm⟩ := hq
                refine Ops_call _ _ rfl rfl (EO.fn rfl Try.func6 rfl rfl (Evs.cons rfl (Evs.cons rfl (Evs.cons rfl (Evs.cons rfl Evs.nil))))) (CC.mono (c_impl_MultiplySums (l2 := r2.2.2.2) (A2 := adO b2) (c2 := cap_b2) (l3 := r21.1) (A3 := some ⟨b15, 0, none⟩) (c3 := cap_b15) hr24 (RdS.ownO (LkO.thereO n_b17_b2.symm (LkO.thereO n_b16_b2.symm (LkO.there n_b15_b2 (LkO.there n_b14_b2 (LkO.thereO n_b13_b2.symm (LkO.thereO n_b12_b2.symm (LkO.thereO n_b11_b2.symm (LkO.thereO n_b10_b2.symm (LkO.there n_b9_b2 (LkO.thereO n_b8_b2.symm (LkO.thereO n_b7_b2.symm (LkO.thereO n_b6_b2.symm (LkO.thereO n_b5_b2.symm (LkO.thereO n_b4_b2.symm (LkO.there n_b3_b2 LkO.here))))))))))))))) (fun e => congrArg (fun l => ints .i64 l) (ho_b2.nilL e))) (RdS.own ((updO_ne n_b17_b15).trans ((updO_ne n_b16_b15).trans (upd_same _ _ _))))) ?_)
                rintro _ _ ⟨b18, cap_b18, hb18, ho_b18, rfl, rfl⟩
                simp only [frO_updA, frO_updOA, frO_famHA] at hb18
                obtain ⟨n_b18_b17, n_b18_b16, n_b18_b15, n_b18_b14, n_b18_b13, n_b18_b12, n_b18_b11, n_b18_b10, n_b18_b9, n_b18_b8, n_b18_b7, n_b18_b6, n_b18_b5, n_b18_b4, n_b18_b3, n_b18_b2, n_b18_b1, hb18⟩ := hb18
                refine Ops_quiet _ rfl rfl (QO.move rfl rfl) ?_
                refine Ops_quiet _ rfl rfl (QO.extract rfl rfl rfl) ?_
                refine Ops_quiet _ rfl rfl (QO.extract rfl rfl rfl) ?_
                refine Ops_quiet _ rfl rfl (QO.assign rfl rfl) ?_
                refine Ops_quiet _ rfl rfl (QO.assign rfl rfl) ?_
                refine Ops_nil ?_
                refine thenA_n ?_
                refine wpA_seq ?_
                refine wpA_region ?_
                refine Ops_quiet _ rfl rfl (QO.loadRow (cs := sqC r2.1) (hr := (rdAll ((updO_ne n_b18_b3).trans ((updO_ne n_b17_b3).trans ((updO_ne n_b16_b3).trans ((upd_ne _ _ n_b15_b3.ne.symm).trans ((upd_ne _ _ n_b14_b3.ne.symm).trans ((updO_ne n_b13_b3).trans ((updO_ne n_b12_b3).trans ((updO_ne n_b11_b3).trans ((updO_ne n_b10_b3).trans ((upd_ne _ _ n_b9_b3.ne.symm).trans ((updO_ne n_b8_b3).trans ((updO_ne n_b7_b3).trans ((updO_ne n_b6_b3).trans ((updO_ne n_b5_b3).trans ((updO_ne n_b4_b3).trans (upd_same _ _ _)))))))))))))))))) rfl sz28 rfl rfl (sqC_length _)) ?_
                refine Ops_quiet _ rfl rfl (QO.move rfl rfl) ?_
                refine Ops_quiet _ rfl rfl (QO.move rfl rfl) ?_
                refine Ops_quiet _ rfl rfl (QO.move rfl rfl) ?_
                have hq := Option.bind_eq_some_iff.1 hm; clear hm; obtain ⟨r25, hr25, hm⟩ := hq
                refine Ops_call _ _ rfl rfl (EO.fn rfl Try.func9 rfl rfl (Evs.cons rfl (Evs.cons rfl (Evs.cons rfl (Evs.cons rfl Evs.nil))))) (CC.mono (c_impl_AddSums (l2 := r23.1) (A2 := adO b17) (c2 := cap_b17) (l3 := r24.1) (A3 := adO b18) (c3 := cap_b18) hr25 (RdS.ownO (LkO.thereO n_b18_b17.symm LkO.here) (fun e => congrArg (fun l => ints .i64 l) (ho_b17.nilL e))) (RdS.ownO LkO.here (fun e => congrArg (fun l => ints .i64 l) (ho_b18.nilL e)))) ?_)
                rintro _ _ ⟨b19, cap_b19, hb19, ho_b19, rfl, rfl⟩
                simp only [frO_updA, frO_updOA, frO_famHA] at hb19
                obtain ⟨n_b19_b18, n_b19_b17, n_b19_b16, n_b19_b15, n_b19_b14, n_b19_b13, n_b19_b12, n_b19_b11, n_b19_b10, n_b19_b9, n_b19_b8, n_b19_b7, n_b19_b6, n_b19_b5, n_b19_b4, n_b19_b3, n_b19_b2, n_b19_b1, hb19⟩ := hb19
                refine Ops_quiet _ rfl rfl (QO.move rfl rfl) ?_
                refine Ops_quiet _ rfl rfl (QO.extract rfl rfl rfl) ?_
                refine Ops_quiet _ rfl rfl (QO.extract rfl rfl rfl) ?_
                refine Ops_quiet _ rfl rfl (QO.assign rfl rfl) ?_
                refine Ops_quiet _ rfl rfl (QO.assign rfl rfl) ?_
                refine Ops_nil ?_
                refine thenA_n ?_
                refine wpA_seq ?_
                refine wpA_region ?_
                refine Ops_quiet _ rfl rfl (QO.move rfl rfl) ?_
                refine Ops_quiet _ rfl rfl (QO.bin rfl rfl rfl rfl) ?_
                refine Ops_quiet _ rfl rfl (QO.move rfl rfl) ?_
                refine Ops_case 251 rfl (fun g16 => ?_) (fun g16 => ?_)
                ·replace hm := cond_t hm g16
                 refine Ops_quiet _ rfl rfl (QO.move rfl rfl) ?_
                 refine Ops_quiet _ rfl rfl (QO.bin rfl rfl rfl rfl) ?_
                 refine Ops_quiet _ rfl rfl (QO.pick_t rfl rfl rfl) ?_
                 refine Ops_quiet _ rfl rfl (QO.move rfl rfl) ?_
                 refine Ops_case 255 rfl (fun g17 => ?_) (fun g17 => ?_)
                 ·replace hm := cond_t hm g17
                  refine Ops_quiet _ rfl rfl (QO.move rfl rfl) ?_
                  refine Ops_quiet _ rfl rfl (QO.move rfl rfl) ?_
                  refine Ops_quiet _ rfl rfl (QO.move rfl rfl) ?_
                  refine Ops_quiet _ rfl rfl (QO.bin rfl rfl rfl rfl) ?_
                  refine Ops_quiet _ rfl rfl (QO.move rfl rfl) ?_
                  have hq := chk hm; clear hm; obtain ⟨ck1, hm⟩ := hq
                  refine Ops_quiet _ rfl rfl (QO.rem rfl rfl rfl (by first | assumption | omega)) ?_
                  refine Ops_quiet _ rfl rfl (QO.bin rfl rfl rfl rfl) ?_
                  refine Ops_quiet _ rfl rfl (QO.pick_t rfl rfl rfl) ?_
                  refine Ops_quiet _ rfl rfl (QO.move rfl rfl) ?_
                  refine Ops_case 264 rfl (fun g18 => ?_) (fun g18 => ?_)
                  ·replace hm := cond_t hm g18
                   refine Ops_quiet _ rfl rfl (QO.move rfl rfl) ?_
                   refine Ops_quiet _ rfl rfl (QO.bin rfl rfl rfl rfl) ?_
                   refine Ops_quiet _ rfl rfl (QO.pick_t rfl rfl rfl) ?_
                   refine Ops_quiet _ rfl rfl (QO.move rfl rfl) ?_
                   refine Ops_case 268 rfl (fun g19 => ?_) (fun g19 => ?_)
                   ·replace hm := cond_t hm g19
                    refine Ops_quiet _ rfl rfl (QO.move rfl rfl) ?_
                    refine Ops_quiet _ rfl rfl (QO.bin rfl rfl rfl rfl) ?_
                    refine Ops_quiet _ rfl rfl (QO.pick_t rfl rfl rfl) ?_
                    refine Ops_quiet _ rfl rfl (QO.move rfl rfl) ?_
                    refine Ops_case 272 rfl (fun g20 => ?_) (fun g20 => ?_)
                    ·replace hm := cond_t hm g20
                     refine Ops_quiet _ rfl rfl (QO.move rfl rfl) ?_
                     refine Ops_quiet _ rfl rfl (QO.bin rfl rfl rfl rfl) ?_
                     refine Ops_quiet _ rfl rfl (QO.pick_t rfl rfl rfl) ?_
                     refine Ops_quiet _ rfl rfl (QO.move rfl rfl) ?_
                     refine Ops_case 276 rfl (fun g21 => ?_) (fun g21 => ?_)
                     ·replace hm := cond_t hm g21
                      refine Ops_quiet _ rfl rfl (QO.move rfl rfl) ?_
                      refine Ops_quiet _ rfl rfl (QO.bin rfl rfl rfl rfl) ?_
                      refine Ops_quiet _ rfl rfl (QO.pick_t rfl rfl rfl) ?_
                      refine Ops_quiet _ rfl rfl (QO.move rfl rfl) ?_
                      refine Ops_case 280 rfl (fun g22 => ?_) (fun g22 => ?_)
                      ·replace hm := cond_t hm g22
                       refine Ops_quiet _ rfl rfl (QO.move rfl rfl) ?_
                       refine Ops_quiet _ rfl rfl (QO.move rfl rfl) ?_
                       have hq := Option.bind_eq_some_iff.1 hm; clear hm; obtain ⟨r26, hr26, hm⟩ := hq
                       refine Ops_call _ _ rfl rfl (EO.fn rfl Try.func8 rfl rfl (Evs.cons rfl (Evs.cons rfl Evs.nil))) (QC.cc (c_laws_likeInts (l0 := r22.1) (A0 := adO b16) (c0 := cap_b16) (l1 := r25.1) (A1 := adO b19) (c1 := cap_b19) hr26 (RdS.ownO (LkO.thereO n_b19_b16.symm (LkO.thereO n_b18_b16.symm (LkO.thereO n_b17_b16.symm LkO.here))) (fun e => congrArg (fun l => ints .i64 l) (ho_b16.nilL e))) (RdS.ownO LkO.here (fun e => congrArg (fun l => ints .i64 l) (ho_b19.nilL e)))) ?_)
                       refine Ops_quiet _ rfl rfl (QO.pick_t rfl rfl rfl) ?_
                       refine Ops_quiet _ rfl rfl (QO.assign rfl rfl) ?_
                       refine Ops_nil ?_
                       refine thenA_n ?_
                       refine wpA_ret ?_
                       obtain rfl := Option.some.inj hm
                       exact retA_r (h2 := h) (Res.one rfl (rfl)) (Le.underO (Le.underO (Le.underO (Le.underO (Le.under (Le.under (Le.underO (Le.underO (Le.underO (Le.underO (Le.under (Le.underO (Le.underO (Le.underO (Le.underO (Le.underO (Le.under (Le.underO (Le.underO (Le.refl _) hb1) hb2) hb3) hb4) hb5) hb6) hb7) hb8) hb9) hb10) hb11) hb12) hb13) hb14) hb15) hb16) hb17) hb18) hb19) ⟨rfl, rfl⟩
                      ·replace hm := cond_f hm g22
                       refine Ops_skip rfl rfl ?_
                       refine Ops_skip rfl rfl ?_
                       refine Ops_skip rfl rfl ?_
                       refine Ops_quiet _ rfl rfl (QO.pick_f rfl rfl rfl) ?_
                       refine Ops_quiet _ rfl rfl (QO.assign rfl rfl) ?_
                       refine Ops_nil ?_
                       refine thenA_n ?_
                       refine wpA_ret ?_
                       obtain rfl := Option.some.inj hm
                       exact retA_r (h2 := h) (Res.one rfl (rfl)) (Le.underO (Le.underO (Le.underO (Le.underO (Le.under (Le.under (Le.underO (Le.underO (Le.underO (Le.underO (Le.under (Le.underO (Le.underO (Le.underO (Le.underO (Le.underO (Le.under (Le.underO (Le.underO (Le.refl _) hb1) hb2) hb3) hb4) hb5) hb6) hb7) hb8) hb9) hb10) hb11) hb12) hb13) hb14) hb15) hb16) hb17) hb18) hb19) ⟨rfl, rfl⟩
                     ·replace hm := cond_f hm g21
                      refine Ops_skip rfl rfl ?_
                      refine Ops_skip rfl rfl ?_
                      refine Ops_quiet _ rfl rfl (QO.pick_f rfl rfl rfl) ?_
                      refine Ops_quiet _ rfl rfl (QO.move rfl rfl) ?_
                      refine Ops_skip rfl rfl ?_
                      refine Ops_skip rfl rfl ?_
                      refine Ops_skip rfl rfl ?_
                      refine Ops_quiet _ rfl rfl (QO.pick_f rfl rfl rfl) ?_
                      refine Ops_quiet _ rfl rfl (QO.assign rfl rfl) ?_
                      refine Ops_nil ?_
                      refine thenA_n ?_
                      refine wpA_ret ?_
                      obtain rfl := Option.some.inj hm
                      exact retA_r (h2 := h) (Res.one rfl (rfl)) (Le.underO (Le.underO (Le.underO (Le.underO (Le.under (Le.under (Le.underO (Le.underO (Le.underO (Le.underO (Le.under (Le.underO (Le.underO (Le.underO (Le.underO (Le.underO (Le.under (Le.underO (Le.underO (Le.refl _) hb1) hb2) hb3) hb4) hb5) hb6) hb7) hb8) hb9) hb10) hb11) hb12) hb13) hb14) hb15) hb16) hb17) hb18) hb19) ⟨rfl, rfl⟩
                    ·replace hm := cond_f hm g20
                     refine Ops_skip rfl rfl ?_
                     refine Ops_skip rfl rfl ?_
                     refine Ops_quiet _ rfl rfl (QO.pick_f rfl rfl rfl) ?_
                     refine Ops_quiet _ rfl rfl (QO.move rfl rfl) ?_
                     refine Ops_skip rfl rfl ?_
                     refine Ops_skip rfl rfl ?_
                     refine Ops_quiet _ rfl rfl (QO.pick_f rfl rfl rfl) ?_
                     refine Ops_quiet _ rfl rfl (QO.move rfl rfl) ?_
                     refine Ops_skip rfl rfl ?_
                     refine Ops_skip rfl rfl ?_
                     refine Ops_skip rfl rfl ?_
                     refine Ops_quiet _ rfl rfl (QO.pick_f rfl rfl rfl) ?_
                     refine Ops_quiet _ rfl rfl (QO.assign rfl rfl) ?_
                     refine Ops_nil ?_
                     refine thenA_n ?_
                     refine wpA_ret ?_
                     obtain rfl := Option.some.inj hm
                     exact retA_r (h2 := h) (Res.one rfl (rfl)) (Le.underO (Le.underO (Le.underO (Le.underO (Le.under (Le.under (Le.underO (Le.underO (Le.underO (Le.underO (Le.under (Le.underO (Le.underO (Le.underO (Le.underO (Le.underO (Le.under (Le.underO (Le.underO (Le.refl _) hb1) hb2) hb3) hb4) hb5) hb6) hb7) hb8) hb9) hb10) hb11) hb12) hb13) hb14) hb15) hb16) hb17) hb18) hb19) ⟨rfl, rfl⟩
                   ·replace hm := cond_f hm g19
                    refine Ops_skip rfl rfl ?_
                    refine Ops_skip rfl rfl ?_
                    refine Ops_quiet _ rfl rfl (QO.pick_f rfl rfl rfl) ?_
                    refine Ops_quiet _ rfl rfl (QO.move rfl rfl) ?_
                    refine Ops_skip rfl rfl ?_
                    refine Ops_skip rfl rfl ?_
                    refine Ops_quiet _ rfl rfl (QO.pick_f rfl rfl rfl) ?_
                    refine Ops_quiet _ rfl rfl (QO.move rfl rfl) ?_
                    refine Ops_skip rfl rfl ?_
                    refine Ops_skip rfl rfl ?_
                    refine Ops_quiet _ rfl rfl (QO.pick_f rfl rfl rfl) ?_
                    refine Ops_quiet _ rfl rfl (QO.move rfl rfl) ?_
                    refine Ops_skip rfl rfl ?_
                    refine Ops_skip rfl rfl ?_
                    refine Ops_skip rfl rfl ?_
                    refine Ops_quiet _ rfl rfl (QO.pick_f rfl rfl rfl) ?_
                    refine Ops_quiet _ rfl rfl (QO.assign rfl rfl) ?_
                    refine Ops_nil ?_
                    refine thenA_n ?_
                    refine wpA_ret ?_
                    obtain rfl := Option.some.inj hm
                    exact retA_r (h2 := h) (Res.one rfl (rfl)) (Le.underO (Le.underO (Le.underO (Le.underO (Le.under (Le.under (Le.underO (Le.underO (Le.underO (Le.underO (Le.under (Le.underO (Le.underO (Le.underO (Le.underO (Le.underO (Le.under (Le.underO (Le.underO (Le.refl _) hb1) hb2) hb3) hb4) hb5) hb6) hb7) hb8) hb9) hb10) hb11) hb12) hb13) hb14) hb15) hb16) hb17) hb18) hb19) ⟨rfl, rfl⟩
                  ·replace hm := cond_f hm g18
                   refine Ops_skip rfl rfl ?_
                   refine Ops_skip rfl rfl ?_
                   refine Ops_quiet _ rfl rfl (QO.pick_f rfl rfl rfl) ?_
                   refine Ops_quiet _ rfl rfl (QO.move rfl rfl) ?_
                   refine Ops_skip rfl rfl ?_
                   refine Ops_skip rfl rfl ?_
                   refine Ops_quiet _ rfl rfl (QO.pick_f rfl rfl rfl) ?_
                   refine Ops_quiet _ rfl rfl (QO.move rfl rfl) ?_
                   refine Ops_skip rfl rfl ?_
                   refine Ops_skip rfl rfl ?_
                   refine Ops_quiet _ rfl rfl (QO.pick_f rfl rfl rfl) ?_
                   refine Ops_quiet _ rfl rfl (QO.move rfl rfl) ?_
                   refine Ops_skip rfl rfl ?_
                   refine Ops_skip rfl rfl ?_
                   refine Ops_quiet _ rfl rfl (QO.pick_f rfl rfl rfl) ?_
                   refine Ops_quiet _ rfl rfl (QO.move rfl rfl) ?_
                   refine Ops_skip rfl rfl ?_
                   refine Ops_skip rfl rfl ?_
                   refine Ops_skip rfl rfl ?_
                   refine Ops_quiet _ rfl rfl (QO.pick_f rfl rfl rfl) ?_
                   refine Ops_quiet _ rfl rfl (QO.assign rfl rfl) ?_
                   refine Ops_nil ?_
                   refine thenA_n ?_
                   refine wpA_ret ?_
                   obtain rfl := Option.some.inj hm
                   exact retA_r (h2 := h) (Res.one rfl (rfl)) (Le.underO (Le.underO (Le.underO (Le.underO (Le.under (Le.under (Le.underO (Le.underO (Le.underO (Le.underO (Le.under (Le.underO (Le.underO (Le.underO (Le.underO (Le.underO (Le.under (Le.underO (Le.underO (Le.refl _) hb1) hb2) hb3) hb4) hb5) hb6) hb7) hb8) hb9) hb10) hb11) hb12) hb13) hb14) hb15) hb16) hb17) hb18) hb19) ⟨rfl, rfl⟩
                 ·replace hm := cond_f hm g17
                  refine Ops_skip rfl rfl ?_
                  refine Ops_skip rfl rfl ?_
                  refine Ops_skip rfl rfl ?_
                  refine Ops_skip rfl rfl ?_
                  refine Ops_skip rfl rfl ?_
                  refine Ops_skip rfl rfl ?_
                  refine Ops_skip rfl rfl ?_
                  refine Ops_quiet _ rfl rfl (QO.pick_f rfl rfl rfl) ?_
                  refine Ops_quiet _ rfl rfl (QO.move rfl rfl) ?_
                  refine Ops_skip rfl rfl ?_
                  refine Ops_skip rfl rfl ?_
                  refine Ops_quiet _ rfl rfl (QO.pick_f rfl rfl rfl) ?_
                  refine Ops_quiet _ rfl rfl (QO.move rfl rfl) ?_
                  refine Ops_skip rfl rfl ?_
                  refine Ops_skip rfl rfl ?_
                  refine Ops_quiet _ rfl rfl (QO.pick_f rfl rfl rfl) ?_
                  refine Ops_quiet _ rfl rfl (QO.move rfl rfl) ?_
                  refine Ops_skip rfl rfl ?_
                  refine Ops_skip rfl rfl ?_
                  refine Ops_quiet _ rfl rfl (QO.pick_f rfl rfl rfl) ?_
                  refine Ops_quiet _ rfl rfl (QO.move rfl rfl) ?_
                  refine Ops_skip rfl rfl ?_
                  refine Ops_skip rfl rfl ?_
                  refine Ops_quiet _ rfl rfl (QO.pick_f rfl rfl rfl) ?_
                  refine Ops_quiet _ rfl rfl (QO.move rfl rfl) ?_
                  refine Ops_skip rfl rfl ?_
                  refine Ops_skip rfl rfl ?_
                  refine Ops_skip rfl rfl ?_
                  refine Ops_quiet _ rfl rfl (QO.pick_f rfl rfl rfl) ?_
                  refine Ops_quiet _ rfl rfl (QO.assign rfl rfl) ?_
                  refine Ops_nil ?_
                  refine thenA_n ?_
                  refine wpA_ret ?_
                  obtain rfl := Option.some.inj hm
                  exact retA_r (h2 := h) (Res.one rfl (rfl)) (Le.underO (Le.underO (Le.underO (Le.underO (Le.under (Le.under (Le.underO (Le.underO (Le.underO (Le.underO (Le.under (Le.underO (Le.underO (Le.underO (Le.underO (Le.underO (Le.under (Le.underO (Le.underO (Le.refl _) hb1) hb2) hb3) hb4) hb5) hb6) hb7) hb8) hb9) hb10) hb11) hb12) hb13) hb14) hb15) hb16) hb17) hb18) hb19) ⟨rfl, rfl⟩
                ·replace hm := cond_f hm g16
                 refine Ops_skip rfl rfl ?_
                 refine Ops_skip rfl rfl ?_
                 refine Ops_quiet _ rfl rfl (QO.pick_f rfl rfl rfl) ?_
                 refine Ops_quiet _ rfl rfl (QO.move rfl rfl) ?_
                 refine Ops_skip rfl rfl ?_
                 refine Ops_skip rfl rfl ?_
                 refine Ops_skip rfl rfl ?_
                 refine Ops_skip rfl rfl ?_
                 refine Ops_skip rfl rfl ?_
                 refine Ops_skip rfl rfl ?_
                 refine Ops_skip rfl rfl ?_
                 refine Ops_quiet _ rfl rfl (QO.pick_f rfl rfl rfl) ?_
                 refine Ops_quiet _ rfl rfl (QO.move rfl rfl) ?_
                 refine Ops_skip rfl rfl ?_
                 refine Ops_skip rfl rfl ?_
                 refine Ops_quiet _ rfl rfl (QO.pick_f rfl rfl rfl) ?_
                 refine Ops_quiet _ rfl rfl (QO.move rfl rfl) ?_
                 refine Ops_skip rfl rfl ?_
                 refine Ops_skip rfl rfl ?_
                 refine Ops_quiet _ rfl rfl (QO.pick_f rfl rfl rfl) ?_
                 refine Ops_quiet _ rfl rfl (QO.move rfl rfl) ?_
                 refine Ops_skip rfl rfl ?_
                 refine Ops_skip rfl rfl ?_
                 refine Ops_quiet _ rfl rfl (QO.pick_f rfl rfl rfl) ?_
                 refine Ops_quiet _ rfl rfl (QO.move rfl rfl) ?_
                 refine Ops_skip rfl rfl ?_
                 refine Ops_skip rfl rfl ?_
                 refine Ops_quiet _ rfl rfl (QO.pick_f rfl rfl rfl) ?_
                 refine Ops_quiet _ rfl rfl (QO.move rfl rfl) ?_
                 refine Ops_skip rfl rfl ?_
                 refine Ops_skip rfl rfl ?_
                 refine Ops_skip rfl rfl ?_
                 refine Ops_quiet _ rfl rfl (QO.pick_f rfl rfl rfl) ?_
                 refine Ops_quiet _ rfl rfl (QO.assign rfl rfl) ?_
                 refine Ops_nil ?_
                 refine thenA_n ?_
                 refine wpA_ret ?_
                 obtain rfl := Option.some.inj hm
                 exact retA_r (h2 := h) (Res.one rfl (rfl)) (Le.underO (Le.underO (Le.underO (Le.underO (Le.under (Le.under (Le.underO (Le.underO (Le.underO (Le.underO (Le.under (Le.underO (Le.underO (Le.underO (Le.underO (Le.underO (Le.under (Le.underO (Le.underO (Le.refl _) hb1) hb2) hb3) hb4) hb5) hb6) hb7) hb8) hb9) hb10) hb11) hb12) hb13) hb14) hb15) hb16) hb17) hb18) hb19) ⟨rfl, rfl⟩
           ·replace hm := cond_f hm g11
            refine wpA_skip ?_
            refine thenA_n ?_
            refine wpA_seq ?_
            refine wpA_seq ?_
            refine wpA_region ?_
            refine Ops_quiet _ rfl rfl (QO.move rfl rfl) ?_
            refine Ops_quiet _ rfl rfl (QO.bin rfl rfl rfl rfl) ?_
            refine Ops_nil ?_
            refine thenA_n ?_
            refine wpA_cond rfl (fun g23 => ?_) (fun g23 => ?_)
            ·replace hm := cond_t hm g23
             refine wpA_seq ?_
             refine wpA_region ?_
             refine Ops_quiet _ rfl rfl (QO.move rfl rfl) ?_
             refine Ops_quiet _ rfl rfl (QO.lenSl rfl sz29 rfl) ?_
             refine Ops_quiet _ rfl rfl (QO.bin rfl rfl rfl rfl) ?_
             refine Ops_quiet _ rfl rfl (QO.assign rfl rfl) ?_
             refine Ops_nil ?_
             refine thenA_n ?_
             refine wpA_ret ?_
             refine thenA_r ?_
             obtain rfl := Option.some.inj hm
             exact retA_r (h2 := h) (Res.one rfl (rfl)) (Le.underO (Le.underO (Le.under (Le.underO (Le.underO (Le.underO (Le.underO (Le.underO (Le.under (Le.underO (Le.underO (Le.refl _) hb1) hb2) hb3) hb4) hb5) hb6) hb7) hb8) hb9) hb10) hb11) ⟨rfl, rfl⟩
            ·replace hm := cond_f hm g23
             refine wpA_skip ?_
             refine thenA_n ?_
             refine wpA_seq ?_
             refine wpA_region ?_
             refine Ops_quiet _ rfl rfl (QO.loadRow (cs := sqC r2.1) (hr := (rdAll ((updO_ne n_b11_b3).trans ((updO_ne n_b10_b3).trans ((upd_ne _ _ n_b9_b3.ne.symm).trans ((updO_ne n_b8_b3).trans ((updO_ne n_b7_b3).trans ((updO_ne n_b6_b3).trans ((updO_ne n_b5_b3).trans ((updO_ne n_b4_b3).trans (upd_same _ _ _))))))))))) rfl sz28 rfl rfl (sqC_length _)) ?_
             refine Ops_quiet _ rfl rfl (QO.move rfl rfl) ?_
             refine Ops_quiet _ rfl rfl (QO.move rfl rfl) ?_
             have hq := Option.bind_eq_some_iff.1 hm; clear hm; obtain ⟨r27, hr27, hm⟩ := hq
             refine Ops_call _ _ rfl rfl (EO.fn rfl Try.func14 rfl rfl (Evs.cons rfl (Evs.cons rfl (Evs.cons rfl Evs.nil)))) (QC.cc (c_impl_AugmentationOf (l2 := r2.2.2.2) (A2 := adO b2) (c2 := cap_b2) hr27 (RdS.ownO (LkO.thereO n_b11_b2.symm (LkO.thereO n_b10_b2.symm (LkO.there n_b9_b2 (LkO.thereO n_b8_b2.symm (LkO.thereO n_b7_b2.symm (LkO.thereO n_b6_b2.symm (LkO.thereO n_b5_b2.symm (LkO.thereO n_b4_b2.symm (LkO.there n_b3_b2 LkO.here))))))))) (fun e => congrArg (fun l => ints .i64 l) (ho_b2.nilL e)))) ?_)
             refine Ops_quiet _ rfl rfl (QO.move rfl rfl) ?_
             refine Ops_quiet _ rfl rfl (QO.extract rfl rfl rfl) ?_
             refine Ops_quiet _ rfl rfl (QO.extract rfl rfl rfl) ?_
             refine Ops_quiet _ rfl rfl (QO.assign rfl rfl) ?_
             refine Ops_quiet _ rfl rfl (QO.assign rfl rfl) ?_
             refine Ops_nil ?_
             refine thenA_n ?_
             refine wpA_seq ?_
             refine wpA_region ?_
             refine Ops_quiet _ rfl rfl (QO.loadRow (cs := sqC r2.1) (hr := (rdAll ((updO_ne n_b11_b3).trans ((updO_ne n_b10_b3).trans ((upd_ne _ _ n_b9_b3.ne.symm).trans ((updO_ne n_b8_b3).trans ((updO_ne n_b7_b3).trans ((updO_ne n_b6_b3).trans ((updO_ne n_b5_b3).trans ((updO_ne n_b4_b3).trans (upd_same _ _ _))))))))))) rfl sz28 rfl rfl (sqC_length _)) ?_
             refine Ops_quiet _ rfl rfl (QO.move rfl rfl) ?_
             refine Ops_quiet _ rfl rfl (QO.move rfl rfl) ?_
             have hq := Option.bind_eq_some_iff.1 hm; clear hm; obtain ⟨r28, hr28, hm⟩ := hq
             refine Ops_call _ _ rfl rfl (EO.fn rfl Try.func14 rfl rfl (Evs.cons rfl (Evs.cons rfl (Evs.cons rfl Evs.nil)))) (QC.cc (c_impl_AugmentationOf (l2 := r3.1) (A2 := adO b4) (c2 := cap_b4) hr28 (RdS.ownO (LkO.thereO n_b11_b4.symm (LkO.thereO n_b10_b4.symm (LkO.there n_b9_b4 (LkO.thereO n_b8_b4.symm (LkO.thereO n_b7_b4.symm (LkO.thereO n_b6_b4.symm (LkO.thereO n_b5_b4.symm LkO.here))))))) (fun e => congrArg (fun l => ints .i64 l) (ho_b4.nilL e)))) ?_)
             refine Ops_quiet _ rfl rfl (QO.move rfl rfl) ?_
             refine Ops_quiet _ rfl rfl (QO.extract rfl rfl rfl) ?_
             refine Ops_quiet _ rfl rfl (QO.extract rfl rfl rfl) ?_
             refine Ops_quiet _ rfl rfl (QO.assign rfl rfl) ?_
             refine Ops_quiet _ rfl rfl (QO.assign rfl rfl) ?_
             refine Ops_nil ?_
             refine thenA_n ?_
             refine wpA_weaken (show Abs.Sub _ [(0, .slice A0 l0.length c0), (2, .bool false), (3, .pointer (some ⟨b3, 0, none⟩)), (4, .int .i64 r2.2.1), (5, .slice (adO b1) r2.2.2.1.length cap_b1), (6, .slice (adO b2) r2.2.2.2.length cap_b2), (11, .slice (adO b6) r6.1.length cap_b6), (23, .int .i64 r13.1), (31, .int .i64 r27.1), (32, .int .i64 r27.2), (33, .int .i64 r28.1), (34, .int .i64 r28.2)] from (Sub.cons rfl (Sub.cons rfl (Sub.cons rfl (Sub.cons rfl (Sub.cons rfl (Sub.cons rfl (Sub.cons rfl (Sub.cons rfl (Sub.cons rfl (Sub.cons rfl (Sub.cons rfl (Sub.cons rfl (Sub.nil)))))))))))))).ok (Le.refl _) ?_
             refine wpA_seq ?_
             refine wpA_any (updO (updO (upd (updO (updO (updO (updO (updO (upd (updO (updO (h) b1 (.own 2 (ints .i64 r2.2.2.1) (cap_b1 * 1))) b2 (.own 2 (ints .i64 r2.2.2.2) (cap_b2 * 1))) b3 (.own 28 (sqC r2.1) 101)) b4 (.own 2 (ints .i64 r3.1) (cap_b4 * 1))) b5 (.own 2 (ints .i64 r4.1) (cap_b5 * 1))) b6 (.own 2 (ints .i64 r6.1) (cap_b6 * 1))) b7 (.own 2 (ints .i64 r7.1) (cap_b7 * 1))) b8 (.own 2 (ints .i64 r9.2.2.1) (cap_b8 * 1))) b9 (.own 28 (sqC r9.1) 101)) b10 (.own 2 (ints .i64 r10.1) (cap_b10 * 1))) b11 (.own 2 (ints .i64 r11.1) (cap_b11 * 1))) [1, 5] [] (by kernel_rfl) (by kernel_rfl) (DW.start ?_)
             refine DW.pure' 0 _ rfl (by kernel_rfl) rfl (fun _ => QO.move rfl rfl) ?_
             refine DW.pure' 2 _ rfl (by kernel_rfl) rfl (fun _ => QO.fieldAt (fo := 0) rfl sz28 rfl rfl sz2 rfl rfl) ?_
             refine DW.readK' 3 _ rfl (by kernel_rfl) rfl (Le.upd_leftO (Le.upd_leftO (Le.upd_left (Le.upd_leftO (Le.upd_leftO (Le.upd_leftO (Le.upd_leftO (Le.upd_leftO (Le.upd_left (Le.upd_leftO (Le.upd_leftO (Le.underO (Le.underO (Le.under (Le.underO (Le.underO (Le.underO (Le.underO (Le.underO (Le.under (Le.underO (Le.underO (Le.refl _) hb1) hb2) hb3) hb4) hb5) hb6) hb7) hb8) hb9) hb10) hb11) (LkO.thereO n_b11_b1.symm (LkO.thereO n_b10_b1.symm (LkO.there n_b9_b1 (LkO.thereO n_b8_b1.symm (LkO.thereO n_b7_b1.symm (LkO.thereO n_b6_b1.symm (LkO.thereO n_b5_b1.symm (LkO.thereO n_b4_b1.symm (LkO.there n_b3_b1 (LkO.thereO n_b2_b1.symm LkO.here)))))))))) (by first | rfl | (simp; done))) (LkO.thereO n_b11_b2.symm (LkO.thereO n_b10_b2.symm (LkO.there n_b9_b2 (LkO.thereO n_b8_b2.symm (LkO.thereO n_b7_b2.symm (LkO.thereO n_b6_b2.symm (LkO.thereO n_b5_b2.symm (LkO.thereO n_b4_b2.symm (LkO.there n_b3_b2 LkO.here))))))))) (by first | rfl | (simp; done))) ((updO_ne n_b11_b3).trans ((updO_ne n_b10_b3).trans ((upd_ne _ _ n_b9_b3.ne.symm).trans ((updO_ne n_b8_b3).trans ((updO_ne n_b7_b3).trans ((updO_ne n_b6_b3).trans ((updO_ne n_b5_b3).trans ((updO_ne n_b4_b3).trans (upd_same _ _ _))))))))) (by first | rfl | (simp; done))) (LkO.thereO n_b11_b4.symm (LkO.thereO n_b10_b4.symm (LkO.there n_b9_b4 (LkO.thereO n_b8_b4.symm (LkO.thereO n_b7_b4.symm (LkO.thereO n_b6_b4.symm (LkO.thereO n_b5_b4.symm LkO.here))))))) (by first | rfl | (simp; done))) (LkO.thereO n_b11_b5.symm (LkO.thereO n_b10_b5.symm (LkO.there n_b9_b5 (LkO.thereO n_b8_b5.symm (LkO.thereO n_b7_b5.symm (LkO.thereO n_b6_b5.symm LkO.here)))))) (by first | rfl | (simp; done))) (LkO.thereO n_b11_b6.symm (LkO.thereO n_b10_b6.symm (LkO.there n_b9_b6 (LkO.thereO n_b8_b6.symm (LkO.thereO n_b7_b6.symm LkO.here))))) (by first | rfl | (simp; done))) (LkO.thereO n_b11_b7.symm (LkO.thereO n_b10_b7.symm (LkO.there n_b9_b7 (LkO.thereO n_b8_b7.symm LkO.here)))) (by first | rfl | (simp; done))) (LkO.thereO n_b11_b8.symm (LkO.thereO n_b10_b8.symm (LkO.there n_b9_b8 LkO.here))) (by first | rfl | (simp; done))) ((updO_ne n_b11_b9).trans ((updO_ne n_b10_b9).trans (upd_same _ _ _))) (by first | rfl | (simp; done))) (LkO.thereO n_b11_b10.symm LkO.here) (by first | rfl | (simp; done))) LkO.here (by first | rfl | (simp; done))) (QO.load rfl sz2 rfl rfl (by (refine (rd_own ((updO_ne n_b11_b3).trans ((updO_ne n_b10_b3).trans ((upd_ne _ _ n_b9_b3.ne.symm).trans ((updO_ne n_b8_b3).trans ((updO_ne n_b7_b3).trans ((updO_ne n_b6_b3).trans ((updO_ne n_b5_b3).trans ((updO_ne n_b4_b3).trans (upd_same _ _ _))))))))) _).trans ?_); exact rfl)) ?_
             refine DW.pure' 4 _ rfl (by kernel_rfl) rfl (fun _ => QO.move rfl rfl) ?_
             have hq := Option.bind_eq_some_iff.1 hm; clear hm; obtain ⟨r29, hr29, hm⟩ := hq
             refine DW.call 1 _ _ rfl (by kernel_rfl) rfl rfl (EO.fn rfl Try.func17 rfl rfl (Evs.cons rfl (Evs.cons rfl Evs.nil))) (CC.mono (c_laws_roll (l0 := l0) (A0 := A0) (c0 := c0) hr29 (RdS.le hs0 (Le.underO (Le.underO (Le.under (Le.underO (Le.underO (Le.underO (Le.underO (Le.underO (Le.under (Le.underO (Le.underO (Le.refl _) hb1) hb2) hb3) hb4) hb5) hb6) hb7) hb8) hb9) hb10) hb11))) ?_)
             rintro _ _ ⟨b20, hb20, rfl, rfl⟩
             simp only [upd_noneA, updO_noneA, famH_noneA] at hb20
             obtain ⟨n_b20_b11, n_b20_b10, n_b20_b9, n_b20_b8, n_b20_b7, n_b20_b6, n_b20_b5, n_b20_b4, n_b20_b3, n_b20_b2, n_b20_b1, hb20⟩ := hb20
             refine ⟨(fun _ => (Le.upd_leftO (Le.upd_leftO (Le.upd_left (Le.upd_leftO (Le.upd_leftO (Le.upd_leftO (Le.upd_leftO (Le.upd_leftO (Le.upd_left (Le.upd_leftO (Le.upd_leftO (Le.under (Le.underO (Le.underO (Le.under (Le.underO (Le.underO (Le.underO (Le.underO (Le.underO (Le.under (Le.underO (Le.underO (Le.refl _) hb1) hb2) hb3) hb4) hb5) hb6) hb7) hb8) hb9) hb10) hb11) hb20) (LkO.there n_b20_b1 (LkO.thereO n_b11_b1.symm (LkO.thereO n_b10_b1.symm (LkO.there n_b9_b1 (LkO.thereO n_b8_b1.symm (LkO.thereO n_b7_b1.symm (LkO.thereO n_b6_b1.symm (LkO.thereO n_b5_b1.symm (LkO.thereO n_b4_b1.symm (LkO.there n_b3_b1 (LkO.thereO n_b2_b1.symm LkO.here))))))))))) (by first | rfl | (simp; done))) (LkO.there n_b20_b2 (LkO.thereO n_b11_b2.symm (LkO.thereO n_b10_b2.symm (LkO.there n_b9_b2 (LkO.thereO n_b8_b2.symm (LkO.thereO n_b7_b2.symm (LkO.thereO n_b6_b2.symm (LkO.thereO n_b5_b2.symm (LkO.thereO n_b4_b2.symm (LkO.there n_b3_b2 LkO.here)))))))))) (by first | rfl | (simp; done))) ((upd_ne _ _ n_b20_b3.ne.symm).trans ((updO_ne n_b11_b3).trans ((updO_ne n_b10_b3).trans ((upd_ne _ _ n_b9_b3.ne.symm).trans ((updO_ne n_b8_b3).trans ((updO_ne n_b7_b3).trans ((updO_ne n_b6_b3).trans ((updO_ne n_b5_b3).trans ((updO_ne n_b4_b3).trans (upd_same _ _ _)))))))))) (by first | rfl | (simp; done))) (LkO.there n_b20_b4 (LkO.thereO n_b11_b4.symm (LkO.thereO n_b10_b4.symm (LkO.there n_b9_b4 (LkO.thereO n_b8_b4.symm (LkO.thereO n_b7_b4.symm (LkO.thereO n_b6_b4.symm (LkO.thereO n_b5_b4.symm LkO.here)))))))) (by first | rfl | (simp; done))) (LkO.there n_b20_b5 (LkO.thereO n_b11_b5.symm (LkO.thereO n_b10_b5.symm (LkO.there n_b9_b5 (LkO.thereO n_b8_b5.symm (LkO.thereO n_b7_b5.symm (LkO.thereO n_b6_b5.symm LkO.here))))))) (by first | rfl | (simp; done))) (LkO.there n_b20_b6 (LkO.thereO n_b11_b6.symm (LkO.thereO n_b10_b6.symm (LkO.there n_b9_b6 (LkO.thereO n_b8_b6.symm (LkO.thereO n_b7_b6.symm LkO.here)))))) (by first | rfl | (simp; done))) (LkO.there n_b20_b7 (LkO.thereO n_b11_b7.symm (LkO.thereO n_b10_b7.symm (LkO.there n_b9_b7 (LkO.thereO n_b8_b7.symm LkO.here))))) (by first | rfl | (simp; done))) (LkO.there n_b20_b8 (LkO.thereO n_b11_b8.symm (LkO.thereO n_b10_b8.symm (LkO.there n_b9_b8 LkO.here)))) (by first | rfl | (simp; done))) ((upd_ne _ _ n_b20_b9.ne.symm).trans ((updO_ne n_b11_b9).trans ((updO_ne n_b10_b9).trans (upd_same _ _ _)))) (by first | rfl | (simp; done))) (LkO.there n_b20_b10 (LkO.thereO n_b11_b10.symm LkO.here)) (by first | rfl | (simp; done))) (LkO.there n_b20_b11 LkO.here) (by first | rfl | (simp; done)))), ?_⟩
             have hq := Option.bind_eq_some_iff.1 hm; clear hm; obtain ⟨r30, hr30, hm⟩ := hq
             have hd2 : Del (upd (updO (updO (upd (updO (updO (updO (updO (updO (upd (updO (updO (h) b1 (.own 2 (ints .i64 r2.2.2.1) (cap_b1 * 1))) b2 (.own 2 (ints .i64 r2.2.2.2) (cap_b2 * 1))) b3 (.own 28 (sqC r2.1) 101)) b4 (.own 2 (ints .i64 r3.1) (cap_b4 * 1))) b5 (.own 2 (ints .i64 r4.1) (cap_b5 * 1))) b6 (.own 2 (ints .i64 r6.1) (cap_b6 * 1))) b7 (.own 2 (ints .i64 r7.1) (cap_b7 * 1))) b8 (.own 2 (ints .i64 r9.2.2.1) (cap_b8 * 1))) b9 (.own 28 (sqC r9.1) 101)) b10 (.own 2 (ints .i64 r10.1) (cap_b10 * 1))) b11 (.own 2 (ints .i64 r11.1) (cap_b11 * 1))) b20 (.own 60 (srcC A0 l0.length c0 r29) 3)) b20 (.own 60 (srcC A0 l0.length c0 r29) 3) (updO (updO (upd (updO (updO (updO (updO (updO (upd (updO (updO (h) b1 (.own 2 (ints .i64 r2.2.2.1) (cap_b1 * 1))) b2 (.own 2 (ints .i64 r2.2.2.2) (cap_b2 * 1))) b3 (.own 28 (sqC r2.1) 101)) b4 (.own 2 (ints .i64 r3.1) (cap_b4 * 1))) b5 (.own 2 (ints .i64 r4.1) (cap_b5 * 1))) b6 (.own 2 (ints .i64 r6.1) (cap_b6 * 1))) b7 (.own 2 (ints .i64 r7.1) (cap_b7 * 1))) b8 (.own 2 (ints .i64 r9.2.2.1) (cap_b8 * 1))) b9 (.own 28 (sqC r9.1) 101)) b10 (.own 2 (ints .i64 r10.1) (cap_b10 * 1))) b11 (.own 2 (ints .i64 r11.1) (cap_b11 * 1))) := (Del.here (none_updO n_b20_b11 (none_updO n_b20_b10 (none_upd n_b20_b9.ne (none_updO n_b20_b8 (none_updO n_b20_b7 (none_updO n_b20_b6 (none_updO n_b20_b5 (none_updO n_b20_b4 (none_upd n_b20_b3.ne (none_updO n_b20_b2 (none_updO n_b20_b1 hb20))))))))))))
             refine DW.call 5 _ _ rfl (by kernel_rfl) rfl rfl (EO.fn rfl Try.func16 rfl rfl (Evs.cons rfl (Evs.cons rfl (Evs.cons rfl Evs.nil)))) (CC.mono (CC.atLe (c_laws_sum9 (h := updO (updO (upd (updO (updO (updO (updO (updO (upd (updO (updO (h) b1 (.own 2 (ints .i64 r2.2.2.1) (cap_b1 * 1))) b2 (.own 2 (ints .i64 r2.2.2.2) (cap_b2 * 1))) b3 (.own 28 (sqC r2.1) 101)) b4 (.own 2 (ints .i64 r3.1) (cap_b4 * 1))) b5 (.own 2 (ints .i64 r4.1) (cap_b5 * 1))) b6 (.own 2 (ints .i64 r6.1) (cap_b6 * 1))) b7 (.own 2 (ints .i64 r7.1) (cap_b7 * 1))) b8 (.own 2 (ints .i64 r9.2.2.1) (cap_b8 * 1))) b9 (.own 28 (sqC r9.1) 101)) b10 (.own 2 (ints .i64 r10.1) (cap_b10 * 1))) b11 (.own 2 (ints .i64 r11.1) (cap_b11 * 1))) hr30 (RdS.le hs0 (Le.underO (Le.underO (Le.under (Le.underO (Le.underO (Le.underO (Le.underO (Le.underO (Le.under (Le.underO (Le.underO (Le.refl _) hb1) hb2) hb3) hb4) hb5) hb6) hb7) hb8) hb9) hb10) hb11)) hd2.none) hd2.le) ?_)
             rintro _ _ ⟨b21, cap_b21, hb21, hk_b21, hc_b21, rfl, rfl⟩
             simp only [upd_noneA, updO_noneA, famH_noneA] at hb21
             obtain ⟨n_b21_b20, n_b21_b11, n_b21_b10, n_b21_b9, n_b21_b8, n_b21_b7, n_b21_b6, n_b21_b5, n_b21_b4, n_b21_b3, n_b21_b2, n_b21_b1, hb21⟩ := hb21
             refine ⟨(fun _ => (Le.upd_leftO (Le.upd_leftO (Le.upd_left (Le.upd_leftO (Le.upd_leftO (Le.upd_leftO (Le.upd_leftO (Le.upd_leftO (Le.upd_left (Le.upd_leftO (Le.upd_leftO (Le.under (Le.under (Le.underO (Le.underO (Le.under (Le.underO (Le.underO (Le.underO (Le.underO (Le.underO (Le.under (Le.underO (Le.underO (Le.refl _) hb1) hb2) hb3) hb4) hb5) hb6) hb7) hb8) hb9) hb10) hb11) hb20) hb21) (LkO.there n_b21_b1 (LkO.there n_b20_b1 (LkO.thereO n_b11_b1.symm (LkO.thereO n_b10_b1.symm (LkO.there n_b9_b1 (LkO.thereO n_b8_b1.symm (LkO.thereO n_b7_b1.symm (LkO.thereO n_b6_b1.symm (LkO.thereO n_b5_b1.symm (LkO.thereO n_b4_b1.symm (LkO.there n_b3_b1 (LkO.thereO n_b2_b1.symm LkO.here)))))))))))) (by first | rfl | (simp; done))) (LkO.there n_b21_b2 (LkO.there n_b20_b2 (LkO.thereO n_b11_b2.symm (LkO.thereO n_b10_b2.symm (LkO.there n_b9_b2 (LkO.thereO n_b8_b2.symm (LkO.thereO n_b7_b2.symm (LkO.thereO n_b6_b2.symm (LkO.thereO n_b5_b2.symm (LkO.thereO n_b4_b2.symm (LkO.there n_b3_b2 LkO.here))))))))))) (by first | rfl | (simp; done))) ((upd_ne _ _ n_b21_b3.ne.symm).trans ((upd_ne _ _ n_b20_b3.ne.symm).trans ((updO_ne n_b11_b3).trans ((updO_ne n_b10_b3).trans ((upd_ne _ _ n_b9_b3.ne.symm).trans ((updO_ne n_b8_b3).trans ((updO_ne n_b7_b3).trans ((updO_ne n_b6_b3).trans ((updO_ne n_b5_b3).trans ((updO_ne n_b4_b3).trans (upd_same _ _ _))))))))))) (by first | rfl | (simp; done))) (LkO.there n_b21_b4 (LkO.there n_b20_b4 (LkO.thereO n_b11_b4.symm (LkO.thereO n_b10_b4.symm (LkO.there n_b9_b4 (LkO.thereO n_b8_b4.symm (LkO.thereO n_b7_b4.symm (LkO.thereO n_b6_b4.symm (LkO.thereO n_b5_b4.symm LkO.here))))))))) (by first | rfl | (simp; done))) (LkO.there n_b21_b5 (LkO.there n_b20_b5 (LkO.thereO n_b11_b5.symm (LkO.thereO n_b10_b5.symm (LkO.there n_b9_b5 (LkO.thereO n_b8_b5.symm (LkO.thereO n_b7_b5.symm (LkO.thereO n_b6_b5.symm LkO.here)))))))) (by first | rfl | (simp; done))) (LkO.there n_b21_b6 (LkO.there n_b20_b6 (LkO.thereO n_b11_b6.symm (LkO.thereO n_b10_b6.symm (LkO.there n_b9_b6 (LkO.thereO n_b8_b6.symm (LkO.thereO n_b7_b6.symm LkO.here))))))) (by first | rfl | (simp; done))) (LkO.there n_b21_b7 (LkO.there n_b20_b7 (LkO.thereO n_b11_b7.symm (LkO.thereO n_b10_b7.symm (LkO.there n_b9_b7 (LkO.thereO n_b8_b7.symm LkO.here)))))) (by first | rfl | (simp; done))) (LkO.there n_b21_b8 (LkO.there n_b20_b8 (LkO.thereO n_b11_b8.symm (LkO.thereO n_b10_b8.symm (LkO.there n_b9_b8 LkO.here))))) (by first | rfl | (simp; done))) ((upd_ne _ _ n_b21_b9.ne.symm).trans ((upd_ne _ _ n_b20_b9.ne.symm).trans ((updO_ne n_b11_b9).trans ((updO_ne n_b10_b9).trans (upd_same _ _ _))))) (by first | rfl | (simp; done))) (LkO.there n_b21_b10 (LkO.there n_b20_b10 (LkO.thereO n_b11_b10.symm LkO.here))) (by first | rfl | (simp; done))) (LkO.there n_b21_b11 (LkO.there n_b20_b11 LkO.here)) (by first | rfl | (simp; done)))), ?_⟩
             refine DW.pure' 6 _ rfl (by kernel_rfl) rfl (fun _ => QO.assign rfl rfl) ?_
             refine DW.done (by kernel_rfl) ?_ _
             refine thenA_n ?_
             refine wpA_seq ?_
             refine wpA_region ?_
             refine Ops_quiet _ rfl rfl (QO.loadRow (cs := sqC r2.1) (hr := (rdAll ((upd_ne _ _ n_b21_b3.ne.symm).trans ((upd_ne _ _ n_b20_b3.ne.symm).trans ((updO_ne n_b11_b3).trans ((updO_ne n_b10_b3).trans ((upd_ne _ _ n_b9_b3.ne.symm).trans ((updO_ne n_b8_b3).trans ((updO_ne n_b7_b3).trans ((updO_ne n_b6_b3).trans ((updO_ne n_b5_b3).trans ((updO_ne n_b4_b3).trans (upd_same _ _ _))))))))))))) rfl sz28 rfl rfl (sqC_length _)) ?_
             refine Ops_quiet _ rfl rfl (QO.move rfl rfl) ?_
             refine Ops_quiet _ rfl rfl (QO.move rfl rfl) ?_
             refine Ops_quiet _ rfl rfl (QO.move rfl rfl) ?_
             have hq := Option.bind_eq_some_iff.1 hm; clear hm; obtain ⟨r31, hr31, hm⟩ := hq
             refine Ops_call _ _ rfl rfl (EO.fn rfl Try.func6 rfl rfl (Evs.cons rfl (Evs.cons rfl (Evs.cons rfl (Evs.cons rfl Evs.nil))))) (CC.mono (c_impl_MultiplySums (l2 := r6.1) (A2 := adO b6) (c2 := cap_b6) (l3 := r30.1) (A3 := some ⟨b21, 0, none⟩) (c3 := cap_b21) hr31 (RdS.ownO (LkO.there n_b21_b6 (LkO.there n_b20_b6 (LkO.thereO n_b11_b6.symm (LkO.thereO n_b10_b6.symm (LkO.there n_b9_b6 (LkO.thereO n_b8_b6.symm (LkO.thereO n_b7_b6.symm LkO.here))))))) (fun e => congrArg (fun l => ints .i64 l) (ho_b6.nilL e))) (RdS.own (upd_same _ _ _))) ?_)
             rintro _ _ ⟨b22, cap_b22, hb22, ho_b22, rfl, rfl⟩
             simp only [frO_updA, frO_updOA, frO_famHA] at hb22
             obtain ⟨n_b22_b21, n_b22_b20, n_b22_b11, n_b22_b10, n_b22_b9, n_b22_b8, n_b22_b7, n_b22_b6, n_b22_b5, n_b22_b4, n_b22_b3, n_b22_b2, n_b22_b1, hb22⟩ := hb22
             refine Ops_quiet _ rfl rfl (QO.move rfl rfl) ?_
             refine Ops_quiet _ rfl rfl (QO.extract rfl rfl rfl) ?_
             refine Ops_quiet _ rfl rfl (QO.extract rfl rfl rfl) ?_
             refine Ops_quiet _ rfl rfl (QO.assign rfl rfl) ?_
             refine Ops_quiet _ rfl rfl (QO.assign rfl rfl) ?_
             refine Ops_nil ?_
             refine thenA_n ?_
             refine wpA_seq ?_
             refine wpA_region ?_
             refine Ops_quiet _ rfl rfl (QO.loadRow (cs := sqC r2.1) (hr := (rdAll ((updO_ne n_b22_b3).trans ((upd_ne _ _ n_b21_b3.ne.symm).trans ((upd_ne _ _ n_b20_b3.ne.symm).trans ((updO_ne n_b11_b3).trans ((updO_ne n_b10_b3).trans ((upd_ne _ _ n_b9_b3.ne.symm).trans ((updO_ne n_b8_b3).trans ((updO_ne n_b7_b3).trans ((updO_ne n_b6_b3).trans ((updO_ne n_b5_b3).trans ((updO_ne n_b4_b3).trans (upd_same _ _ _)))))))))))))) rfl sz28 rfl rfl (sqC_length _)) ?_
             refine Ops_quiet _ rfl rfl (QO.move rfl rfl) ?_
             refine Ops_quiet _ rfl rfl (QO.move rfl rfl) ?_
             refine Ops_quiet _ rfl rfl (QO.move rfl rfl) ?_
             have hq := Option.bind_eq_some_iff.1 hm; clear hm; obtain ⟨r32, hr32, hm⟩ := hq
             refine Ops_call _ _ rfl rfl (EO.fn rfl Try.func6 rfl rfl (Evs.cons rfl (Evs.cons rfl (Evs.cons rfl (Evs.cons rfl Evs.nil))))) (CC.mono (c_impl_MultiplySums (l2 := r2.2.2.1) (A2 := adO b1) (c2 := cap_b1) (l3 := r30.1) (A3 := some ⟨b21, 0, none⟩) (c3 := cap_b21) hr32 (RdS.ownO (LkO.thereO n_b22_b1.symm (LkO.there n_b21_b1 (LkO.there n_b20_b1 (LkO.thereO n_b11_b1.symm (LkO.thereO n_b10_b1.symm (LkO.there n_b9_b1 (LkO.thereO n_b8_b1.symm (LkO.thereO n_b7_b1.symm (LkO.thereO n_b6_b1.symm (LkO.thereO n_b5_b1.symm (LkO.thereO n_b4_b1.symm (LkO.there n_b3_b1 (LkO.thereO n_b2_b1.symm LkO.here))))))))))))) (fun e => congrArg (fun l => ints .i64 l) (ho_b1.nilL e))) (RdS.own ((updO_ne n_b22_b21).trans (upd_same _ _ _)))) ?_)
             rintro _ _ ⟨b23, cap_b23, hb23, ho_b23, rfl, rfl⟩
             simp only [frO_updA, frO_updOA, frO_famHA] at hb23
             obtain ⟨n_b23_b22, n_b23_b21, n_b23_b20, n_b23_b11, n_b23_b10, n_b23_b9, n_b23_b8, n_b23_b7, n_b23_b6, n_b23_b5, n_b23_b4, n_b23_b3, n_b23_b2, n_b23_b1, hb23⟩ := hb23
             refine Ops_quiet _ rfl rfl (QO.move rfl rfl) ?_
             refine Ops_quiet _ rfl rfl (QO.extract rfl rfl rfl) ?_
             refine Ops_quiet _ rfl rfl (QO.extract rfl rfl rfl) ?_
             refine Ops_quiet _ rfl rfl (QO.assign rfl rfl) ?_
             refine Ops_quiet _ rfl rfl (QO.assign rfl rfl) ?_
             refine Ops_nil ?_
             refine thenA_n ?_
             refine wpA_seq ?_
             refine wpA_region ?_
             refine Ops_quiet _ rfl rfl (QO.loadRow (cs := sqC r2.1) (hr := (rdAll ((updO_ne n_b23_b3).trans ((updO_ne n_b22_b3).trans ((upd_ne _ _ n_b21_b3.ne.symm).trans ((upd_ne _ _ n_b20_b3.ne.symm).trans ((updO_ne n_b11_b3).trans ((updO_ne n_b10_b3).trans ((upd_ne _ _ n_b9_b3.ne.symm).trans ((updO_ne n_b8_b3).trans ((updO_ne n_b7_b3).trans ((updO_ne n_b6_b3).trans ((updO_ne n_b5_b3).trans ((updO_ne n_b4_b3).trans (upd_same _ _ _))))))))))))))) rfl sz28 rfl rfl (sqC_length _)) ?_
             refine Ops_quiet _ rfl rfl (QO.move rfl rfl) ?_
             refine Ops_quiet _ rfl rfl (QO.move rfl rfl) ?_
             refine Ops_quiet _ rfl rfl (QO.move rfl rfl) ?_
             have hq := Option.bind_eq_some_iff.1 hm; clear hm; obtain ⟨r33, hr33, hm⟩ := hq
             refine Ops_call _ _ rfl rfl (EO.fn rfl Try.func6 rfl rfl (Evs.cons rfl (Evs.cons rfl (Evs.cons rfl (Evs.cons rfl Evs.nil))))) (CC.mono (c_impl_MultiplySums (l2 := r2.2.2.2) (A2 := adO b2) (c2 := cap_b2) (l3 := r30.1) (A3 := some ⟨b21, 0, none⟩) (c3 := cap_b21) hr33 (RdS.ownO (LkO.thereO n_b23_b2.symm (LkO.thereO n_b22_b2.symm (LkO.there n_b21_b2 (LkO.there n_b20_b2 (LkO.thereO n_b11_b2.symm (LkO.thereO n_b10_b2.symm (LkO.there n_b9_b2 (LkO.thereO n_b8_b2.symm (LkO.thereO n_b7_b2.symm (LkO.thereO n_b6_b2.symm (LkO.thereO n_b5_b2.symm (LkO.thereO n_b4_b2.symm (LkO.there n_b3_b2 LkO.here))))))))))))) (fun e => congrArg (fun l => ints .i64 l) (ho_b2.nilL e))) (RdS.own ((updO_ne n_b23_b21).trans ((updO_ne n_b22_b21).trans (upd_same _ _ _))))) ?_)
             rintro _ _ ⟨b24, cap_b24, hb24, ho_b24, rfl, rfl⟩
             simp only [frO_updA, frO_updOA, frO_famHA] at hb24
             obtain ⟨n_b24_b23, n_b24_b22, n_b24_b21, n_b24_b20, n_b24_b11, n_b24_b10, n_b24_b9, n_b24_b8, n_b24_b7, n_b24_b6, n_b24_b5, n_b24_b4, n_b24_b3, n_b24_b2, n_b24_b1, hb24⟩ := hb24
             refine Ops_quiet _ rfl rfl (QO.move rfl rfl) ?_
             refine Ops_quiet _ rfl rfl (QO.extract rfl rfl rfl) ?_
             refine Ops_quiet _ rfl rfl (QO.extract rfl rfl rfl) ?_
             refine Ops_quiet _ rfl rfl (QO.assign rfl rfl) ?_
             refine Ops_quiet _ rfl rfl (QO.assign rfl rfl) ?_
             refine Ops_nil ?_
             refine thenA_n ?_
             refine wpA_seq ?_
             refine wpA_region ?_
             refine Ops_quiet _ rfl rfl (QO.loadRow (cs := sqC r2.1) (hr := (rdAll ((updO_ne n_b24_b3).trans ((updO_ne n_b23_b3).trans ((updO_ne n_b22_b3).trans ((upd_ne _ _ n_b21_b3.ne.symm).trans ((upd_ne _ _ n_b20_b3.ne.symm).trans ((updO_ne n_b11_b3).trans ((updO_ne n_b10_b3).trans ((upd_ne _ _ n_b9_b3.ne.symm).trans ((updO_ne n_b8_b3).trans ((updO_ne n_b7_b3).trans ((updO_ne n_b6_b3).trans ((updO_ne n_b5_b3).trans ((updO_ne n_b4_b3).trans (upd_same _ _ _)))))))))))))))) rfl sz28 rfl rfl (sqC_length _)) ?_
             refine Ops_quiet _ rfl rfl (QO.move rfl rfl) ?_
             refine Ops_quiet _ rfl rfl (QO.move rfl rfl) ?_
             refine Ops_quiet _ rfl rfl (QO.move rfl rfl) ?_
             have hq := Option.bind_eq_some_iff.1 hm; clear hm; obtain ⟨r34, hr34, hm⟩ := hq
             refine Ops_call _ _ rfl rfl (EO.fn rfl Try.func9 rfl rfl (Evs.cons rfl (Evs.cons rfl (Evs.cons rfl (Evs.cons rfl Evs.nil))))) (CC.mono (c_impl_AddSums (l2 := r32.1) (A2 := adO b23) (c2 := cap_b23) (l3 := r33.1) (A3 := adO b24) (c3 := cap_b24) hr34 (RdS.ownO (LkO.thereO n_b24_b23.symm LkO.here) (fun e => congrArg (fun l => ints .i64 l) (ho_b23.nilL e))) (RdS.ownO LkO.here (fun e => congrArg (fun l => ints .i64 l) (ho_b24.nilL e)))) ?_)
             rintro _ _ ⟨b25, cap_b25, hb25, ho_b25, rfl, rfl⟩
             simp only [frO_updA, frO_updOA, frO_famHA] at hb25
             obtain ⟨n_b25_b24, n_b25_b23, n_b25_b22, n_b25_b21, n_b25_b20, n_b25_b11, n_b25_b10, n_b25_b9, n_b25_b8, n_b25_b7, n_b25_b6, n_b25_b5, n_b25_b4, n_b25_b3, n_b25_b2, n_b25_b1, hb25⟩ := hb25
             refine Ops_quiet _ rfl rfl (QO.move rfl rfl) ?_
             refine Ops_quiet _ rfl rfl (QO.extract rfl rfl rfl) ?_
             refine Ops_quiet _ rfl rfl (QO.extract rfl rfl rfl) ?_
             refine Ops_quiet _ rfl rfl (QO.assign rfl rfl) ?_
             refine Ops_quiet _ rfl rfl (QO.assign rfl rfl) ?_
             refine Ops_nil ?_
             refine thenA_n ?_
             refine wpA_seq ?_
             refine wpA_region ?_
             refine Ops_quiet _ rfl rfl (QO.move rfl rfl) ?_
             refine Ops_quiet _ rfl rfl (QO.bin rfl rfl rfl rfl) ?_
             refine Ops_quiet _ rfl rfl (QO.move rfl rfl) ?_
             refine Ops_case 251 rfl (fun g24 => ?_) (fun g24 => ?_)
             ·replace hm := cond_t hm g24
              refine Ops_quiet _ rfl rfl (QO.move rfl rfl) ?_
              refine Ops_quiet _ rfl rfl (QO.bin rfl rfl rfl rfl) ?_
              refine Ops_quiet _ rfl rfl (QO.pick_t rfl rfl rfl) ?_
              refine Ops_quiet _ rfl rfl (QO.move rfl rfl) ?_
              refine Ops_case 255 rfl (fun g25 => ?_) (fun g25 => ?_)
              ·replace hm := cond_t hm g25
               refine Ops_quiet _ rfl rfl (QO.move rfl rfl) ?_
               refine Ops_quiet _ rfl rfl (QO.move rfl rfl) ?_
               refine Ops_quiet _ rfl rfl (QO.move rfl rfl) ?_
               refine Ops_quiet _ rfl rfl (QO.bin rfl rfl rfl rfl) ?_
               refine Ops_quiet _ rfl rfl (QO.move rfl rfl) ?_
               have hq := chk hm; clear hm; obtain ⟨ck2, hm⟩ := hq
               refine Ops_quiet _ rfl rfl (QO.rem rfl rfl rfl (by first | assumption | omega)) ?_
               refine Ops_quiet _ rfl rfl (QO.bin rfl rfl rfl rfl) ?_
               refine Ops_quiet _ rfl rfl (QO.pick_t rfl rfl rfl) ?_
               refine Ops_quiet _ rfl rfl (QO.move rfl rfl) ?_
               refine Ops_case 264 rfl (fun g26 => ?_) (fun g26 => ?_)
               ·replace hm := cond_t hm g26
                refine Ops_quiet _ rfl rfl (QO.move rfl rfl) ?_
                refine Ops_quiet _ rfl rfl (QO.bin rfl rfl rfl rfl) ?_
                refine Ops_quiet _ rfl rfl (QO.pick_t rfl rfl rfl) ?_
                refine Ops_quiet _ rfl rfl (QO.move rfl rfl) ?_
                refine Ops_case 268 rfl (fun g27 => ?_) (fun g27 => ?_)
                ·replace hm := cond_t hm g27
                 refine Ops_quiet _ rfl rfl (QO.move rfl rfl) ?_
                 refine Ops_quiet _ rfl rfl (QO.bin rfl rfl rfl rfl) ?_
                 refine Ops_quiet _ rfl rfl (QO.pick_t rfl rfl rfl) ?_
                 refine Ops_quiet _ rfl rfl (QO.move rfl rfl) ?_
                 refine Ops_case 272 rfl (fun g28 => ?_) (fun g28 => ?_)
                 ·replace hm := cond_t hm g28
                  refine Ops_quiet _ rfl rfl (QO.move rfl rfl) ?_
                  refine Ops_quiet _ rfl rfl (QO.bin rfl rfl rfl rfl) ?_
                  refine Ops_quiet _ rfl rfl (QO.pick_t rfl rfl rfl) ?_
                  refine Ops_quiet _ rfl rfl (QO.move rfl rfl) ?_
                  refine Ops_case 276 rfl (fun g29 => ?_) (fun g29 => ?_)
                  ·replace hm := cond_t hm g29
                   refine Ops_quiet _ rfl rfl (QO.move rfl rfl) ?_
                   refine Ops_quiet _ rfl rfl (QO.bin rfl rfl rfl rfl) ?_
                   refine Ops_quiet _ rfl rfl (QO.pick_t rfl rfl rfl) ?_
                   refine Ops_quiet _ rfl rfl (QO.move rfl rfl) ?_
                   refine Ops_case 280 rfl (fun g30 => ?_) (fun g30 => ?_)
                   ·replace hm := cond_t hm g30
                    refine Ops_quiet _ rfl rfl (QO.move rfl rfl) ?_
                    refine Ops_quiet _ rfl rfl (QO.move rfl rfl) ?_
                    have hq := Option.bind_eq_some_iff.1 hm; clear hm; obtain ⟨r35, hr35, hm⟩ := hq
                    refine Ops_call _ _ rfl rfl (EO.fn rfl Try.func8 rfl rfl (Evs.cons rfl (Evs.cons rfl Evs.nil))) (QC.cc (c_laws_likeInts (l0 := r31.1) (A0 := adO b22) (c0 := cap_b22) (l1 := r34.1) (A1 := adO b25) (c1 := cap_b25) hr35 (RdS.ownO (LkO.thereO n_b25_b22.symm (LkO.thereO n_b24_b22.symm (LkO.thereO n_b23_b22.symm LkO.here))) (fun e => congrArg (fun l => ints .i64 l) (ho_b22.nilL e))) (RdS.ownO LkO.here (fun e => congrArg (fun l => ints .i64 l) (ho_b25.nilL e)))) ?_)
                    refine Ops_quiet _ rfl rfl (QO.pick_t rfl rfl rfl) ?_
                    refine Ops_quiet _ rfl rfl (QO.assign rfl rfl) ?_
                    refine Ops_nil ?_
                    refine thenA_n ?_
                    refine wpA_ret ?_
                    obtain rfl := Option.some.inj hm
                    exact retA_r (h2 := h) (Res.one rfl (rfl)) (Le.underO (Le.underO (Le.underO (Le.underO (Le.under (Le.under (Le.underO (Le.underO (Le.under (Le.underO (Le.underO (Le.underO (Le.underO (Le.underO (Le.under (Le.underO (Le.underO (Le.refl _) hb1) hb2) hb3) hb4) hb5) hb6) hb7) hb8) hb9) hb10) hb11) hb20) hb21) hb22) hb23) hb24) hb25) ⟨rfl, rfl⟩
                   ·replace hm := cond_f hm g30
                    refine Ops_skip rfl rfl ?_
                    refine Ops_skip rfl rfl ?_
                    refine Ops_skip rfl rfl ?_
                    refine Ops_quiet _ rfl rfl (QO.pick_f rfl rfl rfl) ?_
                    refine Ops_quiet _ rfl rfl (QO.assign rfl rfl) ?_
                    refine Ops_nil ?_
                    refine thenA_n ?_
                    refine wpA_ret ?_
                    obtain rfl := Option.some.inj hm
                    exact retA_r (h2 := h) (Res.one rfl (rfl)) (Le.underO (Le.underO (Le.underO (Le.underO (Le.under (Le.under (Le.underO (Le.underO (Le.under (Le.underO (Le.underO (Le.underO (Le.underO (Le.underO (Le.under (Le.underO (Le.underO (Le.refl _) hb1) hb2) hb3) hb4) hb5) hb6) hb7) hb8) hb9) hb10) hb11) hb20) hb21) hb22) hb23) hb24) hb25) ⟨rfl, rfl⟩
                  ·replace hm := cond_f hm g29
                   refine Ops_skip rfl rfl ?_
                   refine Ops_skip rfl rfl ?_
                   refine Ops_quiet _ rfl rfl (QO.pick_f rfl rfl rfl) ?_
                   refine Ops_quiet _ rfl rfl (QO.move rfl rfl) ?_
                   refine Ops_skip rfl rfl ?_
                   refine Ops_skip rfl rfl ?_
                   refine Ops_skip rfl rfl ?_
                   refine Ops_quiet _ rfl rfl (QO.pick_f rfl rfl rfl) ?_
                   refine Ops_quiet _ rfl rfl (QO.assign rfl rfl) ?_
                   refine Ops_nil ?_
                   refine thenA_n ?_
                   refine wpA_ret ?_
                   obtain rfl := Option.some.inj hm
                   exact retA_r (h2 := h) (Res.one rfl (rfl)) (Le.underO (Le.underO (Le.underO (Le.underO (Le.under (Le.under (Le.underO (Le.underO (Le.under (Le.underO (Le.underO (Le.underO (Le.underO (Le.underO (Le.under (Le.underO (Le.underO (Le.refl _) hb1) hb2) hb3) hb4) hb5) hb6) hb7) hb8) hb9) hb10) hb11) hb20) hb21) hb22) hb23) hb24) hb25) ⟨rfl, rfl⟩
                 ·replace hm := cond_f hm g28
                  refine Ops_skip rfl rfl ?_
                  refine Ops_skip rfl rfl ?_
                  refine Ops_quiet _ rfl rfl (QO.pick_f rfl rfl rfl) ?_
                  refine Ops_quiet _ rfl rfl (QO.move rfl rfl) ?_
                  refine Ops_skip rfl rfl ?_
                  refine Ops_skip rfl rfl ?_
                  refine Ops_quiet _ rfl rfl (QO.pick_f rfl rfl rfl) ?_
                  refine Ops_quiet _ rfl rfl (QO.move rfl rfl) ?_
                  refine Ops_skip rfl rfl ?_
                  refine Ops_skip rfl rfl ?_
                  refine Ops_skip rfl rfl ?_
                  refine Ops_quiet _ rfl rfl (QO.pick_f rfl rfl rfl) ?_
                  refine Ops_quiet _ rfl rfl (QO.assign rfl rfl) ?_
                  refine Ops_nil ?_
                  refine thenA_n ?_
                  refine wpA_ret ?_
                  obtain rfl := Option.some.inj hm
                  exact retA_r (h2 := h) (Res.one rfl (rfl)) (Le.underO (Le.underO (Le.underO (Le.underO (Le.under (Le.under (Le.underO (Le.underO (Le.under (Le.underO (Le.underO (Le.underO (Le.underO (Le.underO (Le.under (Le.underO (Le.underO (Le.refl _) hb1) hb2) hb3) hb4) hb5) hb6) hb7) hb8) hb9) hb10) hb11) hb20) hb21) hb22) hb23) hb24) hb25) ⟨rfl, rfl⟩
                ·replace hm := cond_f hm g27
                 refine Ops_skip rfl rfl ?_
                 refine Ops_skip rfl rfl ?_
                 refine Ops_quiet _ rfl rfl (QO.pick_f rfl rfl rfl) ?_
                 refine Ops_quiet _ rfl rfl (QO.move rfl rfl) ?_
                 refine Ops_skip rfl rfl ?_
                 refine Ops_skip rfl rfl ?_
                 refine Ops_quiet _ rfl rfl (QO.pick_f rfl rfl rfl) ?_
                 refine Ops_quiet _ rfl rfl (QO.move rfl rfl) ?_
                 refine Ops_skip rfl rfl ?_
                 refine Ops_skip rfl rfl ?_
                 refine Ops_quiet _ rfl rfl (QO.pick_f rfl rfl rfl) ?_
                 refine Ops_quiet _ rfl rfl (QO.move rfl rfl) ?_
                 refine Ops_skip rfl rfl ?_
                 refine Ops_skip rfl rfl ?_
                 refine Ops_skip rfl rfl ?_
                 refine Ops_quiet _ rfl rfl (QO.pick_f rfl rfl rfl) ?_
                 refine Ops_quiet _ rfl rfl (QO.assign rfl rfl) ?_
                 refine Ops_nil ?_
                 refine thenA_n ?_
                 refine wpA_ret ?_
                 obtain rfl := Option.some.inj hm
                 exact retA_r (h2 := h) (Res.one rfl (rfl)) (Le.underO (Le.underO (Le.underO (Le.underO (Le.under (Le.under (Le.underO (Le.underO (Le.under (Le.underO (Le.underO (Le.underO (Le.underO (Le.underO (Le.under (Le.underO (Le.underO (Le.refl _) hb1) hb2) hb3) hb4) hb5) hb6) hb7) hb8) hb9) hb10) hb11) hb20) hb21) hb22) hb23) hb24) hb25) ⟨rfl, rfl⟩
               ·replace hm := cond_f hm g26
                refine Ops_skip rfl rfl ?_
                refine Ops_skip rfl rfl ?_
                refine Ops_quiet _ rfl rfl (QO.pick_f rfl rfl rfl) ?_
                refine Ops_quiet _ rfl rfl (QO.move rfl rfl) ?_
                refine Ops_skip rfl rfl ?_
                refine Ops_skip rfl rfl ?_
                refine Ops_quiet _ rfl rfl (QO.pick_f rfl rfl rfl) ?_
                refine Ops_quiet _ rfl rfl (QO.move rfl rfl) ?_
                refine Ops_skip rfl rfl ?_
                refine Ops_skip rfl rfl ?_
                refine Ops_quiet _ rfl rfl (QO.pick_f rfl rfl rfl) ?_
                refine Ops_quiet _ rfl rfl (QO.move rfl rfl) ?_
                refine Ops_skip rfl rfl ?_
                refine Ops_skip rfl rfl ?_
                refine Ops_quiet _ rfl rfl (QO.pick_f rfl rfl rfl) ?_
                refine Ops_quiet _ rfl rfl (QO.move rfl rfl) ?_
                refine Ops_skip rfl rfl ?_
                refine Ops_skip rfl rfl ?_
                refine Ops_skip rfl rfl ?_
                refine Ops_quiet _ rfl rfl (QO.pick_f rfl rfl rfl) ?_
                refine Ops_quiet _ rfl rfl (QO.assign rfl rfl) ?_
                refine Ops_nil ?_
                refine thenA_n ?_
                refine wpA_ret ?_
                obtain rfl := Option.some.inj hm
                exact retA_r (h2 := h) (Res.one rfl (rfl)) (Le.underO (Le.underO (Le.underO (Le.underO (Le.under (Le.under (Le.underO (Le.underO (Le.under (Le.underO (Le.underO (Le.underO (Le.underO (Le.underO (Le.under (Le.underO (Le.underO (Le.refl _) hb1) hb2) hb3) hb4) hb5) hb6) hb7) hb8) hb9) hb10) hb11) hb20) hb21) hb22) hb23) hb24) hb25) ⟨rfl, rfl⟩
              ·replace hm := cond_f hm g25
               refine Ops_skip rfl rfl ?_
               refine Ops_skip rfl rfl ?_
               refine Ops_skip rfl rfl ?_
               refine Ops_skip rfl rfl ?_
               refine Ops_skip rfl rfl ?_
               refine Ops_skip rfl rfl ?_
               refine Ops_skip rfl rfl ?_
               refine Ops_quiet _ rfl rfl (QO.pick_f rfl rfl rfl) ?_
               refine Ops_quiet _ rfl rfl (QO.move rfl rfl) ?_
               refine Ops_skip rfl rfl ?_
               refine Ops_skip rfl rfl ?_
               refine Ops_quiet _ rfl rfl (QO.pick_f rfl rfl rfl) ?_
               refine Ops_quiet _ rfl rfl (QO.move rfl rfl) ?_
               refine Ops_skip rfl rfl ?_
               refine Ops_skip rfl rfl ?_
               refine Ops_quiet _ rfl rfl (QO.pick_f rfl rfl rfl) ?_
               refine Ops_quiet _ rfl rfl (QO.move rfl rfl) ?_
               refine Ops_skip rfl rfl ?_
               refine Ops_skip rfl rfl ?_
               refine Ops_quiet _ rfl rfl (QO.pick_f rfl rfl rfl) ?_
               refine Ops_quiet _ rfl rfl (QO.move rfl rfl) ?_
               refine Ops_skip rfl rfl ?_
               refine Ops_skip rfl rfl ?_
               refine Ops_quiet _ rfl rfl (QO.pick_f rfl rfl rfl) ?_
               refine Ops_quiet _ rfl rfl (QO.move rfl rfl) ?_
               refine Ops_skip rfl rfl ?_
               refine Ops_skip rfl rfl ?_
               refine Ops_skip rfl rfl ?_
               refine Ops_quiet _ rfl rfl (QO.pick_f rfl rfl rfl) ?_
               refine Ops_quiet _ rfl rfl (QO.assign rfl rfl) ?_
               refine Ops_nil ?_
               refine thenA_n ?_
               refine wpA_ret ?_
               obtain rfl := Option.some.inj hm
               exact retA_r (h2 := h) (Res.one rfl (rfl)) (Le.underO (Le.underO (Le.underO (Le.underO (Le.under (Le.under (Le.underO (Le.underO (Le.under (Le.underO (Le.underO (Le.underO (Le.underO (Le.underO (Le.under (Le.underO (Le.underO (Le.refl _) hb1) hb2) hb3) hb4) hb5) hb6) hb7) hb8) hb9) hb10) hb11) hb20) hb21) hb22) hb23) hb24) hb25) ⟨rfl, rfl⟩
             ·replace hm := cond_f hm g24
              refine Ops_skip rfl rfl ?_
              refine Ops_skip rfl rfl ?_
              refine Ops_quiet _ rfl rfl (QO.pick_f rfl rfl rfl) ?_
              refine Ops_quiet _ rfl rfl (QO.move rfl rfl) ?_
              refine Ops_skip rfl rfl ?_
              refine Ops_skip rfl rfl ?_
              refine Ops_skip rfl rfl ?_
              refine Ops_skip rfl rfl ?_
              refine Ops_skip rfl rfl ?_
              refine Ops_skip rfl rfl ?_
              refine Ops_skip rfl rfl ?_
              refine Ops_quiet _ rfl rfl (QO.pick_f rfl rfl rfl) ?_
              refine Ops_quiet _ rfl rfl (QO.move rfl rfl) ?_
              refine Ops_skip rfl rfl ?_
              refine Ops_skip rfl rfl ?_
              refine Ops_quiet _ rfl rfl (QO.pick_f rfl rfl rfl) ?_
              refine Ops_quiet _ rfl rfl (QO.move rfl rfl) ?_
              refine Ops_skip rfl rfl ?_
              refine Ops_skip rfl rfl ?_
              refine Ops_quiet _ rfl rfl (QO.pick_f rfl rfl rfl) ?_
              refine Ops_quiet _ rfl rfl (QO.move rfl rfl) ?_
              refine Ops_skip rfl rfl ?_
              refine Ops_skip rfl rfl ?_
              refine Ops_quiet _ rfl rfl (QO.pick_f rfl rfl rfl) ?_
              refine Ops_quiet _ rfl rfl (QO.move rfl rfl) ?_
              refine Ops_skip rfl rfl ?_
              refine Ops_skip rfl rfl ?_
              refine Ops_quiet _ rfl rfl (QO.pick_f rfl rfl rfl) ?_
              refine Ops_quiet _ rfl rfl (QO.move rfl rfl) ?_
              refine Ops_skip rfl rfl ?_
              refine Ops_skip rfl rfl ?_
              refine Ops_skip rfl rfl ?_
              refine Ops_quiet _ rfl rfl (QO.pick_f rfl rfl rfl) ?_
              refine Ops_quiet _ rfl rfl (QO.assign rfl rfl) ?_
              refine Ops_nil ?_
              refine thenA_n ?_
              refine wpA_ret ?_
              obtain rfl := Option.some.inj hm
              exact retA_r (h2 := h) (Res.one rfl (rfl)) (Le.underO (Le.underO (Le.underO (Le.underO (Le.under (Le.under (Le.underO (Le.underO (Le.under (Le.underO (Le.underO (Le.underO (Le.underO (Le.underO (Le.under (Le.underO (Le.underO (Le.refl _) hb1) hb2) hb3) hb4) hb5) hb6) hb7) hb8) hb9) hb10) hb11) hb20) hb21) hb22) hb23) hb24) hb25) ⟨rfl, rfl⟩
          ·replace hm := cond_f hm g10
           refine Ops_skip rfl rfl ?_
           refine Ops_skip rfl rfl ?_
           refine Ops_quiet _ rfl rfl (QO.pick_f rfl rfl rfl) ?_
           refine Ops_nil ?_
           refine thenA_n ?_
           refine wpA_cond_f rfl ?_
           refine wpA_skip ?_
           refine thenA_n ?_
           refine wpA_seq ?_
           refine wpA_seq ?_
           refine wpA_region ?_
           refine Ops_quiet _ rfl rfl (QO.move rfl rfl) ?_
           refine Ops_quiet _ rfl rfl (QO.bin rfl rfl rfl rfl) ?_
           refine Ops_nil ?_
           refine thenA_n ?_
           refine wpA_cond rfl (fun g31 => ?_) (fun g31 => ?_)
           ·replace hm := cond_t hm g31
            refine wpA_seq ?_
            refine wpA_region ?_
            refine Ops_quiet _ rfl rfl (QO.move rfl rfl) ?_
            refine Ops_quiet _ rfl rfl (QO.lenSl rfl sz29 rfl) ?_
            refine Ops_quiet _ rfl rfl (QO.bin rfl rfl rfl rfl) ?_
            refine Ops_quiet _ rfl rfl (QO.assign rfl rfl) ?_
            refine Ops_nil ?_
            refine thenA_n ?_
            refine wpA_ret ?_
            refine thenA_r ?_
            obtain rfl := Option.some.inj hm
            exact retA_r (h2 := h) (Res.one rfl (rfl)) (Le.underO (Le.underO (Le.under (Le.underO (Le.underO (Le.underO (Le.underO (Le.underO (Le.under (Le.underO (Le.underO (Le.refl _) hb1) hb2) hb3) hb4) hb5) hb6) hb7) hb8) hb9) hb10) hb11) ⟨rfl, rfl⟩
           ·replace hm := cond_f hm g31
            refine wpA_skip ?_
            refine thenA_n ?_
            refine wpA_seq ?_
            refine wpA_region ?_
            refine Ops_quiet _ rfl rfl (QO.loadRow (cs := sqC r2.1) (hr := (rdAll ((updO_ne n_b11_b3).trans ((updO_ne n_b10_b3).trans ((upd_ne _ _ n_b9_b3.ne.symm).trans ((updO_ne n_b8_b3).trans ((updO_ne n_b7_b3).trans ((updO_ne n_b6_b3).trans ((updO_ne n_b5_b3).trans ((updO_ne n_b4_b3).trans (upd_same _ _ _))))))))))) rfl sz28 rfl rfl (sqC_length _)) ?_
            refine Ops_quiet _ rfl rfl (QO.move rfl rfl) ?_
            refine Ops_quiet _ rfl rfl (QO.move rfl rfl) ?_
            have hq := Option.bind_eq_some_iff.1 hm; clear hm; obtain ⟨r36, hr36, hm⟩ := hq
            refine Ops_call _ _ rfl rfl (EO.fn rfl Try.func14 rfl rfl (Evs.cons rfl (Evs.cons rfl (Evs.cons rfl Evs.nil)))) (QC.cc (c_impl_AugmentationOf (l2 := r2.2.2.2) (A2 := adO b2) (c2 := cap_b2) hr36 (RdS.ownO (LkO.thereO n_b11_b2.symm (LkO.thereO n_b10_b2.symm (LkO.there n_b9_b2 (LkO.thereO n_b8_b2.symm (LkO.thereO n_b7_b2.symm (LkO.thereO n_b6_b2.symm (LkO.thereO n_b5_b2.symm (LkO.thereO n_b4_b2.symm (LkO.there n_b3_b2 LkO.here))))))))) (fun e => congrArg (fun l => ints .i64 l) (ho_b2.nilL e)))) ?_)
            refine Ops_quiet _ rfl rfl (QO.move rfl rfl) ?_
            refine Ops_quiet _ rfl rfl (QO.extract rfl rfl rfl) ?_
            refine Ops_quiet _ rfl rfl (QO.extract rfl rfl rfl) ?_
            refine Ops_quiet _ rfl rfl (QO.assign rfl rfl) ?_
            refine Ops_quiet _ rfl rfl (QO.assign rfl rfl) ?_
            refine Ops_nil ?_
            refine thenA_n ?_
            refine wpA_seq ?_
            refine wpA_region ?_
            refine Ops_quiet _ rfl rfl (QO.loadRow (cs := sqC r2.1) (hr := (rdAll ((updO_ne n_b11_b3).trans ((updO_ne n_b10_b3).trans ((upd_ne _ _ n_b9_b3.ne.symm).trans ((updO_ne n_b8_b3).trans ((updO_ne n_b7_b3).trans ((updO_ne n_b6_b3).trans ((updO_ne n_b5_b3).trans ((updO_ne n_b4_b3).trans (upd_same _ _ _))))))))))) rfl sz28 rfl rfl (sqC_length _)) ?_
            refine Ops_quiet _ rfl rfl (QO.move rfl rfl) ?_
            refine Ops_quiet _ rfl rfl (QO.move rfl rfl) ?_
            have hq := Option.bind_eq_some_iff.1 hm; clear hm; obtain ⟨r37, hr37, hm⟩ := hq
            refine Ops_call _ _ rfl rfl (EO.fn rfl Try.func14 rfl rfl (Evs.cons rfl (Evs.cons rfl (Evs.cons rfl Evs.nil)))) (QC.cc (c_impl_AugmentationOf (l2 := r3.1) (A2 := adO b4) (c2 := cap_b4) hr37 (RdS.ownO (LkO.thereO n_b11_b4.symm (LkO.thereO n_b10_b4.symm (LkO.there n_b9_b4 (LkO.thereO n_b8_b4.symm (LkO.thereO n_b7_b4.symm (LkO.thereO n_b6_b4.symm (LkO.thereO n_b5_b4.symm LkO.here))))))) (fun e => congrArg (fun l => ints .i64 l) (ho_b4.nilL e)))) ?_)
            refine Ops_quiet _ rfl rfl (QO.move rfl rfl) ?_
            refine Ops_quiet _ rfl rfl (QO.extract rfl rfl rfl) ?_
            refine Ops_quiet _ rfl rfl (QO.extract rfl rfl rfl) ?_
            refine Ops_quiet _ rfl rfl (QO.assign rfl rfl) ?_
            refine Ops_quiet _ rfl rfl (QO.assign rfl rfl) ?_
            refine Ops_nil ?_
            refine thenA_n ?_
            refine wpA_weaken (show Abs.Sub _ [(0, .slice A0 l0.length c0), (2, .bool false), (3, .pointer (some ⟨b3, 0, none⟩)), (4, .int .i64 r2.2.1), (5, .slice (adO b1) r2.2.2.1.length cap_b1), (6, .slice (adO b2) r2.2.2.2.length cap_b2), (11, .slice (adO b6) r6.1.length cap_b6), (23, .int .i64 r13.1), (31, .int .i64 r36.1), (32, .int .i64 r36.2), (33, .int .i64 r37.1), (34, .int .i64 r37.2)] from (Sub.cons rfl (Sub.cons rfl (Sub.cons rfl (Sub.cons rfl (Sub.cons rfl (Sub.cons rfl (Sub.cons rfl (Sub.cons rfl (Sub.cons rfl (Sub.cons rfl (Sub.cons rfl (Sub.cons rfl (Sub.nil)))))))))))))).ok (Le.refl _) ?_
            refine wpA_seq ?_
            refine wpA_any (updO (updO (upd (updO (updO (updO (updO (updO (upd (updO (updO (h) b1 (.own 2 (ints .i64 r2.2.2.1) (cap_b1 * 1))) b2 (.own 2 (ints .i64 r2.2.2.2) (cap_b2 * 1))) b3 (.own 28 (sqC r2.1) 101)) b4 (.own 2 (ints .i64 r3.1) (cap_b4 * 1))) b5 (.own 2 (ints .i64 r4.1) (cap_b5 * 1))) b6 (.own 2 (ints .i64 r6.1) (cap_b6 * 1))) b7 (.own 2 (ints .i64 r7.1) (cap_b7 * 1))) b8 (.own 2 (ints .i64 r9.2.2.1) (cap_b8 * 1))) b9 (.own 28 (sqC r9.1) 101)) b10 (.own 2 (ints .i64 r10.1) (cap_b10 * 1))) b11 (.own 2 (ints .i64 r11.1) (cap_b11 * 1))) [1, 5] [] (by kernel_rfl) (by kernel_rfl) (DW.start ?_)
            refine DW.pure' 0 _ rfl (by kernel_rfl) rfl (fun _ => QO.move rfl rfl) ?_
            refine DW.pure' 2 _ rfl (by kernel_rfl) rfl (fun _ => QO.fieldAt (fo := 0) rfl sz28 rfl rfl sz2 rfl rfl) ?_
            refine DW.readK' 3 _ rfl (by kernel_rfl) rfl (Le.upd_leftO (Le.upd_leftO (Le.upd_left (Le.upd_leftO (Le.upd_leftO (Le.upd_leftO (Le.upd_leftO (Le.upd_leftO (Le.upd_left (Le.upd_leftO (Le.upd_leftO (Le.underO (Le.underO (Le.under (Le.underO (Le.underO (Le.underO (Le.underO (Le.underO (Le.under (Le.underO (Le.underO (Le.refl _) hb1) hb2) hb3) hb4) hb5) hb6) hb7) hb8) hb9) hb10) hb11) (LkO.thereO n_b11_b1.symm (LkO.thereO n_b10_b1.symm (LkO.there n_b9_b1 (LkO.thereO n_b8_b1.symm (LkO.thereO n_b7_b1.symm (LkO.thereO n_b6_b1.symm (LkO.thereO n_b5_b1.symm (LkO.thereO n_b4_b1.symm (LkO.there n_b3_b1 (LkO.thereO n_b2_b1.symm LkO.here)))))))))) (by first | rfl | (simp; done))) (LkO.thereO n_b11_b2.symm (LkO.thereO n_b10_b2.symm (LkO.there n_b9_b2 (LkO.thereO n_b8_b2.symm (LkO.thereO n_b7_b2.symm (LkO.thereO n_b6_b2.symm (LkO.thereO n_b5_b2.symm (LkO.thereO n_b4_b2.symm (LkO.there n_b3_b2 LkO.here))))))))) (by first | rfl | (simp; done))) ((updO_ne n_b11_b3).trans ((updO_ne n_b10_b3).trans ((upd_ne _ _ n_b9_b3.ne.symm).trans ((updO_ne n_b8_b3).trans ((updO_ne n_b7_b3).trans ((updO_ne n_b6_b3).trans ((updO_ne n_b5_b3).trans ((updO_ne n_b4_b3).trans (upd_same _ _ _))))))))) (by first | rfl | (simp; done))) (LkO.thereO n_b11_b4.symm (LkO.thereO n_b10_b4.symm (LkO.there n_b9_b4 (LkO.thereO n_b8_b4.symm (LkO.thereO n_b7_b4.symm (LkO.thereO n_b6_b4.symm (LkO.thereO n_b5_b4.symm LkO.here))))))) (by first | rfl | (simp; done))) (LkO.thereO n_b11_b5.symm (LkO.thereO n_b10_b5.symm (LkO.there n_b9_b5 (LkO.thereO n_b8_b5.symm (LkO.thereO n_b7_b5.symm (LkO.thereO n_b6_b5.symm LkO.here)))))) (by first | rfl | (simp; done))) (LkO.thereO n_b11_b6.symm (LkO.thereO n_b10_b6.symm (LkO.there n_b9_b6 (LkO.thereO n_b8_b6.symm (LkO.thereO n_b7_b6.symm LkO.here))))) (by first | rfl | (simp; done))) (LkO.thereO n_b11_b7.symm (LkO.thereO n_b10_b7.symm (LkO.there n_b9_b7 (LkO.thereO n_b8_b7.symm LkO.here)))) (by first | rfl | (simp; done))) (LkO.thereO n_b11_b8.symm (LkO.thereO n_b10_b8.symm (LkO.there n_b9_b8 LkO.here))) (by first | rfl | (simp; done))) ((updO_ne n_b11_b9).trans ((updO_ne n_b10_b9).trans (upd_same _ _ _))) (by first | rfl | (simp; done))) (LkO.thereO n_b11_b10.symm LkO.here) (by first | rfl | (simp; done))) LkO.here (by first | rfl | (simp; done))) (QO.load rfl sz2 rfl rfl (by (refine (rd_own ((updO_ne n_b11_b3).trans ((updO_ne n_b10_b3).trans ((upd_ne _ _ n_b9_b3.ne.symm).trans ((updO_ne n_b8_b3).trans ((updO_ne n_b7_b3).trans ((updO_ne n_b6_b3).trans ((updO_ne n_b5_b3).trans ((updO_ne n_b4_b3).trans (upd_same _ _ _))))))))) _).trans ?_); exact rfl)) ?_
            refine DW.pure' 4 _ rfl (by kernel_rfl) rfl (fun _ => QO.move rfl rfl) ?_
            have hq := Option.bind_eq_some_iff.1 hm; clear hm; obtain ⟨r38, hr38, hm⟩ := hq
            refine DW.call 1 _ _ rfl (by kernel_rfl) rfl rfl (EO.fn rfl Try.func17 rfl rfl (Evs.cons rfl (Evs.cons rfl Evs.nil))) (CC.mono (c_laws_roll (l0 := l0) (A0 := A0) (c0 := c0) hr38 (RdS.le hs0 (Le.underO (Le.underO (Le.under (Le.underO (Le.underO (Le.underO (Le.underO (Le.underO (Le.under (Le.underO (Le.underO (Le.refl _) hb1) hb2) hb3) hb4) hb5) hb6) hb7) hb8) hb9) hb10) hb11))) ?_)
            rintro _ _ ⟨b26, hb26, rfl, rfl⟩
            simp only [upd_noneA, updO_noneA, famH_noneA] at hb26
            obtain ⟨n_b26_b11, n_b26_b10, n_b26_b9, n_b26_b8, n_b26_b7, n_b26_b6, n_b26_b5, n_b26_b4, n_b26_b3, n_b26_b2, n_b26_b1, hb26⟩ := hb26
            refine ⟨(fun _ => (Le.upd_leftO (Le.upd_leftO (Le.upd_left (Le.upd_leftO (Le.upd_leftO (Le.upd_leftO (Le.upd_leftO (Le.upd_leftO (Le.upd_left (Le.upd_leftO (Le.upd_leftO (Le.under (Le.underO (Le.underO (Le.under (Le.underO (Le.underO (Le.underO (Le.underO (Le.underO (Le.under (Le.underO (Le.underO (Le.refl _) hb1) hb2) hb3) hb4) hb5) hb6) hb7) hb8) hb9) hb10) hb11) hb26) (LkO.there n_b26_b1 (LkO.thereO n_b11_b1.symm (LkO.thereO n_b10_b1.symm (LkO.there n_b9_b1 (LkO.thereO n_b8_b1.symm (LkO.thereO n_b7_b1.symm (LkO.thereO n_b6_b1.symm (LkO.thereO n_b5_b1.symm (LkO.thereO n_b4_b1.symm (LkO.there n_b3_b1 (LkO.thereO n_b2_b1.symm LkO.here))))))))))) (by first | rfl | (simp; done))) (LkO.there n_b26_b2 (LkO.thereO n_b11_b2.symm (LkO.thereO n_b10_b2.symm (LkO.there n_b9_b2 (LkO.thereO n_b8_b2.symm (LkO.thereO n_b7_b2.symm (LkO.thereO n_b6_b2.symm (LkO.thereO n_b5_b2.symm (LkO.thereO n_b4_b2.symm (LkO.there n_b3_b2 LkO.here)))))))))) (by first | rfl | (simp; done))) ((upd_ne _ _ n_b26_b3.ne.symm).trans ((updO_ne n_b11_b3).trans ((updO_ne n_b10_b3).trans ((upd_ne _ _ n_b9_b3.ne.symm).trans ((updO_ne n_b8_b3).trans ((updO_ne n_b7_b3).trans ((updO_ne n_b6_b3).trans ((updO_ne n_b5_b3).trans ((updO_ne n_b4_b3).trans (upd_same _ _ _)))))))))) (by first | rfl | (simp; done))) (LkO.there n_b26_b4 (LkO.thereO n_b11_b4.symm (LkO.thereO n_b10_b4.symm (LkO.there n_b9_b4 (LkO.thereO n_b8_b4.symm (LkO.thereO n_b7_b4.symm (LkO.thereO n_b6_b4.symm (LkO.thereO n_b5_b4.symm LkO.here)))))))) (by first | rfl | (simp; done))) (LkO.there n_b26_b5 (LkO.thereO n_b11_b5.symm (LkO.thereO n_b10_b5.symm (LkO.there n_b9_b5 (LkO.thereO n_b8_b5.symm (LkO.thereO n_b7_b5.symm (LkO.thereO n_b6_b5.symm LkO.here))))))) (by first | rfl | (simp; done))) (LkO.there n_b26_b6 (LkO.thereO n_b11_b6.symm (LkO.thereO n_b10_b6.symm (LkO.there n_b9_b6 (LkO.thereO n_b8_b6.symm (LkO.thereO n_b7_b6.symm LkO.here)))))) (by first | rfl | (simp; done))) (LkO.there n_b26_b7 (LkO.thereO n_b11_b7.symm (LkO.thereO n_b10_b7.symm (LkO.there n_b9_b7 (LkO.thereO n_b8_b7.symm LkO.here))))) (by first | rfl | (simp; done))) (LkO.there n_b26_b8 (LkO.thereO n_b11_b8.symm (LkO.thereO n_b10_b8.symm (LkO.there n_b9_b8 LkO.here)))) (by first | rfl | (simp; done))) ((upd_ne _ _ n_b26_b9.ne.symm).trans ((updO_ne n_b11_b9).trans ((updO_ne n_b10_b9).trans (upd_same _ _ _)))) (by first | rfl | (simp; done))) (LkO.there n_b26_b10 (LkO.thereO n_b11_b10.symm LkO.here)) (by first | rfl | (simp; done))) (LkO.there n_b26_b11 LkO.here) (by first | rfl | (simp; done)))), ?_⟩
            have hq := Option.bind_eq_some_iff.1 hm; clear hm; obtain ⟨r39, hr39, hm⟩ := hq
            have hd3 : Del (upd (updO (updO (upd (updO (updO (updO (updO (updO (upd (updO (updO (h) b1 (.own 2 (ints .i64 r2.2.2.1) (cap_b1 * 1))) b2 (.own 2 (ints .i64 r2.2.2.2) (cap_b2 * 1))) b3 (.own 28 (sqC r2.1) 101)) b4 (.own 2 (ints .i64 r3.1) (cap_b4 * 1))) b5 (.own 2 (ints .i64 r4.1) (cap_b5 * 1))) b6 (.own 2 (ints .i64 r6.1) (cap_b6 * 1))) b7 (.own 2 (ints .i64 r7.1) (cap_b7 * 1))) b8 (.own 2 (ints .i64 r9.2.2.1) (cap_b8 * 1))) b9 (.own 28 (sqC r9.1) 101)) b10 (.own 2 (ints .i64 r10.1) (cap_b10 * 1))) b11 (.own 2 (ints .i64 r11.1) (cap_b11 * 1))) b26 (.own 60 (srcC A0 l0.length c0 r38) 3)) b26 (.own 60 (srcC A0 l0.length c0 r38) 3) (updO (updO (upd (updO (updO (updO (updO (updO (upd (updO (updO (h) b1 (.own 2 (ints .i64 r2.2.2.1) (cap_b1 * 1))) b2 (.own 2 (ints .i64 r2.2.2.2) (cap_b2 * 1))) b3 (.own 28 (sqC r2.1) 101)) b4 (.own 2 (ints .i64 r3.1) (cap_b4 * 1))) b5 (.own 2 (ints .i64 r4.1) (cap_b5 * 1))) b6 (.own 2 (ints .i64 r6.1) (cap_b6 * 1))) b7 (.own 2 (ints .i64 r7.1) (cap_b7 * 1))) b8 (.own 2 (ints .i64 r9.2.2.1) (cap_b8 * 1))) b9 (.own 28 (sqC r9.1) 101)) b10 (.own 2 (ints .i64 r10.1) (cap_b10 * 1))) b11 (.own 2 (ints .i64 r11.1) (cap_b11 * 1))) := (Del.here (none_updO n_b26_b11 (none_updO n_b26_b10 (none_upd n_b26_b9.ne (none_updO n_b26_b8 (none_updO n_b26_b7 (none_updO n_b26_b6 (none_updO n_b26_b5 (none_updO n_b26_b4 (none_upd n_b26_b3.ne (none_updO n_b26_b2 (none_updO n_b26_b1 hb26))))))))))))
            refine DW.call 5 _ _ rfl (by kernel_rfl) rfl rfl (EO.fn rfl Try.func16 rfl rfl (Evs.cons rfl (Evs.cons rfl (Evs.cons rfl Evs.nil)))) (CC.mono (CC.atLe (c_laws_sum9 (h := updO (updO (upd (updO (updO (updO (updO (updO (upd (updO (updO (h) b1 (.own 2 (ints .i64 r2.2.2.1) (cap_b1 * 1))) b2 (.own 2 (ints .i64 r2.2.2.2) (cap_b2 * 1))) b3 (.own 28 (sqC r2.1) 101)) b4 (.own 2 (ints .i64 r3.1) (cap_b4 * 1))) b5 (.own 2 (ints .i64 r4.1) (cap_b5 * 1))) b6 (.own 2 (ints .i64 r6.1) (cap_b6 * 1))) b7 (.own 2 (ints .i64 r7.1) (cap_b7 * 1))) b8 (.own 2 (ints .i64 r9.2.2.1) (cap_b8 * 1))) b9 (.own 28 (sqC r9.1) 101)) b10 (.own 2 (ints .i64 r10.1) (cap_b10 * 1))) b11 (.own 2 (ints .i64 r11.1) (cap_b11 * 1))) hr39 (RdS.le hs0 (Le.underO (Le.underO (Le.under (Le.underO (Le.underO (Le.underO (Le.underO (Le.underO (Le.under (Le.underO (Le.underO (Le.refl _) hb1) hb2) hb3) hb4) hb5) hb6) hb7) hb8) hb9) hb10) hb11)) hd3.none) hd3.le) ?_)
            rintro _ _ ⟨b27, cap_b27, hb27, hk_b27, hc_b27, rfl, rfl⟩
            simp only [upd_noneA, updO_noneA, famH_noneA] at hb27
            obtain ⟨n_b27_b26, n_b27_b11, n_b27_b10, n_b27_b9, n_b27_b8, n_b27_b7, n_b27_b6, n_b27_b5, n_b27_b4, n_b27_b3, n_b27_b2, n_b27_b1, hb27⟩ := hb27
            refine ⟨(fun _ => (Le.upd_leftO (Le.upd_leftO (Le.upd_left (Le.upd_leftO (Le.upd_leftO (Le.upd_leftO (Le.upd_leftO (Le.upd_leftO (Le.upd_left (Le.upd_leftO (Le.upd_leftO (Le.under (Le.under (Le.underO (Le.underO (Le.under (Le.underO (Le.underO (Le.underO (Le.underO (Le.underO (Le.under (Le.underO (Le.underO (Le.refl _) hb1) hb2) hb3) hb4) hb5) hb6) hb7) hb8) hb9) hb10) hb11) hb26) hb27) (LkO.there n_b27_b1 (LkO.there n_b26_b1 (LkO.thereO n_b11_b1.symm (LkO.thereO n_b10_b1.symm (LkO.there n_b9_b1 (LkO.thereO n_b8_b1.symm (LkO.thereO n_b7_b1.symm (LkO.thereO n_b6_b1.symm (LkO.thereO n_b5_b1.symm (LkO.thereO n_b4_b1.symm (LkO.there n_b3_b1 (LkO.thereO n_b2_b1.symm LkO.here)))))))))))) (by first | rfl | (simp; done))) (LkO.there n_b27_b2 (LkO.there n_b26_b2 (LkO.thereO n_b11_b2.symm (LkO.thereO n_b10_b2.symm (LkO.there n_b9_b2 (LkO.thereO n_b8_b2.symm (LkO.thereO n_b7_b2.symm (LkO.thereO n_b6_b2.symm (LkO.thereO n_b5_b2.symm (LkO.thereO n_b4_b2.symm (LkO.there n_b3_b2 LkO.here))))))))))) (by first | rfl | (simp; done))) ((upd_ne _ _ n_b27_b3.ne.symm).trans ((upd_ne _ _ n_b26_b3.ne.symm).trans ((updO_ne n_b11_b3).trans ((updO_ne n_b10_b3).trans ((upd_ne _ _ n_b9_b3.ne.symm).trans ((updO_ne n_b8_b3).trans ((updO_ne n_b7_b3).trans ((updO_ne n_b6_b3).trans ((updO_ne n_b5_b3).trans ((updO_ne n_b4_b3).trans (upd_same _ _ _))))))))))) (by first | rfl | (simp; done))) (LkO.there n_b27_b4 (LkO.there n_b26_b4 (LkO.thereO n_b11_b4.symm (LkO.thereO n_b10_b4.symm (LkO.there n_b9_b4 (LkO.thereO n_b8_b4.symm (LkO.thereO n_b7_b4.symm (LkO.thereO n_b6_b4.symm (LkO.thereO n_b5_b4.symm LkO.here))))))))) (by first | rfl | (simp; done))) (LkO.there n_b27_b5 (LkO.there n_b26_b5 (LkO.thereO n_b11_b5.symm (LkO.thereO n_b10_b5.symm (LkO.there n_b9_b5 (LkO.thereO n_b8_b5.symm (LkO.thereO n_b7_b5.symm (LkO.thereO n_b6_b5.symm LkO.here)))))))) (by first | rfl | (simp; done))) (LkO.there n_b27_b6 (LkO.there n_b26_b6 (LkO.thereO n_b11_b6.symm (LkO.thereO n_b10_b6.symm (LkO.there n_b9_b6 (LkO.thereO n_b8_b6.symm (LkO.thereO n_b7_b6.symm LkO.here))))))) (by first | rfl | (simp; done))) (LkO.there n_b27_b7 (LkO.there n_b26_b7 (LkO.thereO n_b11_b7.symm (LkO.thereO n_b10_b7.symm (LkO.there n_b9_b7 (LkO.thereO n_b8_b7.symm LkO.here)))))) (by first | rfl | (simp; done))) (LkO.there n_b27_b8 (LkO.there n_b26_b8 (LkO.thereO n_b11_b8.symm (LkO.thereO n_b10_b8.symm (LkO.there n_b9_b8 LkO.here))))) (by first | rfl | (simp; done))) ((upd_ne _ _ n_b27_b9.ne.symm).trans ((upd_ne _ _ n_b26_b9.ne.symm).trans ((updO_ne n_b11_b9).trans ((updO_ne n_b10_b9).trans (upd_same _ _ _))))) (by first | rfl | (simp; done))) (LkO.there n_b27_b10 (LkO.there n_b26_b10 (LkO.thereO n_b11_b10.symm LkO.here))) (by first | rfl | (simp; done))) (LkO.there n_b27_b11 (LkO.there n_b26_b11 LkO.here)) (by first | rfl | (simp; done)))), ?_⟩
            refine DW.pure' 6 _ rfl (by kernel_rfl) rfl (fun _ => QO.assign rfl rfl) ?_
            refine DW.done (by kernel_rfl) ?_ _
            refine thenA_n ?_
            refine wpA_seq ?_
            refine wpA_region ?_
            refine Ops_quiet _ rfl rfl (QO.loadRow (cs := sqC r2.1) (hr := (rdAll ((upd_ne _ _ n_b27_b3.ne.symm).trans ((upd_ne _ _ n_b26_b3.ne.symm).trans ((updO_ne n_b11_b3).trans ((updO_ne n_b10_b3).trans ((upd_ne _ _ n_b9_b3.ne.symm).trans ((updO_ne n_b8_b3).trans ((updO_ne n_b7_b3).trans ((updO_ne n_b6_b3).trans ((updO_ne n_b5_b3).trans ((updO_ne n_b4_b3).trans (upd_same _ _ _))))))))))))) rfl sz28 rfl rfl (sqC_length _)) ?_
            refine Ops_quiet _ rfl rfl (QO.move rfl rfl) ?_
            refine Ops_quiet _ rfl rfl (QO.move rfl rfl) ?_
            refine Ops_quiet _ rfl rfl (QO.move rfl rfl) ?_
            have hq := Option.bind_eq_some_iff.1 hm; clear hm; obtain ⟨r40, hr40, hm⟩ := hq
            refine Ops_call _ _ rfl rfl (EO.fn rfl Try.func6 rfl rfl (Evs.cons rfl (Evs.cons rfl (Evs.cons rfl (Evs.cons rfl Evs.nil))))) (CC.mono (c_impl_MultiplySums (l2 := r6.1) (A2 := adO b6) (c2 := cap_b6) (l3 := r39.1) (A3 := some ⟨b27, 0, none⟩) (c3 := cap_b27) hr40 (RdS.ownO (LkO.there n_b27_b6 (LkO.there n_b26_b6 (LkO.thereO n_b11_b6.symm (LkO.thereO n_b10_b6.symm (LkO.there n_b9_b6 (LkO.thereO n_b8_b6.symm (LkO.thereO n_b7_b6.symm LkO.here))))))) (fun e => congrArg (fun l => ints .i64 l) (ho_b6.nilL e))) (RdS.own (upd_same _ _ _))) ?_)
            rintro _ _ ⟨b28, cap_b28, hb28, ho_b28, rfl, rfl⟩
            simp only [frO_updA, frO_updOA, frO_famHA] at hb28
            obtain ⟨n_b28_b27, n_b28_b26, n_b28_b11, n_b28_b10, n_b28_b9, n_b28_b8, n_b28_b7, n_b28_b6, n_b28_b5, n_b28_b4, n_b28_b3, n_b28_b2, n_b28_b1, hb28⟩ := hb28
            refine Ops_quiet _ rfl rfl (QO.move rfl rfl) ?_
            refine Ops_quiet _ rfl rfl (QO.extract rfl rfl rfl) ?_
            refine Ops_quiet _ rfl rfl (QO.extract rfl rfl rfl) ?_
            refine Ops_quiet _ rfl rfl (QO.assign rfl rfl) ?_
            refine Ops_quiet _ rfl rfl (QO.assign rfl rfl) ?_
            refine Ops_nil ?_
            refine thenA_n ?_
            refine wpA_seq ?_
            refine wpA_region ?_
            refine Ops_quiet _ rfl rfl (QO.loadRow (cs := sqC r2.1) (hr := (rdAll ((updO_ne n_b28_b3).trans ((upd_ne _ _ n_b27_b3.ne.symm).trans ((upd_ne _ _ n_b26_b3.ne.symm).trans ((updO_ne n_b11_b3).trans ((updO_ne n_b10_b3).trans ((upd_ne _ _ n_b9_b3.ne.symm).trans ((updO_ne n_b8_b3).trans ((updO_ne n_b7_b3).trans ((updO_ne n_b6_b3).trans ((updO_ne n_b5_b3).trans ((updO_ne n_b4_b3).trans (upd_same _ _ _)))))))))))))) rfl sz28 rfl rfl (sqC_length _)) ?_
            refine Ops_quiet _ rfl rfl (QO.move rfl rfl) ?_
            refine Ops_quiet _ rfl rfl (QO.move rfl rfl) ?_
            refine Ops_quiet _ rfl rfl (QO.move rfl rfl) ?_
            have hq := Option.bind_eq_some_iff.1 hm; clear hm; obtain ⟨r41, hr41, hm⟩ := hq
            refine Ops_call _ _ rfl rfl (EO.fn rfl Try.func6 rfl rfl (Evs.cons rfl (Evs.cons rfl (Evs.cons rfl (Evs.cons rfl Evs.nil))))) (CC.mono (c_impl_MultiplySums (l2 := r2.2.2.1) (A2 := adO b1) (c2 := cap_b1) (l3 := r39.1) (A3 := some ⟨b27, 0, none⟩) (c3 := cap_b27) hr41 (RdS.ownO (LkO.thereO n_b28_b1.symm (LkO.there n_b27_b1 (LkO.there n_b26_b1 (LkO.thereO n_b11_b1.symm (LkO.thereO n_b10_b1.symm (LkO.there n_b9_b1 (LkO.thereO n_b8_b1.symm (LkO.thereO n_b7_b1.symm (LkO.thereO n_b6_b1.symm (LkO.thereO n_b5_b1.symm (LkO.thereO n_b4_b1.symm (LkO.there n_b3_b1 (LkO.thereO n_b2_b1.symm LkO.here))))))))))))) (fun e => congrArg (fun l => ints .i64 l) (ho_b1.nilL e))) (RdS.own ((updO_ne n_b28_b27).trans (upd_same _ _ _)))) ?_)
            rintro _ _ ⟨b29, cap_b29, hb29, ho_b29, rfl, rfl⟩
            simp only [frO_updA, frO_updOA, frO_famHA] at hb29
            obtain ⟨n_b29_b28, n_b29_b27, n_b29_b26, n_b29_b11, n_b29_b10, n_b29_b9, n_b29_b8, n_b29_b7, n_b29_b6, n_b29_b5, n_b29_b4, n_b29_b3, n_b29_b2, n_b29_b1, hb29⟩ := hb29
            refine Ops_quiet _ rfl rfl (QO.move rfl rfl) ?_
            refine Ops_quiet _ rfl rfl (QO.extract rfl rfl rfl) ?_
            refine Ops_quiet _ rfl rfl (QO.extract rfl rfl rfl) ?_
            refine Ops_quiet _ rfl rfl (QO.assign rfl rfl) ?_
            refine Ops_quiet _ rfl rfl (QO.assign rfl rfl) ?_
            refine Ops_nil ?_
            refine thenA_n ?_
            refine wpA_seq ?_
            refine wpA_region ?_
            refine Ops_quiet _ rfl rfl (QO.loadRow (cs := sqC r2.1) (hr := (rdAll ((updO_ne n_b29_b3).trans ((updO_ne n_b28_b3).trans ((upd_ne _ _ n_b27_b3.ne.symm).trans ((upd_ne _ _ n_b26_b3.ne.symm).trans ((updO_ne n_b11_b3).trans ((updO_ne n_b10_b3).trans ((upd_ne _ _ n_b9_b3.ne.symm).trans ((updO_ne n_b8_b3).trans ((updO_ne n_b7_b3).trans ((updO_ne n_b6_b3).trans ((updO_ne n_b5_b3).trans ((updO_ne n_b4_b3).trans (upd_same _ _ _))))))))))))))) rfl sz28 rfl rfl (sqC_length _)) ?_
            refine Ops_quiet _ rfl rfl (QO.move rfl rfl) ?_
            refine Ops_quiet _ rfl rfl (QO.move rfl rfl) ?_
            refine Ops_quiet _ rfl rfl (QO.move rfl rfl) ?_
            have hq := Option.bind_eq_some_iff.1 hm; clear hm; obtain ⟨r42, hr42, hm⟩ := hq
            refine Ops_call _ _ rfl rfl (EO.fn rfl Try.func6 rfl rfl (Evs.cons rfl (Evs.cons rfl (Evs.cons rfl (Evs.cons rfl Evs.nil))))) (CC.mono (c_impl_MultiplySums (l2 := r2.2.2.2) (A2 := adO b2) (c2 := cap_b2) (l3 := r39.1) (A3 := some ⟨b27, 0, none⟩) (c3 := cap_b27) hr42 (RdS.ownO (LkO.thereO n_b29_b2.symm (LkO.thereO n_b28_b2.symm (LkO.there n_b27_b2 (LkO.there n_b26_b2 (LkO.thereO n_b11_b2.symm (LkO.thereO n_b10_b2.symm (LkO.there n_b9_b2 (LkO.thereO n_b8_b2.symm (LkO.thereO n_b7_b2.symm (LkO.thereO n_b6_b2.symm (LkO.thereO n_b5_b2.symm (LkO.thereO n_b4_b2.symm (LkO.there n_b3_b2 LkO.here))))))))))))) (fun e => congrArg (fun l => ints .i64 l) (ho_b2.nilL e))) (RdS.own ((updO_ne n_b29_b27).trans ((updO_ne n_b28_b27).trans (upd_same _ _ _))))) ?_)
            rintro _ _ ⟨b30, cap_b30, hb30, ho_b30, rfl, rfl⟩
            simp only [frO_updA, frO_updOA, frO_famHA] at hb30
            obtain ⟨n_b30_b29, n_b30_b28, n_b30_b27, n_b30_b26, n_b30_b11, n_b30_b10, n_b30_b9, n_b30_b8, n_b30_b7, n_b30_b6, n_b30_b5, n_b30_b4, n_b30_b3, n_b30_b2, n_b30_b1, hb30⟩ := hb30
            refine Ops_quiet _ rfl rfl (QO.move rfl rfl) ?_
            refine Ops_quiet _ rfl rfl (QO.extract rfl rfl rfl) ?_
            refine Ops_quiet _ rfl rfl (QO.extract rfl rfl rfl) ?_
            refine Ops_quiet _ rfl rfl (QO.assign rfl rfl) ?_
            refine Ops_quiet _ rfl rfl (QO.assign rfl rfl) ?_
            refine Ops_nil ?_
            refine thenA_n ?_
            refine wpA_seq ?_
            refine wpA_region ?_
            refine Ops_quiet _ rfl rfl (QO.loadRow (cs := sqC r2.1) (hr := (rdAll ((updO_ne n_b30_b3).trans ((updO_ne n_b29_b3).trans ((updO_ne n_b28_b3).trans ((upd_ne _ _ n_b27_b3.ne.symm).trans ((upd_ne _ _ n_b26_b3.ne.symm).trans ((updO_ne n_b11_b3).trans ((updO_ne n_b10_b3).trans ((upd_ne _ _ n_b9_b3.ne.symm).trans ((updO_ne n_b8_b3).trans ((updO_ne n_b7_b3).trans ((updO_ne n_b6_b3).trans ((updO_ne n_b5_b3).trans ((updO_ne n_b4_b3).trans (upd_same _ _ _)))))))))))))))) rfl sz28 rfl rfl (sqC_length _)) ?_
            refine Ops_quiet _ rfl rfl (QO.move rfl rfl) ?_
            refine Ops_quiet _ rfl rfl (QO.move rfl rfl) ?_
            refine Ops_quiet _ rfl rfl (QO.move rfl rfl) ?_
            have hq := Option.bind_eq_some_iff.1 hm; clear hm; obtain ⟨r43, hr43, hm⟩ := hq
            refine Ops_call _ _ rfl rfl (EO.fn rfl Try.func9 rfl rfl (Evs.cons rfl (Evs.cons rfl (Evs.cons rfl (Evs.cons rfl Evs.nil))))) (CC.mono (c_impl_AddSums (l2 := r41.1) (A2 := adO b29) (c2 := cap_b29) (l3 := r42.1) (A3 := adO b30) (c3 := cap_b30) hr43 (RdS.ownO (LkO.thereO n_b30_b29.symm LkO.here) (fun e => congrArg (fun l => ints .i64 l) (ho_b29.nilL e))) (RdS.ownO LkO.here (fun e => congrArg (fun l => ints .i64 l) (ho_b30.nilL e)))) ?_)
            rintro _ _ ⟨b31, cap_b31, hb31, ho_b31, rfl, rfl⟩
            simp only [frO_updA, frO_updOA, frO_famHA] at hb31
            obtain ⟨n_b31_b30, n_b31_b29, n_b31_b28, n_b31_b27, n_b31_b26, n_b31_b11, n_b31_b10, n_b31_b9, n_b31_b8, n_b31_b7, n_b31_b6, n_b31_b5, n_b31_b4, n_b31_b3, n_b31_b2, n_b31_b1, hb31⟩ := hb31
            refine Ops_quiet _ rfl rfl (QO.move rfl rfl) ?_
            refine Ops_quiet _ rfl rfl (QO.extract rfl rfl rfl) ?_
            refine Ops_quiet _ rfl rfl (QO.extract rfl rfl rfl) ?_
            refine Ops_quiet _ rfl rfl (QO.assign rfl rfl) ?_
            refine Ops_quiet _ rfl rfl (QO.assign rfl rfl) ?_
            refine Ops_nil ?_
            refine thenA_n ?_
            refine wpA_seq ?_
            refine wpA_region ?_
            refine Ops_quiet _ rfl rfl (QO.move rfl rfl) ?_
            refine Ops_quiet _ rfl rfl (QO.bin rfl rfl rfl rfl) ?_
            refine Ops_quiet _ rfl rfl (QO.move rfl rfl) ?_
            refine Ops_case 251 rfl (fun g32 => ?_) (fun g32 => ?_)
            ·replace hm := cond_t hm g32
             refine Ops_quiet _ rfl rfl (QO.move rfl rfl) ?_
             refine Ops_quiet _ rfl rfl (QO.bin rfl rfl rfl rfl) ?_
             refine Ops_quiet _ rfl rfl (QO.pick_t rfl rfl rfl) ?_
             refine Ops_quiet _ rfl rfl (QO.move rfl rfl) ?_
             refine Ops_case 255 rfl (fun g33 => ?_) (fun g33 => ?_)
             ·replace hm := cond_t hm g33
              refine Ops_quiet _ rfl rfl (QO.move rfl rfl) ?_
              refine Ops_quiet _ rfl rfl (QO.move rfl rfl) ?_
              refine Ops_quiet _ rfl rfl (QO.move rfl rfl) ?_
              refine Ops_quiet _ rfl rfl (QO.bin rfl rfl rfl rfl) ?_
              refine Ops_quiet _ rfl rfl (QO.move rfl rfl) ?_
              have hq := chk hm; clear hm; obtain ⟨ck3, hm⟩ := hq
              refine Ops_quiet _ rfl rfl (QO.rem rfl rfl rfl (by first | assumption | omega)) ?_
              refine Ops_quiet _ rfl rfl (QO.bin rfl rfl rfl rfl) ?_
              refine Ops_quiet _ rfl rfl (QO.pick_t rfl rfl rfl) ?_
              refine Ops_quiet _ rfl rfl (QO.move rfl rfl) ?_
              refine Ops_case 264 rfl (fun g34 => ?_) (fun g34 => ?_)
              ·replace hm := cond_t hm g34
               refine Ops_quiet _ rfl rfl (QO.move rfl rfl) ?_
               refine Ops_quiet _ rfl rfl (QO.bin rfl rfl rfl rfl) ?_
               refine Ops_quiet _ rfl rfl (QO.pick_t rfl rfl rfl) ?_
               refine Ops_quiet _ rfl rfl (QO.move rfl rfl) ?_
               refine Ops_case 268 rfl (fun g35 => ?_) (fun g35 => ?_)
               ·replace hm := cond_t hm g35
                refine Ops_quiet _ rfl rfl (QO.move rfl rfl) ?_
                refine Ops_quiet _ rfl rfl (QO.bin rfl rfl rfl rfl) ?_
                refine Ops_quiet _ rfl rfl (QO.pick_t rfl rfl rfl) ?_
                refine Ops_quiet _ rfl rfl (QO.move rfl rfl) ?_
                refine Ops_case 272 rfl (fun g36 => ?_) (fun g36 => ?_)
                ·replace hm := cond_t hm g36
                 refine Ops_quiet _ rfl rfl (QO.move rfl rfl) ?_
                 refine Ops_quiet _ rfl rfl (QO.bin rfl rfl rfl rfl) ?_
                 refine Ops_quiet _ rfl rfl (QO.pick_t rfl rfl rfl) ?_
                 refine Ops_quiet _ rfl rfl (QO.move rfl rfl) ?_
                 refine Ops_case 276 rfl (fun g37 => ?_) (fun g37 => ?_)
                 ·replace hm := cond_t hm g37
                  refine Ops_quiet _ rfl rfl (QO.move rfl rfl) ?_
                  refine Ops_quiet _ rfl rfl (QO.bin rfl rfl rfl rfl) ?_
                  refine Ops_quiet _ rfl rfl (QO.pick_t rfl rfl rfl) ?_
                  refine Ops_quiet _ rfl rfl (QO.move rfl rfl) ?_
                  refine Ops_case 280 rfl (fun g38 => ?_) (fun g38 => ?_)
                  ·replace hm := cond_t hm g38
                   refine Ops_quiet _ rfl rfl (QO.move rfl rfl) ?_
                   refine Ops_quiet _ rfl rfl (QO.move rfl rfl) ?_
                   have hq := Option.bind_eq_some_iff.1 hm; clear hm; obtain ⟨r44, hr44, hm⟩ := hq
                   refine Ops_call _ _ rfl rfl (EO.fn rfl Try.func8 rfl rfl (Evs.cons rfl (Evs.cons rfl Evs.nil))) (QC.cc (c_laws_likeInts (l0 := r40.1) (A0 := adO b28) (c0 := cap_b28) (l1 := r43.1) (A1 := adO b31) (c1 := cap_b31) hr44 (RdS.ownO (LkO.thereO n_b31_b28.symm (LkO.thereO n_b30_b28.symm (LkO.thereO n_b29_b28.symm LkO.here))) (fun e => congrArg (fun l => ints .i64 l) (ho_b28.nilL e))) (RdS.ownO LkO.here (fun e => congrArg (fun l => ints .i64 l) (ho_b31.nilL e)))) ?_)
                   refine Ops_quiet _ rfl rfl (QO.pick_t rfl rfl rfl) ?_
                   refine Ops_quiet _ rfl rfl (QO.assign rfl rfl) ?_
                   refine Ops_nil ?_
                   refine thenA_n ?_
                   refine wpA_ret ?_
                   obtain rfl := Option.some.inj hm
                   exact retA_r (h2 := h) (Res.one rfl (rfl)) (Le.underO (Le.underO (Le.underO (Le.underO (Le.under (Le.under (Le.underO (Le.underO (Le.under (Le.underO (Le.underO (Le.underO (Le.underO (Le.underO (Le.under (Le.underO (Le.underO (Le.refl _) hb1) hb2) hb3) hb4) hb5) hb6) hb7) hb8) hb9) hb10) hb11) hb26) hb27) hb28) hb29) hb30) hb31) ⟨rfl, rfl⟩
                  ·replace hm := cond_f hm g38
                   refine Ops_skip rfl rfl ?_
                   refine Ops_skip rfl rfl ?_
                   refine Ops_skip rfl rfl ?_
                   refine Ops_quiet _ rfl rfl (QO.pick_f rfl rfl rfl) ?_
                   refine Ops_quiet _ rfl rfl (QO.assign rfl rfl) ?_
                   refine Ops_nil ?_
                   refine thenA_n ?_
                   refine wpA_ret ?_
                   obtain rfl := Option.some.inj hm
                   exact retA_r (h2 := h) (Res.one rfl (rfl)) (Le.underO (Le.underO (Le.underO (Le.underO (Le.under (Le.under (Le.underO (Le.underO (Le.under (Le.underO (Le.underO (Le.underO (Le.underO (Le.underO (Le.under (Le.underO (Le.underO (Le.refl _) hb1) hb2) hb3) hb4) hb5) hb6) hb7) hb8) hb9) hb10) hb11) hb26) hb27) hb28) hb29) hb30) hb31) ⟨rfl, rfl⟩
                 ·replace hm := cond_f hm g37
                  refine Ops_skip rfl rfl ?_
                  refine Ops_skip rfl rfl ?_
                  refine Ops_quiet _ rfl rfl (QO.pick_f rfl rfl rfl) ?_
                  refine Ops_quiet _ rfl rfl (QO.move rfl rfl) ?_
                  refine Ops_skip rfl rfl ?_
                  refine Ops_skip rfl rfl ?_
                  refine Ops_skip rfl rfl ?_
                  refine Ops_quiet _ rfl rfl (QO.pick_f rfl rfl rfl) ?_
                  refine Ops_quiet _ rfl rfl (QO.assign rfl rfl) ?_
                  refine Ops_nil ?_
                  refine thenA_n ?_
                  refine wpA_ret ?_
                  obtain rfl := Option.some.inj hm
                  exact retA_r (h2 := h) (Res.one rfl (rfl)) (Le.underO (Le.underO (Le.underO (Le.underO (Le.under (Le.under (Le.underO (Le.underO (Le.under (Le.underO (Le.underO (Le.underO (Le.underO (Le.underO (Le.under (Le.underO (Le.underO (Le.refl _) hb1) hb2) hb3) hb4) hb5) hb6) hb7) hb8) hb9) hb10) hb11) hb26) hb27) hb28) hb29) hb30) hb31) ⟨rfl, rfl⟩
                ·replace hm := cond_f hm g36
                 refine Ops_skip rfl rfl ?_
                 refine Ops_skip rfl rfl ?_
                 refine Ops_quiet _ rfl rfl (QO.pick_f rfl rfl rfl) ?_
                 refine Ops_quiet _ rfl rfl (QO.move rfl rfl) ?_
                 refine Ops_skip rfl rfl ?_
                 refine Ops_skip rfl rfl ?_
                 refine Ops_quiet _ rfl rfl (QO.pick_f rfl rfl rfl) ?_
                 refine Ops_quiet _ rfl rfl (QO.move rfl rfl) ?_
                 refine Ops_skip rfl rfl ?_
                 refine Ops_skip rfl rfl ?_
                 refine Ops_skip rfl rfl ?_
                 refine Ops_quiet _ rfl rfl (QO.pick_f rfl rfl rfl) ?_
                 refine Ops_quiet _ rfl rfl (QO.assign rfl rfl) ?_
                 refine Ops_nil ?_
                 refine thenA_n ?_
                 refine wpA_ret ?_
                 obtain rfl := Option.some.inj hm
                 exact retA_r (h2 := h) (Res.one rfl (rfl)) (Le.underO (Le.underO (Le.underO (Le.underO (Le.under (Le.under (Le.underO (Le.underO (Le.under (Le.underO (Le.underO (Le.underO (Le.underO (Le.underO (Le.under (Le.underO (Le.underO (Le.refl _) hb1) hb2) hb3) hb4) hb5) hb6) hb7) hb8) hb9) hb10) hb11) hb26) hb27) hb28) hb29) hb30) hb31) ⟨rfl, rfl⟩
               ·replace hm := cond_f hm g35
                refine Ops_skip rfl rfl ?_
                refine Ops_skip rfl rfl ?_
                refine Ops_quiet _ rfl rfl (QO.pick_f rfl rfl rfl) ?_
                refine Ops_quiet _ rfl rfl (QO.move rfl rfl) ?_
                refine Ops_skip rfl rfl ?_
                refine Ops_skip rfl rfl ?_
                refine Ops_quiet _ rfl rfl (QO.pick_f rfl rfl rfl) ?_
                refine Ops_quiet _ rfl rfl (QO.move rfl rfl) ?_
                refine Ops_skip rfl rfl ?_
                refine Ops_skip rfl rfl ?_
                refine Ops_quiet _ rfl rfl (QO.pick_f rfl rfl rfl) ?_
                refine Ops_quiet _ rfl rfl (QO.move rfl rfl) ?_
                refine Ops_skip rfl rfl ?_
                refine Ops_skip rfl rfl ?_
                refine Ops_skip rfl rfl ?_
                refine Ops_quiet _ rfl rfl (QO.pick_f rfl rfl rfl) ?_
                refine Ops_quiet _ rfl rfl (QO.assign rfl rfl) ?_
                refine Ops_nil ?_
                refine thenA_n ?_
                refine wpA_ret ?_
                obtain rfl := Option.some.inj hm
                exact retA_r (h2 := h) (Res.one rfl (rfl)) (Le.underO (Le.underO (Le.underO (Le.underO (Le.under (Le.under (Le.underO (Le.underO (Le.under (Le.underO (Le.underO (Le.underO (Le.underO (Le.underO (Le.under (Le.underO (Le.underO (Le.refl _) hb1) hb2) hb3) hb4) hb5) hb6) hb7) hb8) hb9) hb10) hb11) hb26) hb27) hb28) hb29) hb30) hb31) ⟨rfl, rfl⟩
              ·replace hm := cond_f hm g34
               refine Ops_skip rfl rfl ?_
               refine Ops_skip rfl rfl ?_
               refine Ops_quiet _ rfl rfl (QO.pick_f rfl rfl rfl) ?_
               refine Ops_quiet _ rfl rfl (QO.move rfl rfl) ?_
               refine Ops_skip rfl rfl ?_
               refine Ops_skip rfl rfl ?_
               refine Ops_quiet _ rfl rfl (QO.pick_f rfl rfl rfl) ?_
               refine Ops_quiet _ rfl rfl (QO.move rfl rfl) ?_
               refine Ops_skip rfl rfl ?_
               refine Ops_skip rfl rfl ?_
               refine Ops_quiet _ rfl rfl (QO.pick_f rfl rfl rfl) ?_
               refine Ops_quiet _ rfl rfl (QO.move rfl rfl) ?_
               refine Ops_skip rfl rfl ?_
               refine Ops_skip rfl rfl ?_
               refine Ops_quiet _ rfl rfl (QO.pick_f rfl rfl rfl) ?_
               refine Ops_quiet _ rfl rfl (QO.move rfl rfl) ?_
               refine Ops_skip rfl rfl ?_
               refine Ops_skip rfl rfl ?_
               refine Ops_skip rfl rfl ?_
               refine Ops_quiet _ rfl rfl (QO.pick_f rfl rfl rfl) ?_
               refine Ops_quiet _ rfl rfl (QO.assign rfl rfl) ?_
               refine Ops_nil ?_
               refine thenA_n ?_
               refine wpA_ret ?_
               obtain rfl := Option.some.inj hm
               exact retA_r (h2 := h) (Res.one rfl (rfl)) (Le.underO (Le.underO (Le.underO (Le.underO (Le.under (Le.under (Le.underO (Le.underO (Le.under (Le.underO (Le.underO (Le.underO (Le.underO (Le.underO (Le.under (Le.underO (Le.underO (Le.refl _) hb1) hb2) hb3) hb4) hb5) hb6) hb7) hb8) hb9) hb10) hb11) hb26) hb27) hb28) hb29) hb30) hb31) ⟨rfl, rfl⟩
             ·replace hm := cond_f hm g33
              refine Ops_skip rfl rfl ?_
              refine Ops_skip rfl rfl ?_
              refine Ops_skip rfl rfl ?_
              refine Ops_skip rfl rfl ?_
              refine Ops_skip rfl rfl ?_
              refine Ops_skip rfl rfl ?_
              refine Ops_skip rfl rfl ?_
              refine Ops_quiet _ rfl rfl (QO.pick_f rfl rfl rfl) ?_
              refine Ops_quiet _ rfl rfl (QO.move rfl rfl) ?_
              refine Ops_skip rfl rfl ?_
              refine Ops_skip rfl rfl ?_
              refine Ops_quiet _ rfl rfl (QO.pick_f rfl rfl rfl) ?_
              refine Ops_quiet _ rfl rfl (QO.move rfl rfl) ?_
              refine Ops_skip rfl rfl ?_
              refine Ops_skip rfl rfl ?_
              refine Ops_quiet _ rfl rfl (QO.pick_f rfl rfl rfl) ?_
              refine Ops_quiet _ rfl rfl (QO.move rfl rfl) ?_
              refine Ops_skip rfl rfl ?_
              refine Ops_skip rfl rfl ?_
              refine Ops_quiet _ rfl rfl (QO.pick_f rfl rfl rfl) ?_
              refine Ops_quiet _ rfl rfl (QO.move rfl rfl) ?_
              refine Ops_skip rfl rfl ?_
              refine Ops_skip rfl rfl ?_
              refine Ops_quiet _ rfl rfl (QO.pick_f rfl rfl rfl) ?_
              refine Ops_quiet _ rfl rfl (QO.move rfl rfl) ?_
              refine Ops_skip rfl rfl ?_
              refine Ops_skip rfl rfl ?_
              refine Ops_skip rfl rfl ?_
              refine Ops_quiet _ rfl rfl (QO.pick_f rfl rfl rfl) ?_
              refine Ops_quiet _ rfl rfl (QO.assign rfl rfl) ?_
              refine Ops_nil ?_
              refine thenA_n ?_
              refine wpA_ret ?_
              obtain rfl := Option.some.inj hm
              exact retA_r (h2 := h) (Res.one rfl (rfl)) (Le.underO (Le.underO (Le.underO (Le.underO (Le.under (Le.under (Le.underO (Le.underO (Le.under (Le.underO (Le.underO (Le.underO (Le.underO (Le.underO (Le.under (Le.underO (Le.underO (Le.refl _) hb1) hb2) hb3) hb4) hb5) hb6) hb7) hb8) hb9) hb10) hb11) hb26) hb27) hb28) hb29) hb30) hb31) ⟨rfl, rfl⟩
            ·replace hm := cond_f hm g32
             refine Ops_skip rfl rfl ?_
             refine Ops_skip rfl rfl ?_
             refine Ops_quiet _ rfl rfl (QO.pick_f rfl rfl rfl) ?_
             refine Ops_quiet _ rfl rfl (QO.move rfl rfl) ?_
             refine Ops_skip rfl rfl ?_
             refine Ops_skip rfl rfl ?_
             refine Ops_skip rfl rfl ?_
             refine Ops_skip rfl rfl ?_
             refine Ops_skip rfl rfl ?_
             refine Ops_skip rfl rfl ?_
             refine Ops_skip rfl rfl ?_
             refine Ops_quiet _ rfl rfl (QO.pick_f rfl rfl rfl) ?_
             refine Ops_quiet _ rfl rfl (QO.move rfl rfl) ?_
             refine Ops_skip rfl rfl ?_
             refine Ops_skip rfl rfl ?_
             refine Ops_quiet _ rfl rfl (QO.pick_f rfl rfl rfl) ?_
             refine Ops_quiet _ rfl rfl (QO.move rfl rfl) ?_
             refine Ops_skip rfl rfl ?_
             refine Ops_skip rfl rfl ?_
             refine Ops_quiet _ rfl rfl (QO.pick_f rfl rfl rfl) ?_
             refine Ops_quiet _ rfl rfl (QO.move rfl rfl) ?_
             refine Ops_skip rfl rfl ?_
             refine Ops_skip rfl rfl ?_
             refine Ops_quiet _ rfl rfl (QO.pick_f rfl rfl rfl) ?_
             refine Ops_quiet _ rfl rfl (QO.move rfl rfl) ?_
             refine Ops_skip rfl rfl ?_
             refine Ops_skip rfl rfl ?_
             refine Ops_quiet _ rfl rfl (QO.pick_f rfl rfl rfl) ?_
             refine Ops_quiet _ rfl rfl (QO.move rfl rfl) ?_
             refine Ops_skip rfl rfl ?_
             refine Ops_skip rfl rfl ?_
             refine Ops_skip rfl rfl ?_
             refine Ops_quiet _ rfl rfl (QO.pick_f rfl rfl rfl) ?_
             refine Ops_quiet _ rfl rfl (QO.assign rfl rfl) ?_
             refine Ops_nil ?_
             refine thenA_n ?_
             refine wpA_ret ?_
             obtain rfl := Option.some.inj hm
             exact retA_r (h2 := h) (Res.one rfl (rfl)) (Le.underO (Le.underO (Le.underO (Le.underO (Le.under (Le.under (Le.underO (Le.underO (Le.under (Le.underO (Le.underO (Le.underO (Le.underO (Le.underO (Le.under (Le.underO (Le.underO (Le.refl _) hb1) hb2) hb3) hb4) hb5) hb6) hb7) hb8) hb9) hb10) hb11) hb26) hb27) hb28) hb29) hb30) hb31) ⟨rfl, rfl⟩
end Go.Lab
