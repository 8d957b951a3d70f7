/- The walks: each function computes what its model tells. -/
import Derived.Test.YthhgemlaiekjpaaW3
set_option linter.unusedVariables false
set_option linter.unusedSimpArgs false
namespace Go.Lab
open Go Go.Abs Go.Proofs
set_option maxRecDepth 20000
set_option linter.unusedVariables false
set_option linter.unusedSimpArgs false
/-! loop.example/g01195/laws.FnTripleIsotopes -/
theorem c_laws_FnTripleIsotopes {l0 : (List Int)} {A0 : Option Addr} {c0 : Nat} {h : Hp} {r : Bool} (hm : m_laws_FnTripleIsotopes l0 = some r) (hs0 : RdS h A0 (ints .u8 l0)) :
    QC Try.prog 3 #[.slice A0 l0.length c0] h (.bool r) := by
 unfold m_laws_FnTripleIsotopes at hm
 refine CC.enter Try.func3 rfl Try.ntmps3 rfl ?_
 refine wpA_seq ?_
 refine wpA_region ?_
 refine Ops_quiet _ rfl rfl (QO.assign rfl rfl) ?_
 refine Ops_nil ?_
 refine thenA_n ?_
 refine wpA_seq ?_
 refine wpA_seq ?_
 refine wpA_region ?_
 refine Ops_quiet _ rfl rfl (QO.move rfl rfl) ?_
 have hq := Option.bind_eq_some_iff.1 hm; clear hm; obtain ⟨r1, hr1, hm⟩ := hq
 refine Ops_call _ _ rfl rfl (EO.fn rfl Try.func4 rfl rfl (Evs.cons rfl Evs.nil)) (QC.cc (c_laws_big (l0 := l0) (A0 := A0) (c0 := c0) hr1 (RdS.le hs0 (Le.refl _))) ?_)
 refine Ops_nil ?_
 refine thenA_n ?_
 refine wpA_cond rfl (fun g1 => ?_) (fun g1 => ?_)
 ·replace hm := cond_t hm g1
  refine wpA_seq ?_
  refine wpA_region ?_
  refine Ops_quiet _ rfl rfl (QO.assign rfl rfl) ?_
  refine Ops_nil ?_
  refine thenA_n ?_
  refine wpA_ret ?_
  refine thenA_r ?_
  obtain rfl := Option.some.inj hm
  exact retA_r (h2 := h) (Res.one rfl (rfl)) (Le.refl _) ⟨rfl, rfl⟩
 ·replace hm := cond_f hm g1
  refine wpA_skip ?_
  refine thenA_n ?_
  refine wpA_seq ?_
  refine wpA_region ?_
  refine Ops_quiet _ rfl rfl (QO.move rfl rfl) ?_
  have hq := Option.bind_eq_some_iff.1 hm; clear hm; obtain ⟨r2, hr2, hm⟩ := hq
  refine Ops_call _ _ rfl rfl (EO.fn rfl Try.func5 rfl rfl (Evs.cons rfl Evs.nil)) (QC.cc (c_spec_DrawIsotopeOf (l0 := l0) (A0 := A0) (c0 := c0) hr2 (RdS.le hs0 (Le.refl _))) ?_)
  refine Ops_quiet _ rfl rfl (QO.move rfl rfl) ?_
  refine Ops_quiet _ rfl rfl (QO.extract rfl rfl rfl) ?_
  refine Ops_quiet _ rfl rfl (QO.extract rfl rfl rfl) ?_
  refine Ops_loud rfl (LO.alloc rfl zr28 rfl (fun b1 hb1 => ?_))
  refine Ops_loud rfl (LO.alloc rfl zr31 rfl (fun b2 hb2 => ?_))
  simp only [upd_noneA] at hb2
  obtain ⟨n_b2_b1, hb2⟩ := hb2
  refine Ops_loud rfl (LO.storeAll (cs := sqC r2.1) rfl sz28 rfl rfl (sqC_one _) (sqC_length _) ((upd_ne _ _ n_b2_b1.ne.symm).trans (upd_same _ _ _)) (sqC_length _) (Chg.there n_b2_b1.ne Chg.here) rfl ?_)
  refine Ops_loud rfl (LO.storeAll (cs := trC r2.2) rfl sz31 rfl rfl (trC_one _) (trC_length _) (upd_same _ _ _) (trC_length _) Chg.here rfl ?_)
  refine Ops_nil ?_
  refine thenA_n ?_
  refine wpA_seq ?_
  refine wpA_region ?_
  refine Ops_quiet _ rfl rfl (QO.loadRow (cs := sqC r2.1) (hr := (rdAll ((upd_ne _ _ n_b2_b1.ne.symm).trans (upd_same _ _ _)))) rfl sz28 rfl rfl (sqC_length _)) ?_
  refine Ops_quiet _ rfl rfl (QO.loadRow (cs := trC r2.2) (hr := (rdAll (upd_same _ _ _))) rfl sz31 rfl rfl (trC_length _)) ?_
  have hq := Option.bind_eq_some_iff.1 hm; clear hm; obtain ⟨r3, hr3, hm⟩ := hq
  refine Ops_call _ _ rfl rfl (EO.fn rfl Try.func6 rfl rfl (Evs.cons rfl (Evs.cons rfl Evs.nil))) (QC.cc (c_impl_IsotopeOf hr3 ) ?_)
  refine Ops_quiet _ rfl rfl (QO.move rfl rfl) ?_
  refine Ops_quiet _ rfl rfl (QO.extract rfl rfl rfl) ?_
  refine Ops_quiet _ rfl rfl (QO.extract rfl rfl rfl) ?_
  refine Ops_loud rfl (LO.alloc rfl zr28 rfl (fun b3 hb3 => ?_))
  simp only [upd_noneA] at hb3
  obtain ⟨n_b3_b2, n_b3_b1, hb3⟩ := hb3
  refine Ops_loud rfl (LO.storeAll (cs := sqC r3.1) rfl sz28 rfl rfl (sqC_one _) (sqC_length _) (upd_same _ _ _) (sqC_length _) Chg.here rfl ?_)
  refine Ops_quiet _ rfl rfl (QO.assign rfl rfl) ?_
  refine Ops_nil ?_
  refine thenA_n ?_
  refine wpA_seq ?_
  refine wpA_seq ?_
  refine wpA_region ?_
  refine Ops_quiet _ rfl rfl (QO.loadRow (cs := sqC r2.1) (hr := (rdAll ((upd_ne _ _ n_b3_b1.ne.symm).trans ((upd_ne _ _ n_b2_b1.ne.symm).trans (upd_same _ _ _))))) rfl sz28 rfl rfl (sqC_length _)) ?_
  refine Ops_quiet _ rfl rfl (QO.loadRow (cs := trC r2.2) (hr := (rdAll ((upd_ne _ _ n_b3_b2.ne.symm).trans (upd_same _ _ _)))) rfl sz31 rfl rfl (trC_length _)) ?_
  have hq := Option.bind_eq_some_iff.1 hm; clear hm; obtain ⟨r4, hr4, hm⟩ := hq
  refine Ops_call _ _ rfl rfl (EO.fn rfl Try.func7 rfl rfl (Evs.cons rfl (Evs.cons rfl Evs.nil))) (QC.cc (c_spec_IsotopeOf hr4 ) ?_)
  refine Ops_quiet _ rfl rfl (QO.move rfl rfl) ?_
  refine Ops_quiet _ rfl rfl (QO.extract rfl rfl rfl) ?_
  refine Ops_quiet _ rfl rfl (QO.extract rfl rfl rfl) ?_
  refine Ops_loud rfl (LO.alloc rfl zr28 rfl (fun b4 hb4 => ?_))
  simp only [upd_noneA] at hb4
  obtain ⟨n_b4_b3, n_b4_b2, n_b4_b1, hb4⟩ := hb4
  refine Ops_loud rfl (LO.storeAll (cs := sqC r4.1) rfl sz28 rfl rfl (sqC_one _) (sqC_length _) (upd_same _ _ _) (sqC_length _) Chg.here rfl ?_)
  refine Ops_quiet _ rfl rfl (QO.assign rfl rfl) ?_
  refine Ops_nil ?_
  refine thenA_n ?_
  refine wpA_seq ?_
  refine wpA_region ?_
  refine Ops_quiet _ rfl rfl (QO.move rfl rfl) ?_
  refine Ops_quiet _ rfl rfl (QO.move rfl rfl) ?_
  refine Ops_quiet _ rfl rfl (QO.bin rfl rfl rfl rfl) ?_
  refine Ops_quiet _ rfl rfl (QO.move rfl rfl) ?_
  refine Ops_case 65 rfl (fun g2 => ?_) (fun g2 => ?_)
  ·replace hm := cond_t hm g2
   refine Ops_skip rfl rfl ?_
   refine Ops_skip rfl rfl ?_
   refine Ops_skip rfl rfl ?_
   refine Ops_quiet _ rfl rfl (QO.pick_t rfl rfl rfl) ?_
   refine Ops_nil ?_
   refine thenA_n ?_
   refine wpA_cond_t rfl ?_
   refine wpA_seq ?_
   refine wpA_region ?_
   refine Ops_quiet _ rfl rfl (QO.assign rfl rfl) ?_
   refine Ops_nil ?_
   refine thenA_n ?_
   refine wpA_ret ?_
   refine thenA_r ?_
   obtain rfl := Option.some.inj hm
   exact retA_r (h2 := h) (Res.one rfl (rfl)) (Le.under (Le.under (Le.under (Le.under (Le.refl _) hb1) hb2) hb3) hb4) ⟨rfl, rfl⟩
  ·replace hm := cond_f hm g2
   refine Ops_quiet _ rfl rfl (QO.loadRow (cs := sqC r3.1) (hr := (rdAll ((upd_ne _ _ n_b4_b3.ne.symm).trans (upd_same _ _ _)))) rfl sz28 rfl rfl (sqC_length _)) ?_
   refine Ops_quiet _ rfl rfl (QO.loadRow (cs := sqC r4.1) (hr := (rdAll (upd_same _ _ _))) rfl sz28 rfl rfl (sqC_length _)) ?_
   refine Ops_quiet _ rfl rfl (QO.agg_neq rfl rfl rfl eg28 (eqv28 _ _) rfl) ?_
   refine Ops_quiet _ rfl rfl (QO.pick_f rfl rfl rfl) ?_
   refine Ops_nil ?_
   refine thenA_n ?_
   refine wpA_cond rfl (fun g3 => ?_) (fun g3 => ?_)
   ·replace hm := cond_t hm g3
    refine wpA_seq ?_
    refine wpA_region ?_
    refine Ops_quiet _ rfl rfl (QO.assign rfl rfl) ?_
    refine Ops_nil ?_
    refine thenA_n ?_
    refine wpA_ret ?_
    refine thenA_r ?_
    obtain rfl := Option.some.inj hm
    exact retA_r (h2 := h) (Res.one rfl (rfl)) (Le.under (Le.under (Le.under (Le.under (Le.refl _) hb1) hb2) hb3) hb4) ⟨rfl, rfl⟩
   ·replace hm := cond_f hm g3
    refine wpA_skip ?_
    refine thenA_n ?_
    refine wpA_seq ?_
    refine wpA_region ?_
    refine Ops_quiet _ rfl rfl (QO.move rfl rfl) ?_
    have hq := Option.bind_eq_some_iff.1 hm; clear hm; obtain ⟨r5, hr5, hm⟩ := hq
    refine Ops_call _ _ rfl rfl (EO.fn rfl Try.func8 rfl rfl (Evs.cons rfl Evs.nil)) (QC.cc (c_spec_DrawThenTriples (l0 := l0) (A0 := A0) (c0 := c0) hr5 (RdS.le hs0 (Le.under (Le.under (Le.under (Le.under (Le.refl _) hb1) hb2) hb3) hb4))) ?_)
    refine Ops_quiet _ rfl rfl (QO.move rfl rfl) ?_
    refine Ops_quiet _ rfl rfl (QO.extract rfl rfl rfl) ?_
    refine Ops_quiet _ rfl rfl (QO.extract rfl rfl rfl) ?_
    refine Ops_quiet _ rfl rfl (QO.extract rfl rfl rfl) ?_
    refine Ops_loud rfl (LO.alloc rfl zr31 rfl (fun b5 hb5 => ?_))
    simp only [upd_noneA] at hb5
    obtain ⟨n_b5_b4, n_b5_b3, n_b5_b2, n_b5_b1, hb5⟩ := hb5
    refine Ops_loud rfl (LO.alloc rfl zr31 rfl (fun b6 hb6 => ?_))
    simp only [upd_noneA] at hb6
    obtain ⟨n_b6_b5, n_b6_b4, n_b6_b3, n_b6_b2, n_b6_b1, hb6⟩ := hb6
    refine Ops_loud rfl (LO.storeAll (cs := trC r5.1) rfl sz31 rfl rfl (trC_one _) (trC_length _) ((upd_ne _ _ n_b6_b5.ne.symm).trans (upd_same _ _ _)) (trC_length _) (Chg.there n_b6_b5.ne Chg.here) rfl ?_)
    refine Ops_loud rfl (LO.storeAll (cs := trC r5.2.1) rfl sz31 rfl rfl (trC_one _) (trC_length _) (upd_same _ _ _) (trC_length _) Chg.here rfl ?_)
    refine Ops_quiet _ rfl rfl (QO.assign rfl rfl) ?_
    refine Ops_nil ?_
    refine thenA_n ?_
    refine wpA_seq ?_
    refine wpA_region ?_
    refine Ops_quiet _ rfl rfl (QO.loadRow (cs := trC r5.1) (hr := (rdAll ((upd_ne _ _ n_b6_b5.ne.symm).trans (upd_same _ _ _)))) rfl sz31 rfl rfl (trC_length _)) ?_
    refine Ops_quiet _ rfl rfl (QO.loadRow (cs := trC r5.2.1) (hr := (rdAll (upd_same _ _ _))) rfl sz31 rfl rfl (trC_length _)) ?_
    refine Ops_quiet _ rfl rfl (QO.move rfl rfl) ?_
    have hq := Option.bind_eq_some_iff.1 hm; clear hm; obtain ⟨r6, hr6, hm⟩ := hq
    refine Ops_call _ _ rfl rfl (EO.fn rfl Try.func9 rfl rfl (Evs.cons rfl (Evs.cons rfl (Evs.cons rfl Evs.nil)))) (QC.cc (c_impl_ThenTriples hr6 ) ?_)
    refine Ops_quiet _ rfl rfl (QO.move rfl rfl) ?_
    refine Ops_quiet _ rfl rfl (QO.extract rfl rfl rfl) ?_
    refine Ops_quiet _ rfl rfl (QO.extract rfl rfl rfl) ?_
    refine Ops_loud rfl (LO.alloc rfl zr31 rfl (fun b7 hb7 => ?_))
    simp only [upd_noneA] at hb7
    obtain ⟨n_b7_b6, n_b7_b5, n_b7_b4, n_b7_b3, n_b7_b2, n_b7_b1, hb7⟩ := hb7
    refine Ops_loud rfl (LO.storeAll (cs := trC r6.1) rfl sz31 rfl rfl (trC_one _) (trC_length _) (upd_same _ _ _) (trC_length _) Chg.here rfl ?_)
    refine Ops_quiet _ rfl rfl (QO.assign rfl rfl) ?_
    refine Ops_nil ?_
    refine thenA_n ?_
    refine wpA_seq ?_
    refine wpA_seq ?_
    refine wpA_region ?_
    refine Ops_quiet _ rfl rfl (QO.loadRow (cs := trC r5.1) (hr := (rdAll ((upd_ne _ _ n_b7_b5.ne.symm).trans ((upd_ne _ _ n_b6_b5.ne.symm).trans (upd_same _ _ _))))) rfl sz31 rfl rfl (trC_length _)) ?_
    refine Ops_quiet _ rfl rfl (QO.loadRow (cs := trC r5.2.1) (hr := (rdAll ((upd_ne _ _ n_b7_b6.ne.symm).trans (upd_same _ _ _)))) rfl sz31 rfl rfl (trC_length _)) ?_
    refine Ops_quiet _ rfl rfl (QO.move rfl rfl) ?_
    have hq := Option.bind_eq_some_iff.1 hm; clear hm; obtain ⟨r7, hr7, hm⟩ := hq
    refine Ops_call _ _ rfl rfl (EO.fn rfl Try.func10 rfl rfl (Evs.cons rfl (Evs.cons rfl (Evs.cons rfl Evs.nil)))) (QC.cc (c_spec_ThenTriples hr7 ) ?_)
    refine Ops_quiet _ rfl rfl (QO.move rfl rfl) ?_
    refine Ops_quiet _ rfl rfl (QO.extract rfl rfl rfl) ?_
    refine Ops_quiet _ rfl rfl (QO.extract rfl rfl rfl) ?_
    refine Ops_loud rfl (LO.alloc rfl zr31 rfl (fun b8 hb8 => ?_))
    simp only [upd_noneA] at hb8
    obtain ⟨n_b8_b7, n_b8_b6, n_b8_b5, n_b8_b4, n_b8_b3, n_b8_b2, n_b8_b1, hb8⟩ := hb8
    refine Ops_loud rfl (LO.storeAll (cs := trC r7.1) rfl sz31 rfl rfl (trC_one _) (trC_length _) (upd_same _ _ _) (trC_length _) Chg.here rfl ?_)
    refine Ops_quiet _ rfl rfl (QO.assign rfl rfl) ?_
    refine Ops_nil ?_
    refine thenA_n ?_
    refine wpA_weaken (show Abs.Sub _ [(0, .slice A0 l0.length c0), (2, .bool false), (3, .pointer (some ⟨b1, 0, none⟩)), (4, .pointer (some ⟨b2, 0, none⟩)), (5, .pointer (some ⟨b3, 0, none⟩)), (6, .int .i64 r3.2), (12, .pointer (some ⟨b7, 0, none⟩)), (13, .int .i64 r6.2), (14, .pointer (some ⟨b8, 0, none⟩)), (15, .int .i64 r7.2)] from (Sub.cons rfl (Sub.cons rfl (Sub.cons rfl (Sub.cons rfl (Sub.cons rfl (Sub.cons rfl (Sub.cons rfl (Sub.cons rfl (Sub.cons rfl (Sub.cons rfl (Sub.nil)))))))))))).ok (Le.refl _) ?_
    refine wpA_seq ?_
    refine wpA_region ?_
    refine Ops_quiet _ rfl rfl (QO.move rfl rfl) ?_
    refine Ops_quiet _ rfl rfl (QO.move rfl rfl) ?_
    refine Ops_quiet _ rfl rfl (QO.bin rfl rfl rfl rfl) ?_
    refine Ops_quiet _ rfl rfl (QO.move rfl rfl) ?_
    refine Ops_case 93 rfl (fun g4 => ?_) (fun g4 => ?_)
    ·replace hm := cond_t hm g4
     refine Ops_skip rfl rfl ?_
     refine Ops_skip rfl rfl ?_
     refine Ops_skip rfl rfl ?_
     refine Ops_quiet _ rfl rfl (QO.pick_t rfl rfl rfl) ?_
     refine Ops_nil ?_
     refine thenA_n ?_
     refine wpA_cond_t rfl ?_
     refine wpA_seq ?_
     refine wpA_region ?_
     refine Ops_quiet _ rfl rfl (QO.assign rfl rfl) ?_
     refine Ops_nil ?_
     refine thenA_n ?_
     refine wpA_ret ?_
     refine thenA_r ?_
     obtain rfl := Option.some.inj hm
     exact retA_r (h2 := h) (Res.one rfl (rfl)) (Le.under (Le.under (Le.under (Le.under (Le.under (Le.under (Le.under (Le.under (Le.refl _) hb1) hb2) hb3) hb4) hb5) hb6) hb7) hb8) ⟨rfl, rfl⟩
    ·replace hm := cond_f hm g4
     refine Ops_quiet _ rfl rfl (QO.loadRow (cs := trC r6.1) (hr := (rdAll ((upd_ne _ _ n_b8_b7.ne.symm).trans (upd_same _ _ _)))) rfl sz31 rfl rfl (trC_length _)) ?_
     refine Ops_quiet _ rfl rfl (QO.loadRow (cs := trC r7.1) (hr := (rdAll (upd_same _ _ _))) rfl sz31 rfl rfl (trC_length _)) ?_
     refine Ops_quiet _ rfl rfl (QO.agg_neq rfl rfl rfl eg31 (eqv31 _ _) rfl) ?_
     refine Ops_quiet _ rfl rfl (QO.pick_f rfl rfl rfl) ?_
     refine Ops_nil ?_
     refine thenA_n ?_
     refine wpA_cond rfl (fun g5 => ?_) (fun g5 => ?_)
     ·replace hm := cond_t hm g5
      refine wpA_seq ?_
      refine wpA_region ?_
      refine Ops_quiet _ rfl rfl (QO.assign rfl rfl) ?_
      refine Ops_nil ?_
      refine thenA_n ?_
      refine wpA_ret ?_
      refine thenA_r ?_
      obtain rfl := Option.some.inj hm
      exact retA_r (h2 := h) (Res.one rfl (rfl)) (Le.under (Le.under (Le.under (Le.under (Le.under (Le.under (Le.under (Le.under (Le.refl _) hb1) hb2) hb3) hb4) hb5) hb6) hb7) hb8) ⟨rfl, rfl⟩
     ·replace hm := cond_f hm g5
      refine wpA_skip ?_
      refine thenA_n ?_
      refine wpA_seq ?_
      refine wpA_region ?_
      refine Ops_quiet _ rfl rfl (QO.move rfl rfl) ?_
      have hq := Option.bind_eq_some_iff.1 hm; clear hm; obtain ⟨r8, hr8, hm⟩ := hq
      refine Ops_call _ _ rfl rfl (EO.fn rfl Try.func11 rfl rfl (Evs.cons rfl Evs.nil)) (QC.cc (c_spec_DrawBackTriple (l0 := l0) (A0 := A0) (c0 := c0) hr8 (RdS.le hs0 (Le.under (Le.under (Le.under (Le.under (Le.under (Le.under (Le.under (Le.under (Le.refl _) hb1) hb2) hb3) hb4) hb5) hb6) hb7) hb8))) ?_)
      refine Ops_quiet _ rfl rfl (QO.move rfl rfl) ?_
      refine Ops_quiet _ rfl rfl (QO.extract rfl rfl rfl) ?_
      refine Ops_quiet _ rfl rfl (QO.extract rfl rfl rfl) ?_
      refine Ops_loud rfl (LO.alloc rfl zr31 rfl (fun b9 hb9 => ?_))
      simp only [upd_noneA] at hb9
      obtain ⟨n_b9_b8, n_b9_b7, n_b9_b6, n_b9_b5, n_b9_b4, n_b9_b3, n_b9_b2, n_b9_b1, hb9⟩ := hb9
      refine Ops_loud rfl (LO.storeAll (cs := trC r8.1) rfl sz31 rfl rfl (trC_one _) (trC_length _) (upd_same _ _ _) (trC_length _) Chg.here rfl ?_)
      refine Ops_quiet _ rfl rfl (QO.assign rfl rfl) ?_
      refine Ops_nil ?_
      refine thenA_n ?_
      refine wpA_seq ?_
      refine wpA_region ?_
      refine Ops_quiet _ rfl rfl (QO.loadRow (cs := trC r8.1) (hr := (rdAll (upd_same _ _ _))) rfl sz31 rfl rfl (trC_length _)) ?_
      refine Ops_quiet _ rfl rfl (QO.move rfl rfl) ?_
      have hq := Option.bind_eq_some_iff.1 hm; clear hm; obtain ⟨r9, hr9, hm⟩ := hq
      refine Ops_call _ _ rfl rfl (EO.fn rfl Try.func12 rfl rfl (Evs.cons rfl (Evs.cons rfl Evs.nil))) (QC.cc (c_impl_BackTriple hr9 ) ?_)
      refine Ops_quiet _ rfl rfl (QO.move rfl rfl) ?_
      refine Ops_quiet _ rfl rfl (QO.extract rfl rfl rfl) ?_
      refine Ops_quiet _ rfl rfl (QO.extract rfl rfl rfl) ?_
      refine Ops_loud rfl (LO.alloc rfl zr31 rfl (fun b10 hb10 => ?_))
      simp only [upd_noneA] at hb10
      obtain ⟨n_b10_b9, n_b10_b8, n_b10_b7, n_b10_b6, n_b10_b5, n_b10_b4, n_b10_b3, n_b10_b2, n_b10_b1, hb10⟩ := hb10
      refine Ops_loud rfl (LO.storeAll (cs := trC r9.1) rfl sz31 rfl rfl (trC_one _) (trC_length _) (upd_same _ _ _) (trC_length _) Chg.here rfl ?_)
      refine Ops_quiet _ rfl rfl (QO.assign rfl rfl) ?_
      refine Ops_nil ?_
      refine thenA_n ?_
      refine wpA_seq ?_
      refine wpA_seq ?_
      refine wpA_region ?_
      refine Ops_quiet _ rfl rfl (QO.loadRow (cs := trC r8.1) (hr := (rdAll ((upd_ne _ _ n_b10_b9.ne.symm).trans (upd_same _ _ _)))) rfl sz31 rfl rfl (trC_length _)) ?_
      refine Ops_quiet _ rfl rfl (QO.move rfl rfl) ?_
      have hq := Option.bind_eq_some_iff.1 hm; clear hm; obtain ⟨r10, hr10, hm⟩ := hq
      refine Ops_call _ _ rfl rfl (EO.fn rfl Try.func13 rfl rfl (Evs.cons rfl (Evs.cons rfl Evs.nil))) (QC.cc (c_spec_BackTriple hr10 ) ?_)
      refine Ops_quiet _ rfl rfl (QO.move rfl rfl) ?_
      refine Ops_quiet _ rfl rfl (QO.extract rfl rfl rfl) ?_
      refine Ops_quiet _ rfl rfl (QO.extract rfl rfl rfl) ?_
      refine Ops_loud rfl (LO.alloc rfl zr31 rfl (fun b11 hb11 => ?_))
      simp only [upd_noneA] at hb11
      obtain ⟨n_b11_b10, n_b11_b9, n_b11_b8, n_b11_b7, n_b11_b6, n_b11_b5, n_b11_b4, n_b11_b3, n_b11_b2, n_b11_b1, hb11⟩ := hb11
      refine Ops_loud rfl (LO.storeAll (cs := trC r10.1) rfl sz31 rfl rfl (trC_one _) (trC_length _) (upd_same _ _ _) (trC_length _) Chg.here rfl ?_)
      refine Ops_quiet _ rfl rfl (QO.assign rfl rfl) ?_
      refine Ops_nil ?_
      refine thenA_n ?_
      refine wpA_seq ?_
      refine wpA_drawn (by kernel_rfl) (by kernel_rfl) ?_
      refine QOps.quiet _ rfl rfl (QO.move rfl rfl) ?_
      refine QOps.quiet _ rfl rfl (QO.move rfl rfl) ?_
      refine QOps.quiet _ rfl rfl (QO.bin rfl rfl rfl rfl) ?_
      refine QOps.quiet _ rfl rfl (QO.move rfl rfl) ?_
      refine QOps.split 118 rfl (fun g6 => ?_) (fun g6 => ?_)
      ·replace hm := cond_t hm g6
       refine QOps.skip rfl rfl ?_
       refine QOps.skip rfl rfl ?_
       refine QOps.skip rfl rfl ?_
       refine QOps.quiet _ rfl rfl (QO.pick_t rfl rfl rfl) ?_
       refine QOps.quiet _ rfl rfl (QO.move rfl rfl) ?_
       refine QOps.skip rfl rfl ?_
       refine QOps.skip rfl rfl ?_
       refine QOps.skip rfl rfl ?_
       refine QOps.skip rfl rfl ?_
       refine QOps.skip rfl rfl ?_
       refine QOps.skip rfl rfl ?_
       refine QOps.skip rfl rfl ?_
       refine QOps.quiet _ rfl rfl (QO.pick_t rfl rfl rfl) ?_
       refine QOps.nil ?_
       refine thenA_n ?_
       refine wpA_cond_t rfl ?_
       refine wpA_seq ?_
       refine wpA_region ?_
       refine Ops_quiet _ rfl rfl (QO.assign rfl rfl) ?_
       refine Ops_nil ?_
       refine thenA_n ?_
       refine wpA_ret ?_
       refine thenA_r ?_
       obtain rfl := Option.some.inj hm
       exact retA_r (h2 := h) (Res.one rfl (rfl)) (Le.under (Le.under (Le.under (Le.under (Le.under (Le.under (Le.under (Le.under (Le.under (Le.under (Le.under (Le.refl _) hb1) hb2) hb3) hb4) hb5) hb6) hb7) hb8) hb9) hb10) hb11) ⟨rfl, rfl⟩
      ·replace hm := cond_f hm g6
       refine QOps.quiet _ rfl rfl (QO.loadRow (cs := trC r9.1) (hr := (rdAll ((upd_ne _ _ n_b11_b10.ne.symm).trans (upd_same _ _ _)))) rfl sz31 rfl rfl (trC_length _)) ?_
       refine QOps.quiet _ rfl rfl (QO.loadRow (cs := trC r10.1) (hr := (rdAll (upd_same _ _ _))) rfl sz31 rfl rfl (trC_length _)) ?_
       refine QOps.quiet _ rfl rfl (QO.agg_neq rfl rfl rfl eg31 (eqv31 _ _) rfl) ?_
       refine QOps.quiet _ rfl rfl (QO.pick_f rfl rfl rfl) ?_
       refine QOps.quiet _ rfl rfl (QO.move rfl rfl) ?_
       refine QOps.split 123 rfl (fun g7 => ?_) (fun g7 => ?_)
       ·replace hm := cond_t hm g7
        refine QOps.skip rfl rfl ?_
        refine QOps.skip rfl rfl ?_
        refine QOps.skip rfl rfl ?_
        refine QOps.skip rfl rfl ?_
        refine QOps.skip rfl rfl ?_
        refine QOps.skip rfl rfl ?_
        refine QOps.skip rfl rfl ?_
        refine QOps.quiet _ rfl rfl (QO.pick_t rfl rfl rfl) ?_
        refine QOps.nil ?_
        refine thenA_n ?_
        refine wpA_cond_t rfl ?_
        refine wpA_seq ?_
        refine wpA_region ?_
        refine Ops_quiet _ rfl rfl (QO.assign rfl rfl) ?_
        refine Ops_nil ?_
        refine thenA_n ?_
        refine wpA_ret ?_
        refine thenA_r ?_
        obtain rfl := Option.some.inj hm
        exact retA_r (h2 := h) (Res.one rfl (rfl)) (Le.under (Le.under (Le.under (Le.under (Le.under (Le.under (Le.under (Le.under (Le.under (Le.under (Le.under (Le.refl _) hb1) hb2) hb3) hb4) hb5) hb6) hb7) hb8) hb9) hb10) hb11) ⟨rfl, rfl⟩
       ·replace hm := cond_f hm g7
        refine QOps.quiet _ rfl rfl (QO.loadRow (cs := trC r8.1) (hr := (rdAll ((upd_ne _ _ n_b11_b9.ne.symm).trans ((upd_ne _ _ n_b10_b9.ne.symm).trans (upd_same _ _ _))))) rfl sz31 rfl rfl (trC_length _)) ?_
        refine QOps.quiet _ rfl rfl (QO.move rfl rfl) ?_
        have hq := Option.bind_eq_some_iff.1 hm; clear hm; obtain ⟨r11, hr11, hm⟩ := hq
        refine QOps.call _ _ _ rfl rfl (EO.fn rfl Try.func14 rfl rfl (Evs.cons rfl (Evs.cons rfl Evs.nil))) (c_impl_IsTriple hr11 ) ?_
        refine QOps.quiet _ rfl rfl (QO.loadRow (cs := trC r8.1) (hr := (rdAll ((upd_ne _ _ n_b11_b9.ne.symm).trans ((upd_ne _ _ n_b10_b9.ne.symm).trans (upd_same _ _ _))))) rfl sz31 rfl rfl (trC_length _)) ?_
        refine QOps.quiet _ rfl rfl (QO.move rfl rfl) ?_
        have hq := Option.bind_eq_some_iff.1 hm; clear hm; obtain ⟨r12, hr12, hm⟩ := hq
        refine QOps.call _ _ _ rfl rfl (EO.fn rfl Try.func15 rfl rfl (Evs.cons rfl (Evs.cons rfl Evs.nil))) (c_spec_IsTriple hr12 ) ?_
        refine QOps.quiet _ rfl rfl (QO.bool_neq rfl sz4 rfl rfl) ?_
        refine QOps.quiet _ rfl rfl (QO.pick_f rfl rfl rfl) ?_
        refine QOps.nil ?_
        refine thenA_n ?_
        refine wpA_cond rfl (fun g8 => ?_) (fun g8 => ?_)
        ·replace hm := cond_t hm g8
         refine wpA_seq ?_
         refine wpA_region ?_
         refine Ops_quiet _ rfl rfl (QO.assign rfl rfl) ?_
         refine Ops_nil ?_
         refine thenA_n ?_
         refine wpA_ret ?_
         refine thenA_r ?_
         obtain rfl := Option.some.inj hm
         exact retA_r (h2 := h) (Res.one rfl (rfl)) (Le.under (Le.under (Le.under (Le.under (Le.under (Le.under (Le.under (Le.under (Le.under (Le.under (Le.under (Le.refl _) hb1) hb2) hb3) hb4) hb5) hb6) hb7) hb8) hb9) hb10) hb11) ⟨rfl, rfl⟩
        ·replace hm := cond_f hm g8
         refine wpA_skip ?_
         refine thenA_n ?_
         refine wpA_seq ?_
         refine wpA_region ?_
         refine Ops_quiet _ rfl rfl (QO.move rfl rfl) ?_
         have hq := Option.bind_eq_some_iff.1 hm; clear hm; obtain ⟨r13, hr13, hm⟩ := hq
         refine Ops_call _ _ rfl rfl (EO.fn rfl Try.func16 rfl rfl (Evs.cons rfl Evs.nil)) (QC.cc (c_spec_DrawIsAutotopism (l0 := l0) (A0 := A0) (c0 := c0) hr13 (RdS.le hs0 (Le.under (Le.under (Le.under (Le.under (Le.under (Le.under (Le.under (Le.under (Le.under (Le.under (Le.under (Le.refl _) hb1) hb2) hb3) hb4) hb5) hb6) hb7) hb8) hb9) hb10) hb11))) ?_)
         refine Ops_quiet _ rfl rfl (QO.move rfl rfl) ?_
         refine Ops_quiet _ rfl rfl (QO.extract rfl rfl rfl) ?_
         refine Ops_quiet _ rfl rfl (QO.extract rfl rfl rfl) ?_
         refine Ops_loud rfl (LO.alloc rfl zr28 rfl (fun b12 hb12 => ?_))
         simp only [upd_noneA] at hb12
         obtain ⟨n_b12_b11, n_b12_b10, n_b12_b9, n_b12_b8, n_b12_b7, n_b12_b6, n_b12_b5, n_b12_b4, n_b12_b3, n_b12_b2, n_b12_b1, hb12⟩ := hb12
         refine Ops_loud rfl (LO.alloc rfl zr31 rfl (fun b13 hb13 => ?_))
         simp only [upd_noneA] at hb13
         obtain ⟨n_b13_b12, n_b13_b11, n_b13_b10, n_b13_b9, n_b13_b8, n_b13_b7, n_b13_b6, n_b13_b5, n_b13_b4, n_b13_b3, n_b13_b2, n_b13_b1, hb13⟩ := hb13
         refine Ops_loud rfl (LO.storeAll (cs := sqC r13.1) rfl sz28 rfl rfl (sqC_one _) (sqC_length _) ((upd_ne _ _ n_b13_b12.ne.symm).trans (upd_same _ _ _)) (sqC_length _) (Chg.there n_b13_b12.ne Chg.here) rfl ?_)
         refine Ops_loud rfl (LO.storeAll (cs := trC r13.2) rfl sz31 rfl rfl (trC_one _) (trC_length _) (upd_same _ _ _) (trC_length _) Chg.here rfl ?_)
         refine Ops_nil ?_
         refine thenA_n ?_
         refine wpA_weaken (show Abs.Sub _ [(0, .slice A0 l0.length c0), (2, .bool false), (3, .pointer (some ⟨b1, 0, none⟩)), (4, .pointer (some ⟨b2, 0, none⟩)), (5, .pointer (some ⟨b3, 0, none⟩)), (6, .int .i64 r3.2), (22, .pointer (some ⟨b12, 0, none⟩)), (23, .pointer (some ⟨b13, 0, none⟩))] from (Sub.cons rfl (Sub.cons rfl (Sub.cons rfl (Sub.cons rfl (Sub.cons rfl (Sub.cons rfl (Sub.cons rfl (Sub.cons rfl (Sub.nil)))))))))).ok (Le.refl _) ?_
         refine wpA_seq ?_
         refine wpA_region ?_
         refine Ops_quiet _ rfl rfl (QO.loadRow (cs := sqC r13.1) (hr := (rdAll ((upd_ne _ _ n_b13_b12.ne.symm).trans (upd_same _ _ _)))) rfl sz28 rfl rfl (sqC_length _)) ?_
         refine Ops_quiet _ rfl rfl (QO.loadRow (cs := trC r13.2) (hr := (rdAll (upd_same _ _ _))) rfl sz31 rfl rfl (trC_length _)) ?_
         have hq := Option.bind_eq_some_iff.1 hm; clear hm; obtain ⟨r14, hr14, hm⟩ := hq
         refine Ops_call _ _ rfl rfl (EO.fn rfl Try.func17 rfl rfl (Evs.cons rfl (Evs.cons rfl Evs.nil))) (QC.cc (c_impl_IsAutotopism hr14 ) ?_)
         refine Ops_quiet _ rfl rfl (QO.move rfl rfl) ?_
         refine Ops_quiet _ rfl rfl (QO.extract rfl rfl rfl) ?_
         refine Ops_quiet _ rfl rfl (QO.extract rfl rfl rfl) ?_
         refine Ops_quiet _ rfl rfl (QO.assign rfl rfl) ?_
         refine Ops_quiet _ rfl rfl (QO.assign rfl rfl) ?_
         refine Ops_nil ?_
         refine thenA_n ?_
         refine wpA_seq ?_
         refine wpA_seq ?_
         refine wpA_region ?_
         refine Ops_quiet _ rfl rfl (QO.loadRow (cs := sqC r13.1) (hr := (rdAll ((upd_ne _ _ n_b13_b12.ne.symm).trans (upd_same _ _ _)))) rfl sz28 rfl rfl (sqC_length _)) ?_
         refine Ops_quiet _ rfl rfl (QO.loadRow (cs := trC r13.2) (hr := (rdAll (upd_same _ _ _))) rfl sz31 rfl rfl (trC_length _)) ?_
         have hq := Option.bind_eq_some_iff.1 hm; clear hm; obtain ⟨r15, hr15, hm⟩ := hq
         refine Ops_call _ _ rfl rfl (EO.fn rfl Try.func18 rfl rfl (Evs.cons rfl (Evs.cons rfl Evs.nil))) (QC.cc (c_spec_IsAutotopism hr15 ) ?_)
         refine Ops_quiet _ rfl rfl (QO.move rfl rfl) ?_
         refine Ops_quiet _ rfl rfl (QO.extract rfl rfl rfl) ?_
         refine Ops_quiet _ rfl rfl (QO.extract rfl rfl rfl) ?_
         refine Ops_quiet _ rfl rfl (QO.assign rfl rfl) ?_
         refine Ops_quiet _ rfl rfl (QO.assign rfl rfl) ?_
         refine Ops_nil ?_
         refine thenA_n ?_
         refine wpA_seq ?_
         refine wpA_region ?_
         refine Ops_quiet _ rfl rfl (QO.move rfl rfl) ?_
         refine Ops_quiet _ rfl rfl (QO.move rfl rfl) ?_
         refine Ops_quiet _ rfl rfl (QO.bin rfl rfl rfl rfl) ?_
         refine Ops_quiet _ rfl rfl (QO.move rfl rfl) ?_
         refine Ops_case 152 rfl (fun g9 => ?_) (fun g9 => ?_)
         ·replace hm := cond_t hm g9
          refine Ops_skip rfl rfl ?_
          refine Ops_skip rfl rfl ?_
          refine Ops_skip rfl rfl ?_
          refine Ops_quiet _ rfl rfl (QO.pick_t rfl rfl rfl) ?_
          refine Ops_nil ?_
          refine thenA_n ?_
          refine wpA_cond_t rfl ?_
          refine wpA_seq ?_
          refine wpA_region ?_
          refine Ops_quiet _ rfl rfl (QO.assign rfl rfl) ?_
          refine Ops_nil ?_
          refine thenA_n ?_
          refine wpA_ret ?_
          refine thenA_r ?_
          obtain rfl := Option.some.inj hm
          exact retA_r (h2 := h) (Res.one rfl (rfl)) (Le.under (Le.under (Le.under (Le.under (Le.under (Le.under (Le.under (Le.under (Le.under (Le.under (Le.under (Le.under (Le.under (Le.refl _) hb1) hb2) hb3) hb4) hb5) hb6) hb7) hb8) hb9) hb10) hb11) hb12) hb13) ⟨rfl, rfl⟩
         ·replace hm := cond_f hm g9
          refine Ops_quiet _ rfl rfl (QO.move rfl rfl) ?_
          refine Ops_quiet _ rfl rfl (QO.move rfl rfl) ?_
          refine Ops_quiet _ rfl rfl (QO.bool_neq rfl sz4 rfl rfl) ?_
          refine Ops_quiet _ rfl rfl (QO.pick_f rfl rfl rfl) ?_
          refine Ops_nil ?_
          refine thenA_n ?_
          refine wpA_cond rfl (fun g10 => ?_) (fun g10 => ?_)
          ·replace hm := cond_t hm g10
           refine wpA_seq ?_
           refine wpA_region ?_
           refine Ops_quiet _ rfl rfl (QO.assign rfl rfl) ?_
           refine Ops_nil ?_
           refine thenA_n ?_
           refine wpA_ret ?_
           refine thenA_r ?_
           obtain rfl := Option.some.inj hm
           exact retA_r (h2 := h) (Res.one rfl (rfl)) (Le.under (Le.under (Le.under (Le.under (Le.under (Le.under (Le.under (Le.under (Le.under (Le.under (Le.under (Le.under (Le.under (Le.refl _) hb1) hb2) hb3) hb4) hb5) hb6) hb7) hb8) hb9) hb10) hb11) hb12) hb13) ⟨rfl, rfl⟩
          ·replace hm := cond_f hm g10
           refine wpA_skip ?_
           refine thenA_n ?_
           refine wpA_seq ?_
           refine wpA_region ?_
           refine Ops_quiet _ rfl rfl (QO.move rfl rfl) ?_
           have hq := Option.bind_eq_some_iff.1 hm; clear hm; obtain ⟨r16, hr16, hm⟩ := hq
           refine Ops_call _ _ rfl rfl (EO.fn rfl Try.func19 rfl rfl (Evs.cons rfl Evs.nil)) (QC.cc (c_spec_DrawLoopAt (l0 := l0) (A0 := A0) (c0 := c0) hr16 (RdS.le hs0 (Le.under (Le.under (Le.under (Le.under (Le.under (Le.under (Le.under (Le.under (Le.under (Le.under (Le.under (Le.under (Le.under (Le.refl _) hb1) hb2) hb3) hb4) hb5) hb6) hb7) hb8) hb9) hb10) hb11) hb12) hb13))) ?_)
           refine Ops_quiet _ rfl rfl (QO.move rfl rfl) ?_
           refine Ops_quiet _ rfl rfl (QO.extract rfl rfl rfl) ?_
           refine Ops_quiet _ rfl rfl (QO.extract rfl rfl rfl) ?_
           refine Ops_quiet _ rfl rfl (QO.extract rfl rfl rfl) ?_
           refine Ops_loud rfl (LO.alloc rfl zr28 rfl (fun b14 hb14 => ?_))
           simp only [upd_noneA] at hb14
           obtain ⟨n_b14_b13, n_b14_b12, n_b14_b11, n_b14_b10, n_b14_b9, n_b14_b8, n_b14_b7, n_b14_b6, n_b14_b5, n_b14_b4, n_b14_b3, n_b14_b2, n_b14_b1, hb14⟩ := hb14
           refine Ops_loud rfl (LO.storeAll (cs := sqC r16.1) rfl sz28 rfl rfl (sqC_one _) (sqC_length _) (upd_same _ _ _) (sqC_length _) Chg.here rfl ?_)
           refine Ops_quiet _ rfl rfl (QO.assign rfl rfl) ?_
           refine Ops_quiet _ rfl rfl (QO.assign rfl rfl) ?_
           refine Ops_nil ?_
           refine thenA_n ?_
           refine wpA_seq ?_
           refine wpA_region ?_
           refine Ops_quiet _ rfl rfl (QO.loadRow (cs := sqC r16.1) (hr := (rdAll (upd_same _ _ _))) rfl sz28 rfl rfl (sqC_length _)) ?_
           refine Ops_quiet _ rfl rfl (QO.move rfl rfl) ?_
           refine Ops_quiet _ rfl rfl (QO.move rfl rfl) ?_
           have hq := Option.bind_eq_some_iff.1 hm; clear hm; obtain ⟨r17, hr17, hm⟩ := hq
           refine Ops_call _ _ rfl rfl (EO.fn rfl Try.func20 rfl rfl (Evs.cons rfl (Evs.cons rfl (Evs.cons rfl Evs.nil)))) (QC.cc (c_impl_LoopAt hr17 ) ?_)
           refine Ops_quiet _ rfl rfl (QO.move rfl rfl) ?_
           refine Ops_quiet _ rfl rfl (QO.extract rfl rfl rfl) ?_
           refine Ops_quiet _ rfl rfl (QO.extract rfl rfl rfl) ?_
           refine Ops_loud rfl (LO.alloc rfl zr28 rfl (fun b15 hb15 => ?_))
           simp only [upd_noneA] at hb15
           obtain ⟨n_b15_b14, n_b15_b13, n_b15_b12, n_b15_b11, n_b15_b10, n_b15_b9, n_b15_b8, n_b15_b7, n_b15_b6, n_b15_b5, n_b15_b4, n_b15_b3, n_b15_b2, n_b15_b1, hb15⟩ := hb15
           refine Ops_loud rfl (LO.storeAll (cs := sqC r17.1) rfl sz28 rfl rfl (sqC_one _) (sqC_length _) (upd_same _ _ _) (sqC_length _) Chg.here rfl ?_)
           refine Ops_quiet _ rfl rfl (QO.assign rfl rfl) ?_
           refine Ops_nil ?_
           refine thenA_n ?_
           refine wpA_seq ?_
           refine wpA_seq ?_
           refine wpA_region ?_
           refine Ops_quiet _ rfl rfl (QO.loadRow (cs := sqC r16.1) (hr := (rdAll ((upd_ne _ _ n_b15_b14.ne.symm).trans (upd_same _ _ _)))) rfl sz28 rfl rfl (sqC_length _)) ?_
           refine Ops_quiet _ rfl rfl (QO.move rfl rfl) ?_
           refine Ops_quiet _ rfl rfl (QO.move rfl rfl) ?_
           have hq := Option.bind_eq_some_iff.1 hm; clear hm; obtain ⟨r18, hr18, hm⟩ := hq
           refine Ops_call _ _ rfl rfl (EO.fn rfl Try.func21 rfl rfl (Evs.cons rfl (Evs.cons rfl (Evs.cons rfl Evs.nil)))) (QC.cc (c_spec_LoopAt hr18 ) ?_)
           refine Ops_quiet _ rfl rfl (QO.move rfl rfl) ?_
           refine Ops_quiet _ rfl rfl (QO.extract rfl rfl rfl) ?_
           refine Ops_quiet _ rfl rfl (QO.extract rfl rfl rfl) ?_
           refine Ops_loud rfl (LO.alloc rfl zr28 rfl (fun b16 hb16 => ?_))
           simp only [upd_noneA] at hb16
           obtain ⟨n_b16_b15, n_b16_b14, n_b16_b13, n_b16_b12, n_b16_b11, n_b16_b10, n_b16_b9, n_b16_b8, n_b16_b7, n_b16_b6, n_b16_b5, n_b16_b4, n_b16_b3, n_b16_b2, n_b16_b1, hb16⟩ := hb16
           refine Ops_loud rfl (LO.storeAll (cs := sqC r18.1) rfl sz28 rfl rfl (sqC_one _) (sqC_length _) (upd_same _ _ _) (sqC_length _) Chg.here rfl ?_)
           refine Ops_quiet _ rfl rfl (QO.assign rfl rfl) ?_
           refine Ops_nil ?_
           refine thenA_n ?_
           refine wpA_seq ?_
           refine wpA_region ?_
           refine Ops_quiet _ rfl rfl (QO.move rfl rfl) ?_
           refine Ops_quiet _ rfl rfl (QO.move rfl rfl) ?_
           refine Ops_quiet _ rfl rfl (QO.bin rfl rfl rfl rfl) ?_
           refine Ops_quiet _ rfl rfl (QO.move rfl rfl) ?_
           refine Ops_case 180 rfl (fun g11 => ?_) (fun g11 => ?_)
           ·replace hm := cond_t hm g11
            refine Ops_skip rfl rfl ?_
            refine Ops_skip rfl rfl ?_
            refine Ops_skip rfl rfl ?_
            refine Ops_quiet _ rfl rfl (QO.pick_t rfl rfl rfl) ?_
            refine Ops_nil ?_
            refine thenA_n ?_
            refine wpA_cond_t rfl ?_
            refine wpA_weaken (show Abs.Sub _ [(2, .bool false)] from (Sub.cons rfl (Sub.nil))).ok (Le.refl _) ?_
            refine wpA_seq ?_
            refine wpA_region ?_
            refine Ops_quiet _ rfl rfl (QO.assign rfl rfl) ?_
            refine Ops_nil ?_
            refine thenA_n ?_
            refine wpA_ret ?_
            refine thenA_r ?_
            obtain rfl := Option.some.inj hm
            exact retA_r (h2 := h) (Res.one rfl (rfl)) (Le.under (Le.under (Le.under (Le.under (Le.under (Le.under (Le.under (Le.under (Le.under (Le.under (Le.under (Le.under (Le.under (Le.under (Le.under (Le.under (Le.refl _) hb1) hb2) hb3) hb4) hb5) hb6) hb7) hb8) hb9) hb10) hb11) hb12) hb13) hb14) hb15) hb16) ⟨rfl, rfl⟩
           ·replace hm := cond_f hm g11
            refine Ops_quiet _ rfl rfl (QO.loadRow (cs := sqC r17.1) (hr := (rdAll ((upd_ne _ _ n_b16_b15.ne.symm).trans (upd_same _ _ _)))) rfl sz28 rfl rfl (sqC_length _)) ?_
            refine Ops_quiet _ rfl rfl (QO.loadRow (cs := sqC r18.1) (hr := (rdAll (upd_same _ _ _))) rfl sz28 rfl rfl (sqC_length _)) ?_
            refine Ops_quiet _ rfl rfl (QO.agg_neq rfl rfl rfl eg28 (eqv28 _ _) rfl) ?_
            refine Ops_quiet _ rfl rfl (QO.pick_f rfl rfl rfl) ?_
            refine Ops_nil ?_
            refine thenA_n ?_
            refine wpA_cond rfl (fun g12 => ?_) (fun g12 => ?_)
            ·replace hm := cond_t hm g12
             refine wpA_weaken (show Abs.Sub _ [(2, .bool false)] from (Sub.cons rfl (Sub.nil))).ok (Le.refl _) ?_
             refine wpA_seq ?_
             refine wpA_region ?_
             refine Ops_quiet _ rfl rfl (QO.assign rfl rfl) ?_
             refine Ops_nil ?_
             refine thenA_n ?_
             refine wpA_ret ?_
             refine thenA_r ?_
             obtain rfl := Option.some.inj hm
             exact retA_r (h2 := h) (Res.one rfl (rfl)) (Le.under (Le.under (Le.under (Le.under (Le.under (Le.under (Le.under (Le.under (Le.under (Le.under (Le.under (Le.under (Le.under (Le.under (Le.under (Le.under (Le.refl _) hb1) hb2) hb3) hb4) hb5) hb6) hb7) hb8) hb9) hb10) hb11) hb12) hb13) hb14) hb15) hb16) ⟨rfl, rfl⟩
            ·replace hm := cond_f hm g12
             refine wpA_skip ?_
             refine thenA_n ?_
             refine wpA_weaken (show Abs.Sub _ [(2, .bool false), (3, .pointer (some ⟨b1, 0, none⟩)), (4, .pointer (some ⟨b2, 0, none⟩)), (5, .pointer (some ⟨b3, 0, none⟩)), (6, .int .i64 r3.2), (31, .pointer (some ⟨b15, 0, none⟩)), (32, .int .i64 r17.2)] from (Sub.cons rfl (Sub.cons rfl (Sub.cons rfl (Sub.cons rfl (Sub.cons rfl (Sub.cons rfl (Sub.cons rfl (Sub.nil))))))))).ok (Le.refl _) ?_
             refine wpA_seq ?_
             refine wpA_seq ?_
             refine wpA_region ?_
             refine Ops_quiet _ rfl rfl (QO.move rfl rfl) ?_
             refine Ops_quiet _ rfl rfl (QO.bin rfl rfl rfl rfl) ?_
             refine Ops_quiet _ rfl rfl (QO.move rfl rfl) ?_
             refine Ops_case 187 rfl (fun g13 => ?_) (fun g13 => ?_)
             ·replace hm := cond_t hm g13
              refine Ops_quiet _ rfl rfl (QO.loadRow (cs := sqC r17.1) (hr := (rdAll ((upd_ne _ _ n_b16_b15.ne.symm).trans (upd_same _ _ _)))) rfl sz28 rfl rfl (sqC_length _)) ?_
              have hq := Option.bind_eq_some_iff.1 hm; clear hm; obtain ⟨r19, hr19, hm⟩ := hq
              refine Ops_call _ _ rfl rfl (EO.fn rfl Try.func22 rfl rfl (Evs.cons rfl Evs.nil)) (QC.cc (c_impl_IsLoop hr19 ) ?_)
              refine Ops_quiet _ rfl rfl (QO.not rfl rfl) ?_
              refine Ops_quiet _ rfl rfl (QO.pick_t rfl rfl rfl) ?_
              refine Ops_nil ?_
              refine thenA_n ?_
              refine wpA_cond rfl (fun g14 => ?_) (fun g14 => ?_)
              ·replace hm := cond_t hm g14
               refine wpA_seq ?_
               refine wpA_region ?_
               refine Ops_quiet _ rfl rfl (QO.assign rfl rfl) ?_
               refine Ops_nil ?_
               refine thenA_n ?_
               refine wpA_ret ?_
               refine thenA_r ?_
               obtain rfl := Option.some.inj hm
               exact retA_r (h2 := h) (Res.one rfl (rfl)) (Le.under (Le.under (Le.under (Le.under (Le.under (Le.under (Le.under (Le.under (Le.under (Le.under (Le.under (Le.under (Le.under (Le.under (Le.under (Le.under (Le.refl _) hb1) hb2) hb3) hb4) hb5) hb6) hb7) hb8) hb9) hb10) hb11) hb12) hb13) hb14) hb15) hb16) ⟨rfl, rfl⟩
              ·replace hm := cond_f hm g14
               refine wpA_skip ?_
               refine thenA_n ?_
               refine wpA_seq ?_
               refine wpA_seq ?_
               refine wpA_region ?_
               refine Ops_quiet _ rfl rfl (QO.move rfl rfl) ?_
               refine Ops_quiet _ rfl rfl (QO.bin rfl rfl rfl rfl) ?_
               refine Ops_nil ?_
               refine thenA_n ?_
               refine wpA_cond rfl (fun g15 => ?_) (fun g15 => ?_)
               ·replace hm := cond_t hm g15
                refine wpA_seq ?_
                refine wpA_region ?_
                refine Ops_quiet _ rfl rfl (QO.fieldAt (fo := 0) rfl sz28 rfl rfl sz2 rfl rfl) ?_
                refine Ops_quiet _ rfl rfl (QO.load rfl sz2 rfl rfl (by (refine (rd_own ((upd_ne _ _ n_b16_b3.ne.symm).trans ((upd_ne _ _ n_b15_b3.ne.symm).trans ((upd_ne _ _ n_b14_b3.ne.symm).trans ((upd_ne _ _ n_b13_b3.ne.symm).trans ((upd_ne _ _ n_b12_b3.ne.symm).trans ((upd_ne _ _ n_b11_b3.ne.symm).trans ((upd_ne _ _ n_b10_b3.ne.symm).trans ((upd_ne _ _ n_b9_b3.ne.symm).trans ((upd_ne _ _ n_b8_b3.ne.symm).trans ((upd_ne _ _ n_b7_b3.ne.symm).trans ((upd_ne _ _ n_b6_b3.ne.symm).trans ((upd_ne _ _ n_b5_b3.ne.symm).trans ((upd_ne _ _ n_b4_b3.ne.symm).trans (upd_same _ _ _)))))))))))))) _).trans ?_); exact rfl)) ?_
                refine Ops_quiet _ rfl rfl (QO.bin rfl rfl rfl rfl) ?_
                refine Ops_quiet _ rfl rfl (QO.assign rfl rfl) ?_
                refine Ops_nil ?_
                refine thenA_n ?_
                refine wpA_ret ?_
                refine thenA_r ?_
                obtain rfl := Option.some.inj hm
                exact retA_r (h2 := h) (Res.one rfl (rfl)) (Le.under (Le.under (Le.under (Le.under (Le.under (Le.under (Le.under (Le.under (Le.under (Le.under (Le.under (Le.under (Le.under (Le.under (Le.under (Le.under (Le.refl _) hb1) hb2) hb3) hb4) hb5) hb6) hb7) hb8) hb9) hb10) hb11) hb12) hb13) hb14) hb15) hb16) ⟨rfl, rfl⟩
               ·replace hm := cond_f hm g15
                refine wpA_skip ?_
                refine thenA_n ?_
                refine wpA_seq ?_
                refine wpA_region ?_
                refine Ops_quiet _ rfl rfl (QO.loadRow (cs := trC r2.2) (hr := (rdAll ((upd_ne _ _ n_b16_b2.ne.symm).trans ((upd_ne _ _ n_b15_b2.ne.symm).trans ((upd_ne _ _ n_b14_b2.ne.symm).trans ((upd_ne _ _ n_b13_b2.ne.symm).trans ((upd_ne _ _ n_b12_b2.ne.symm).trans ((upd_ne _ _ n_b11_b2.ne.symm).trans ((upd_ne _ _ n_b10_b2.ne.symm).trans ((upd_ne _ _ n_b9_b2.ne.symm).trans ((upd_ne _ _ n_b8_b2.ne.symm).trans ((upd_ne _ _ n_b7_b2.ne.symm).trans ((upd_ne _ _ n_b6_b2.ne.symm).trans ((upd_ne _ _ n_b5_b2.ne.symm).trans ((upd_ne _ _ n_b4_b2.ne.symm).trans ((upd_ne _ _ n_b3_b2.ne.symm).trans (upd_same _ _ _))))))))))))))))) rfl sz31 rfl rfl (trC_length _)) ?_
                refine Ops_quiet _ rfl rfl (QO.fieldAt (fo := 0) rfl sz28 rfl rfl sz2 rfl rfl) ?_
                refine Ops_quiet _ rfl rfl (QO.load rfl sz2 rfl rfl (by (refine (rd_own ((upd_ne _ _ n_b16_b1.ne.symm).trans ((upd_ne _ _ n_b15_b1.ne.symm).trans ((upd_ne _ _ n_b14_b1.ne.symm).trans ((upd_ne _ _ n_b13_b1.ne.symm).trans ((upd_ne _ _ n_b12_b1.ne.symm).trans ((upd_ne _ _ n_b11_b1.ne.symm).trans ((upd_ne _ _ n_b10_b1.ne.symm).trans ((upd_ne _ _ n_b9_b1.ne.symm).trans ((upd_ne _ _ n_b8_b1.ne.symm).trans ((upd_ne _ _ n_b7_b1.ne.symm).trans ((upd_ne _ _ n_b6_b1.ne.symm).trans ((upd_ne _ _ n_b5_b1.ne.symm).trans ((upd_ne _ _ n_b4_b1.ne.symm).trans ((upd_ne _ _ n_b3_b1.ne.symm).trans ((upd_ne _ _ n_b2_b1.ne.symm).trans (upd_same _ _ _)))))))))))))))) _).trans ?_); exact rfl)) ?_
                have hq := Option.bind_eq_some_iff.1 hm; clear hm; obtain ⟨r20, hr20, hm⟩ := hq
                refine Ops_call _ _ rfl rfl (EO.fn rfl Try.func12 rfl rfl (Evs.cons rfl (Evs.cons rfl Evs.nil))) (QC.cc (c_impl_BackTriple hr20 ) ?_)
                refine Ops_quiet _ rfl rfl (QO.move rfl rfl) ?_
                refine Ops_quiet _ rfl rfl (QO.extract rfl rfl rfl) ?_
                refine Ops_quiet _ rfl rfl (QO.extract rfl rfl rfl) ?_
                refine Ops_loud rfl (LO.alloc rfl zr31 rfl (fun b17 hb17 => ?_))
                simp only [upd_noneA] at hb17
                obtain ⟨n_b17_b16, n_b17_b15, n_b17_b14, n_b17_b13, n_b17_b12, n_b17_b11, n_b17_b10, n_b17_b9, n_b17_b8, n_b17_b7, n_b17_b6, n_b17_b5, n_b17_b4, n_b17_b3, n_b17_b2, n_b17_b1, hb17⟩ := hb17
                refine Ops_loud rfl (LO.storeAll (cs := trC r20.1) rfl sz31 rfl rfl (trC_one _) (trC_length _) (upd_same _ _ _) (trC_length _) Chg.here rfl ?_)
                refine Ops_quiet _ rfl rfl (QO.assign rfl rfl) ?_
                refine Ops_nil ?_
                refine thenA_n ?_
                refine wpA_seq ?_
                refine wpA_region ?_
                refine Ops_quiet _ rfl rfl (QO.loadRow (cs := sqC r3.1) (hr := (rdAll ((upd_ne _ _ n_b17_b3.ne.symm).trans ((upd_ne _ _ n_b16_b3.ne.symm).trans ((upd_ne _ _ n_b15_b3.ne.symm).trans ((upd_ne _ _ n_b14_b3.ne.symm).trans ((upd_ne _ _ n_b13_b3.ne.symm).trans ((upd_ne _ _ n_b12_b3.ne.symm).trans ((upd_ne _ _ n_b11_b3.ne.symm).trans ((upd_ne _ _ n_b10_b3.ne.symm).trans ((upd_ne _ _ n_b9_b3.ne.symm).trans ((upd_ne _ _ n_b8_b3.ne.symm).trans ((upd_ne _ _ n_b7_b3.ne.symm).trans ((upd_ne _ _ n_b6_b3.ne.symm).trans ((upd_ne _ _ n_b5_b3.ne.symm).trans ((upd_ne _ _ n_b4_b3.ne.symm).trans (upd_same _ _ _))))))))))))))))) rfl sz28 rfl rfl (sqC_length _)) ?_
                refine Ops_quiet _ rfl rfl (QO.loadRow (cs := trC r20.1) (hr := (rdAll (upd_same _ _ _))) rfl sz31 rfl rfl (trC_length _)) ?_
                have hq := Option.bind_eq_some_iff.1 hm; clear hm; obtain ⟨r21, hr21, hm⟩ := hq
                refine Ops_call _ _ rfl rfl (EO.fn rfl Try.func6 rfl rfl (Evs.cons rfl (Evs.cons rfl Evs.nil))) (QC.cc (c_impl_IsotopeOf hr21 ) ?_)
                refine Ops_quiet _ rfl rfl (QO.move rfl rfl) ?_
                refine Ops_quiet _ rfl rfl (QO.extract rfl rfl rfl) ?_
                refine Ops_quiet _ rfl rfl (QO.extract rfl rfl rfl) ?_
                refine Ops_loud rfl (LO.alloc rfl zr28 rfl (fun b18 hb18 => ?_))
                simp only [upd_noneA] at hb18
                obtain ⟨n_b18_b17, n_b18_b16, n_b18_b15, n_b18_b14, n_b18_b13, n_b18_b12, n_b18_b11, n_b18_b10, n_b18_b9, n_b18_b8, n_b18_b7, n_b18_b6, n_b18_b5, n_b18_b4, n_b18_b3, n_b18_b2, n_b18_b1, hb18⟩ := hb18
                refine Ops_loud rfl (LO.storeAll (cs := sqC r21.1) rfl sz28 rfl rfl (sqC_one _) (sqC_length _) (upd_same _ _ _) (sqC_length _) Chg.here rfl ?_)
                refine Ops_quiet _ rfl rfl (QO.assign rfl rfl) ?_
                refine Ops_nil ?_
                refine thenA_n ?_
                refine wpA_seq ?_
                refine wpA_region ?_
                refine Ops_quiet _ rfl rfl (QO.loadRow (cs := trC r2.2) (hr := (rdAll ((upd_ne _ _ n_b18_b2.ne.symm).trans ((upd_ne _ _ n_b17_b2.ne.symm).trans ((upd_ne _ _ n_b16_b2.ne.symm).trans ((upd_ne _ _ n_b15_b2.ne.symm).trans ((upd_ne _ _ n_b14_b2.ne.symm).trans ((upd_ne _ _ n_b13_b2.ne.symm).trans ((upd_ne _ _ n_b12_b2.ne.symm).trans ((upd_ne _ _ n_b11_b2.ne.symm).trans ((upd_ne _ _ n_b10_b2.ne.symm).trans ((upd_ne _ _ n_b9_b2.ne.symm).trans ((upd_ne _ _ n_b8_b2.ne.symm).trans ((upd_ne _ _ n_b7_b2.ne.symm).trans ((upd_ne _ _ n_b6_b2.ne.symm).trans ((upd_ne _ _ n_b5_b2.ne.symm).trans ((upd_ne _ _ n_b4_b2.ne.symm).trans ((upd_ne _ _ n_b3_b2.ne.symm).trans (upd_same _ _ _))))))))))))))))))) rfl sz31 rfl rfl (trC_length _)) ?_
                refine Ops_quiet _ rfl rfl (QO.loadRow (cs := trC r20.1) (hr := (rdAll ((upd_ne _ _ n_b18_b17.ne.symm).trans (upd_same _ _ _)))) rfl sz31 rfl rfl (trC_length _)) ?_
                refine Ops_quiet _ rfl rfl (QO.fieldAt (fo := 0) rfl sz28 rfl rfl sz2 rfl rfl) ?_
                refine Ops_quiet _ rfl rfl (QO.load rfl sz2 rfl rfl (by (refine (rd_own ((upd_ne _ _ n_b18_b1.ne.symm).trans ((upd_ne _ _ n_b17_b1.ne.symm).trans ((upd_ne _ _ n_b16_b1.ne.symm).trans ((upd_ne _ _ n_b15_b1.ne.symm).trans ((upd_ne _ _ n_b14_b1.ne.symm).trans ((upd_ne _ _ n_b13_b1.ne.symm).trans ((upd_ne _ _ n_b12_b1.ne.symm).trans ((upd_ne _ _ n_b11_b1.ne.symm).trans ((upd_ne _ _ n_b10_b1.ne.symm).trans ((upd_ne _ _ n_b9_b1.ne.symm).trans ((upd_ne _ _ n_b8_b1.ne.symm).trans ((upd_ne _ _ n_b7_b1.ne.symm).trans ((upd_ne _ _ n_b6_b1.ne.symm).trans ((upd_ne _ _ n_b5_b1.ne.symm).trans ((upd_ne _ _ n_b4_b1.ne.symm).trans ((upd_ne _ _ n_b3_b1.ne.symm).trans ((upd_ne _ _ n_b2_b1.ne.symm).trans (upd_same _ _ _)))))))))))))))))) _).trans ?_); exact rfl)) ?_
                have hq := Option.bind_eq_some_iff.1 hm; clear hm; obtain ⟨r22, hr22, hm⟩ := hq
                refine Ops_call _ _ rfl rfl (EO.fn rfl Try.func9 rfl rfl (Evs.cons rfl (Evs.cons rfl (Evs.cons rfl Evs.nil)))) (QC.cc (c_impl_ThenTriples hr22 ) ?_)
                refine Ops_quiet _ rfl rfl (QO.move rfl rfl) ?_
                refine Ops_quiet _ rfl rfl (QO.extract rfl rfl rfl) ?_
                refine Ops_quiet _ rfl rfl (QO.extract rfl rfl rfl) ?_
                refine Ops_loud rfl (LO.alloc rfl zr31 rfl (fun b19 hb19 => ?_))
                simp only [upd_noneA] at hb19
                obtain ⟨n_b19_b18, n_b19_b17, n_b19_b16, n_b19_b15, n_b19_b14, n_b19_b13, n_b19_b12, n_b19_b11, n_b19_b10, n_b19_b9, n_b19_b8, n_b19_b7, n_b19_b6, n_b19_b5, n_b19_b4, n_b19_b3, n_b19_b2, n_b19_b1, hb19⟩ := hb19
                refine Ops_loud rfl (LO.storeAll (cs := trC r22.1) rfl sz31 rfl rfl (trC_one _) (trC_length _) (upd_same _ _ _) (trC_length _) Chg.here rfl ?_)
                refine Ops_quiet _ rfl rfl (QO.assign rfl rfl) ?_
                refine Ops_nil ?_
                refine thenA_n ?_
                refine wpA_seq ?_
                refine wpA_region ?_
                refine Ops_quiet _ rfl rfl (QO.loadRow (cs := sqC r2.1) (hr := (rdAll ((upd_ne _ _ n_b19_b1.ne.symm).trans ((upd_ne _ _ n_b18_b1.ne.symm).trans ((upd_ne _ _ n_b17_b1.ne.symm).trans ((upd_ne _ _ n_b16_b1.ne.symm).trans ((upd_ne _ _ n_b15_b1.ne.symm).trans ((upd_ne _ _ n_b14_b1.ne.symm).trans ((upd_ne _ _ n_b13_b1.ne.symm).trans ((upd_ne _ _ n_b12_b1.ne.symm).trans ((upd_ne _ _ n_b11_b1.ne.symm).trans ((upd_ne _ _ n_b10_b1.ne.symm).trans ((upd_ne _ _ n_b9_b1.ne.symm).trans ((upd_ne _ _ n_b8_b1.ne.symm).trans ((upd_ne _ _ n_b7_b1.ne.symm).trans ((upd_ne _ _ n_b6_b1.ne.symm).trans ((upd_ne _ _ n_b5_b1.ne.symm).trans ((upd_ne _ _ n_b4_b1.ne.symm).trans ((upd_ne _ _ n_b3_b1.ne.symm).trans ((upd_ne _ _ n_b2_b1.ne.symm).trans (upd_same _ _ _))))))))))))))))))))) rfl sz28 rfl rfl (sqC_length _)) ?_
                refine Ops_quiet _ rfl rfl (QO.loadRow (cs := trC r22.1) (hr := (rdAll (upd_same _ _ _))) rfl sz31 rfl rfl (trC_length _)) ?_
                have hq := Option.bind_eq_some_iff.1 hm; clear hm; obtain ⟨r23, hr23, hm⟩ := hq
                refine Ops_call _ _ rfl rfl (EO.fn rfl Try.func17 rfl rfl (Evs.cons rfl (Evs.cons rfl Evs.nil))) (QC.cc (c_impl_IsAutotopism hr23 ) ?_)
                refine Ops_quiet _ rfl rfl (QO.move rfl rfl) ?_
                refine Ops_quiet _ rfl rfl (QO.extract rfl rfl rfl) ?_
                refine Ops_quiet _ rfl rfl (QO.extract rfl rfl rfl) ?_
                refine Ops_quiet _ rfl rfl (QO.assign rfl rfl) ?_
                refine Ops_quiet _ rfl rfl (QO.assign rfl rfl) ?_
                refine Ops_nil ?_
                refine thenA_n ?_
                refine wpA_seq ?_
                refine wpA_region ?_
                refine Ops_quiet _ rfl rfl (QO.move rfl rfl) ?_
                refine Ops_quiet _ rfl rfl (QO.bin rfl rfl rfl rfl) ?_
                refine Ops_quiet _ rfl rfl (QO.move rfl rfl) ?_
                refine Ops_case 226 rfl (fun g16 => ?_) (fun g16 => ?_)
                ·replace hm := cond_t hm g16
                 refine Ops_quiet _ rfl rfl (QO.move rfl rfl) ?_
                 refine Ops_quiet _ rfl rfl (QO.bin rfl rfl rfl rfl) ?_
                 refine Ops_quiet _ rfl rfl (QO.pick_t rfl rfl rfl) ?_
                 refine Ops_quiet _ rfl rfl (QO.move rfl rfl) ?_
                 refine Ops_case 230 rfl (fun g17 => ?_) (fun g17 => ?_)
                 ·replace hm := cond_t hm g17
                  refine Ops_quiet _ rfl rfl (QO.loadRow (cs := sqC r21.1) (hr := (rdAll ((upd_ne _ _ n_b19_b18.ne.symm).trans (upd_same _ _ _)))) rfl sz28 rfl rfl (sqC_length _)) ?_
                  refine Ops_quiet _ rfl rfl (QO.loadRow (cs := sqC r2.1) (hr := (rdAll ((upd_ne _ _ n_b19_b1.ne.symm).trans ((upd_ne _ _ n_b18_b1.ne.symm).trans ((upd_ne _ _ n_b17_b1.ne.symm).trans ((upd_ne _ _ n_b16_b1.ne.symm).trans ((upd_ne _ _ n_b15_b1.ne.symm).trans ((upd_ne _ _ n_b14_b1.ne.symm).trans ((upd_ne _ _ n_b13_b1.ne.symm).trans ((upd_ne _ _ n_b12_b1.ne.symm).trans ((upd_ne _ _ n_b11_b1.ne.symm).trans ((upd_ne _ _ n_b10_b1.ne.symm).trans ((upd_ne _ _ n_b9_b1.ne.symm).trans ((upd_ne _ _ n_b8_b1.ne.symm).trans ((upd_ne _ _ n_b7_b1.ne.symm).trans ((upd_ne _ _ n_b6_b1.ne.symm).trans ((upd_ne _ _ n_b5_b1.ne.symm).trans ((upd_ne _ _ n_b4_b1.ne.symm).trans ((upd_ne _ _ n_b3_b1.ne.symm).trans ((upd_ne _ _ n_b2_b1.ne.symm).trans (upd_same _ _ _))))))))))))))))))))) rfl sz28 rfl rfl (sqC_length _)) ?_
                  refine Ops_quiet _ rfl rfl (QO.agg_eql rfl rfl rfl eg28 (eqv28 _ _) rfl) ?_
                  refine Ops_quiet _ rfl rfl (QO.pick_t rfl rfl rfl) ?_
                  refine Ops_quiet _ rfl rfl (QO.move rfl rfl) ?_
                  refine Ops_case 235 rfl (fun g18 => ?_) (fun g18 => ?_)
                  ·replace hm := cond_t hm g18
                   refine Ops_quiet _ rfl rfl (QO.move rfl rfl) ?_
                   refine Ops_quiet _ rfl rfl (QO.bin rfl rfl rfl rfl) ?_
                   refine Ops_quiet _ rfl rfl (QO.pick_t rfl rfl rfl) ?_
                   refine Ops_quiet _ rfl rfl (QO.move rfl rfl) ?_
                   refine Ops_case 239 rfl (fun g19 => ?_) (fun g19 => ?_)
                   ·replace hm := cond_t hm g19
                    refine Ops_quiet _ rfl rfl (QO.move rfl rfl) ?_
                    refine Ops_quiet _ rfl rfl (QO.bin rfl rfl rfl rfl) ?_
                    refine Ops_quiet _ rfl rfl (QO.pick_t rfl rfl rfl) ?_
                    refine Ops_quiet _ rfl rfl (QO.move rfl rfl) ?_
                    refine Ops_case 243 rfl (fun g20 => ?_) (fun g20 => ?_)
                    ·replace hm := cond_t hm g20
                     refine Ops_quiet _ rfl rfl (QO.move rfl rfl) ?_
                     refine Ops_quiet _ rfl rfl (QO.pick_t rfl rfl rfl) ?_
                     refine Ops_quiet _ rfl rfl (QO.move rfl rfl) ?_
                     refine Ops_case 246 rfl (fun g21 => ?_) (fun g21 => ?_)
                     ·replace hm := cond_t hm g21
                      refine Ops_quiet _ rfl rfl (QO.loadRow (cs := sqC r3.1) (hr := (rdAll ((upd_ne _ _ n_b19_b3.ne.symm).trans ((upd_ne _ _ n_b18_b3.ne.symm).trans ((upd_ne _ _ n_b17_b3.ne.symm).trans ((upd_ne _ _ n_b16_b3.ne.symm).trans ((upd_ne _ _ n_b15_b3.ne.symm).trans ((upd_ne _ _ n_b14_b3.ne.symm).trans ((upd_ne _ _ n_b13_b3.ne.symm).trans ((upd_ne _ _ n_b12_b3.ne.symm).trans ((upd_ne _ _ n_b11_b3.ne.symm).trans ((upd_ne _ _ n_b10_b3.ne.symm).trans ((upd_ne _ _ n_b9_b3.ne.symm).trans ((upd_ne _ _ n_b8_b3.ne.symm).trans ((upd_ne _ _ n_b7_b3.ne.symm).trans ((upd_ne _ _ n_b6_b3.ne.symm).trans ((upd_ne _ _ n_b5_b3.ne.symm).trans ((upd_ne _ _ n_b4_b3.ne.symm).trans (upd_same _ _ _))))))))))))))))))) rfl sz28 rfl rfl (sqC_length _)) ?_
                      have hq := Option.bind_eq_some_iff.1 hm; clear hm; obtain ⟨r24, hr24, hm⟩ := hq
                      refine Ops_call _ _ rfl rfl (EO.fn rfl Try.func23 rfl rfl (Evs.cons rfl Evs.nil)) (QC.cc (c_impl_IsSquare hr24 ) ?_)
                      refine Ops_quiet _ rfl rfl (QO.pick_t rfl rfl rfl) ?_
                      refine Ops_quiet _ rfl rfl (QO.assign rfl rfl) ?_
                      refine Ops_nil ?_
                      refine thenA_n ?_
                      refine wpA_ret ?_
                      obtain rfl := Option.some.inj hm
                      exact retA_r (h2 := h) (Res.one rfl (rfl)) (Le.under (Le.under (Le.under (Le.under (Le.under (Le.under (Le.under (Le.under (Le.under (Le.under (Le.under (Le.under (Le.under (Le.under (Le.under (Le.under (Le.under (Le.under (Le.under (Le.refl _) hb1) hb2) hb3) hb4) hb5) hb6) hb7) hb8) hb9) hb10) hb11) hb12) hb13) hb14) hb15) hb16) hb17) hb18) hb19) ⟨rfl, rfl⟩
                     ·replace hm := cond_f hm g21
                      refine Ops_skip rfl rfl ?_
                      refine Ops_skip rfl rfl ?_
                      refine Ops_quiet _ rfl rfl (QO.pick_f rfl rfl rfl) ?_
                      refine Ops_quiet _ rfl rfl (QO.assign rfl rfl) ?_
                      refine Ops_nil ?_
                      refine thenA_n ?_
                      refine wpA_ret ?_
                      obtain rfl := Option.some.inj hm
                      exact retA_r (h2 := h) (Res.one rfl (rfl)) (Le.under (Le.under (Le.under (Le.under (Le.under (Le.under (Le.under (Le.under (Le.under (Le.under (Le.under (Le.under (Le.under (Le.under (Le.under (Le.under (Le.under (Le.under (Le.under (Le.refl _) hb1) hb2) hb3) hb4) hb5) hb6) hb7) hb8) hb9) hb10) hb11) hb12) hb13) hb14) hb15) hb16) hb17) hb18) hb19) ⟨rfl, rfl⟩
                    ·replace hm := cond_f hm g20
                     refine Ops_skip rfl rfl ?_
                     refine Ops_quiet _ rfl rfl (QO.pick_f rfl rfl rfl) ?_
                     refine Ops_quiet _ rfl rfl (QO.move rfl rfl) ?_
                     refine Ops_skip rfl rfl ?_
                     refine Ops_skip rfl rfl ?_
                     refine Ops_quiet _ rfl rfl (QO.pick_f rfl rfl rfl) ?_
                     refine Ops_quiet _ rfl rfl (QO.assign rfl rfl) ?_
                     refine Ops_nil ?_
                     refine thenA_n ?_
                     refine wpA_ret ?_
                     obtain rfl := Option.some.inj hm
                     exact retA_r (h2 := h) (Res.one rfl (rfl)) (Le.under (Le.under (Le.under (Le.under (Le.under (Le.under (Le.under (Le.under (Le.under (Le.under (Le.under (Le.under (Le.under (Le.under (Le.under (Le.under (Le.under (Le.under (Le.under (Le.refl _) hb1) hb2) hb3) hb4) hb5) hb6) hb7) hb8) hb9) hb10) hb11) hb12) hb13) hb14) hb15) hb16) hb17) hb18) hb19) ⟨rfl, rfl⟩
                   ·replace hm := cond_f hm g19
                    refine Ops_skip rfl rfl ?_
                    refine Ops_skip rfl rfl ?_
                    refine Ops_quiet _ rfl rfl (QO.pick_f rfl rfl rfl) ?_
                    refine Ops_quiet _ rfl rfl (QO.move rfl rfl) ?_
                    refine Ops_skip rfl rfl ?_
                    refine Ops_quiet _ rfl rfl (QO.pick_f rfl rfl rfl) ?_
                    refine Ops_quiet _ rfl rfl (QO.move rfl rfl) ?_
                    refine Ops_skip rfl rfl ?_
                    refine Ops_skip rfl rfl ?_
                    refine Ops_quiet _ rfl rfl (QO.pick_f rfl rfl rfl) ?_
                    refine Ops_quiet _ rfl rfl (QO.assign rfl rfl) ?_
                    refine Ops_nil ?_
                    refine thenA_n ?_
                    refine wpA_ret ?_
                    obtain rfl := Option.some.inj hm
                    exact retA_r (h2 := h) (Res.one rfl (rfl)) (Le.under (Le.under (Le.under (Le.under (Le.under (Le.under (Le.under (Le.under (Le.under (Le.under (Le.under (Le.under (Le.under (Le.under (Le.under (Le.under (Le.under (Le.under (Le.under (Le.refl _) hb1) hb2) hb3) hb4) hb5) hb6) hb7) hb8) hb9) hb10) hb11) hb12) hb13) hb14) hb15) hb16) hb17) hb18) hb19) ⟨rfl, rfl⟩
                  ·replace hm := cond_f hm g18
                   refine Ops_skip rfl rfl ?_
                   refine Ops_skip rfl rfl ?_
                   refine Ops_quiet _ rfl rfl (QO.pick_f rfl rfl rfl) ?_
                   refine Ops_quiet _ rfl rfl (QO.move rfl rfl) ?_
                   refine Ops_skip rfl rfl ?_
                   refine Ops_skip rfl rfl ?_
                   refine Ops_quiet _ rfl rfl (QO.pick_f rfl rfl rfl) ?_
                   refine Ops_quiet _ rfl rfl (QO.move rfl rfl) ?_
                   refine Ops_skip rfl rfl ?_
                   refine Ops_quiet _ rfl rfl (QO.pick_f rfl rfl rfl) ?_
                   refine Ops_quiet _ rfl rfl (QO.move rfl rfl) ?_
                   refine Ops_skip rfl rfl ?_
                   refine Ops_skip rfl rfl ?_
                   refine Ops_quiet _ rfl rfl (QO.pick_f rfl rfl rfl) ?_
                   refine Ops_quiet _ rfl rfl (QO.assign rfl rfl) ?_
                   refine Ops_nil ?_
                   refine thenA_n ?_
                   refine wpA_ret ?_
                   obtain rfl := Option.some.inj hm
                   exact retA_r (h2 := h) (Res.one rfl (rfl)) (Le.under (Le.under (Le.under (Le.under (Le.under (Le.under (Le.under (Le.under (Le.under (Le.under (Le.under (Le.under (Le.under (Le.under (Le.under (Le.under (Le.under (Le.under (Le.under (Le.refl _) hb1) hb2) hb3) hb4) hb5) hb6) hb7) hb8) hb9) hb10) hb11) hb12) hb13) hb14) hb15) hb16) hb17) hb18) hb19) ⟨rfl, rfl⟩
                 ·replace hm := cond_f hm g17
                  refine Ops_skip rfl rfl ?_
                  refine Ops_skip rfl rfl ?_
                  refine Ops_skip rfl rfl ?_
                  refine Ops_quiet _ rfl rfl (QO.pick_f rfl rfl rfl) ?_
                  refine Ops_quiet _ rfl rfl (QO.move rfl rfl) ?_
                  refine Ops_skip rfl rfl ?_
                  refine Ops_skip rfl rfl ?_
                  refine Ops_quiet _ rfl rfl (QO.pick_f rfl rfl rfl) ?_
                  refine Ops_quiet _ rfl rfl (QO.move rfl rfl) ?_
                  refine Ops_skip rfl rfl ?_
                  refine Ops_skip rfl rfl ?_
                  refine Ops_quiet _ rfl rfl (QO.pick_f rfl rfl rfl) ?_
                  refine Ops_quiet _ rfl rfl (QO.move rfl rfl) ?_
                  refine Ops_skip rfl rfl ?_
                  refine Ops_quiet _ rfl rfl (QO.pick_f rfl rfl rfl) ?_
                  refine Ops_quiet _ rfl rfl (QO.move rfl rfl) ?_
                  refine Ops_skip rfl rfl ?_
                  refine Ops_skip rfl rfl ?_
                  refine Ops_quiet _ rfl rfl (QO.pick_f rfl rfl rfl) ?_
                  refine Ops_quiet _ rfl rfl (QO.assign rfl rfl) ?_
                  refine Ops_nil ?_
                  refine thenA_n ?_
                  refine wpA_ret ?_
                  obtain rfl := Option.some.inj hm
                  exact retA_r (h2 := h) (Res.one rfl (rfl)) (Le.under (Le.under (Le.under (Le.under (Le.under (Le.under (Le.under (Le.under (Le.under (Le.under (Le.under (Le.under (Le.under (Le.under (Le.under (Le.under (Le.under (Le.under (Le.under (Le.refl _) hb1) hb2) hb3) hb4) hb5) hb6) hb7) hb8) hb9) hb10) hb11) hb12) hb13) hb14) hb15) hb16) hb17) hb18) hb19) ⟨rfl, rfl⟩
                ·replace hm := cond_f hm g16
                 refine Ops_skip rfl rfl ?_
                 refine Ops_skip rfl rfl ?_
                 refine Ops_quiet _ rfl rfl (QO.pick_f rfl rfl rfl) ?_
                 refine Ops_quiet _ rfl rfl (QO.move rfl rfl) ?_
                 refine Ops_skip rfl rfl ?_
                 refine Ops_skip rfl rfl ?_
                 refine Ops_skip rfl rfl ?_
                 refine Ops_quiet _ rfl rfl (QO.pick_f rfl rfl rfl) ?_
                 refine Ops_quiet _ rfl rfl (QO.move rfl rfl) ?_
                 refine Ops_skip rfl rfl ?_
                 refine Ops_skip rfl rfl ?_
                 refine Ops_quiet _ rfl rfl (QO.pick_f rfl rfl rfl) ?_
                 refine Ops_quiet _ rfl rfl (QO.move rfl rfl) ?_
                 refine Ops_skip rfl rfl ?_
                 refine Ops_skip rfl rfl ?_
                 refine Ops_quiet _ rfl rfl (QO.pick_f rfl rfl rfl) ?_
                 refine Ops_quiet _ rfl rfl (QO.move rfl rfl) ?_
                 refine Ops_skip rfl rfl ?_
                 refine Ops_quiet _ rfl rfl (QO.pick_f rfl rfl rfl) ?_
                 refine Ops_quiet _ rfl rfl (QO.move rfl rfl) ?_
                 refine Ops_skip rfl rfl ?_
                 refine Ops_skip rfl rfl ?_
                 refine Ops_quiet _ rfl rfl (QO.pick_f rfl rfl rfl) ?_
                 refine Ops_quiet _ rfl rfl (QO.assign rfl rfl) ?_
                 refine Ops_nil ?_
                 refine thenA_n ?_
                 refine wpA_ret ?_
                 obtain rfl := Option.some.inj hm
                 exact retA_r (h2 := h) (Res.one rfl (rfl)) (Le.under (Le.under (Le.under (Le.under (Le.under (Le.under (Le.under (Le.under (Le.under (Le.under (Le.under (Le.under (Le.under (Le.under (Le.under (Le.under (Le.under (Le.under (Le.under (Le.refl _) hb1) hb2) hb3) hb4) hb5) hb6) hb7) hb8) hb9) hb10) hb11) hb12) hb13) hb14) hb15) hb16) hb17) hb18) hb19) ⟨rfl, rfl⟩
             ·replace hm := cond_f hm g13
              refine Ops_skip rfl rfl ?_
              refine Ops_skip rfl rfl ?_
              refine Ops_skip rfl rfl ?_
              refine Ops_quiet _ rfl rfl (QO.pick_f rfl rfl rfl) ?_
              refine Ops_nil ?_
              refine thenA_n ?_
              refine wpA_cond_f rfl ?_
              refine wpA_skip ?_
              refine thenA_n ?_
              refine wpA_seq ?_
              refine wpA_seq ?_
              refine wpA_region ?_
              refine Ops_quiet _ rfl rfl (QO.move rfl rfl) ?_
              refine Ops_quiet _ rfl rfl (QO.bin rfl rfl rfl rfl) ?_
              refine Ops_nil ?_
              refine thenA_n ?_
              refine wpA_cond rfl (fun g22 => ?_) (fun g22 => ?_)
              ·replace hm := cond_t hm g22
               refine wpA_seq ?_
               refine wpA_region ?_
               refine Ops_quiet _ rfl rfl (QO.fieldAt (fo := 0) rfl sz28 rfl rfl sz2 rfl rfl) ?_
               refine Ops_quiet _ rfl rfl (QO.load rfl sz2 rfl rfl (by (refine (rd_own ((upd_ne _ _ n_b16_b3.ne.symm).trans ((upd_ne _ _ n_b15_b3.ne.symm).trans ((upd_ne _ _ n_b14_b3.ne.symm).trans ((upd_ne _ _ n_b13_b3.ne.symm).trans ((upd_ne _ _ n_b12_b3.ne.symm).trans ((upd_ne _ _ n_b11_b3.ne.symm).trans ((upd_ne _ _ n_b10_b3.ne.symm).trans ((upd_ne _ _ n_b9_b3.ne.symm).trans ((upd_ne _ _ n_b8_b3.ne.symm).trans ((upd_ne _ _ n_b7_b3.ne.symm).trans ((upd_ne _ _ n_b6_b3.ne.symm).trans ((upd_ne _ _ n_b5_b3.ne.symm).trans ((upd_ne _ _ n_b4_b3.ne.symm).trans (upd_same _ _ _)))))))))))))) _).trans ?_); exact rfl)) ?_
               refine Ops_quiet _ rfl rfl (QO.bin rfl rfl rfl rfl) ?_
               refine Ops_quiet _ rfl rfl (QO.assign rfl rfl) ?_
               refine Ops_nil ?_
               refine thenA_n ?_
               refine wpA_ret ?_
               refine thenA_r ?_
               obtain rfl := Option.some.inj hm
               exact retA_r (h2 := h) (Res.one rfl (rfl)) (Le.under (Le.under (Le.under (Le.under (Le.under (Le.under (Le.under (Le.under (Le.under (Le.under (Le.under (Le.under (Le.under (Le.under (Le.under (Le.under (Le.refl _) hb1) hb2) hb3) hb4) hb5) hb6) hb7) hb8) hb9) hb10) hb11) hb12) hb13) hb14) hb15) hb16) ⟨rfl, rfl⟩
              ·replace hm := cond_f hm g22
               refine wpA_skip ?_
               refine thenA_n ?_
               refine wpA_seq ?_
               refine wpA_region ?_
               refine Ops_quiet _ rfl rfl (QO.loadRow (cs := trC r2.2) (hr := (rdAll ((upd_ne _ _ n_b16_b2.ne.symm).trans ((upd_ne _ _ n_b15_b2.ne.symm).trans ((upd_ne _ _ n_b14_b2.ne.symm).trans ((upd_ne _ _ n_b13_b2.ne.symm).trans ((upd_ne _ _ n_b12_b2.ne.symm).trans ((upd_ne _ _ n_b11_b2.ne.symm).trans ((upd_ne _ _ n_b10_b2.ne.symm).trans ((upd_ne _ _ n_b9_b2.ne.symm).trans ((upd_ne _ _ n_b8_b2.ne.symm).trans ((upd_ne _ _ n_b7_b2.ne.symm).trans ((upd_ne _ _ n_b6_b2.ne.symm).trans ((upd_ne _ _ n_b5_b2.ne.symm).trans ((upd_ne _ _ n_b4_b2.ne.symm).trans ((upd_ne _ _ n_b3_b2.ne.symm).trans (upd_same _ _ _))))))))))))))))) rfl sz31 rfl rfl (trC_length _)) ?_
               refine Ops_quiet _ rfl rfl (QO.fieldAt (fo := 0) rfl sz28 rfl rfl sz2 rfl rfl) ?_
               refine Ops_quiet _ rfl rfl (QO.load rfl sz2 rfl rfl (by (refine (rd_own ((upd_ne _ _ n_b16_b1.ne.symm).trans ((upd_ne _ _ n_b15_b1.ne.symm).trans ((upd_ne _ _ n_b14_b1.ne.symm).trans ((upd_ne _ _ n_b13_b1.ne.symm).trans ((upd_ne _ _ n_b12_b1.ne.symm).trans ((upd_ne _ _ n_b11_b1.ne.symm).trans ((upd_ne _ _ n_b10_b1.ne.symm).trans ((upd_ne _ _ n_b9_b1.ne.symm).trans ((upd_ne _ _ n_b8_b1.ne.symm).trans ((upd_ne _ _ n_b7_b1.ne.symm).trans ((upd_ne _ _ n_b6_b1.ne.symm).trans ((upd_ne _ _ n_b5_b1.ne.symm).trans ((upd_ne _ _ n_b4_b1.ne.symm).trans ((upd_ne _ _ n_b3_b1.ne.symm).trans ((upd_ne _ _ n_b2_b1.ne.symm).trans (upd_same _ _ _)))))))))))))))) _).trans ?_); exact rfl)) ?_
               have hq := Option.bind_eq_some_iff.1 hm; clear hm; obtain ⟨r25, hr25, hm⟩ := hq
               refine Ops_call _ _ rfl rfl (EO.fn rfl Try.func12 rfl rfl (Evs.cons rfl (Evs.cons rfl Evs.nil))) (QC.cc (c_impl_BackTriple hr25 ) ?_)
               refine Ops_quiet _ rfl rfl (QO.move rfl rfl) ?_
               refine Ops_quiet _ rfl rfl (QO.extract rfl rfl rfl) ?_
               refine Ops_quiet _ rfl rfl (QO.extract rfl rfl rfl) ?_
               refine Ops_loud rfl (LO.alloc rfl zr31 rfl (fun b20 hb20 => ?_))
               simp only [upd_noneA] at hb20
               obtain ⟨n_b20_b16, n_b20_b15, n_b20_b14, n_b20_b13, n_b20_b12, n_b20_b11, n_b20_b10, n_b20_b9, n_b20_b8, n_b20_b7, n_b20_b6, n_b20_b5, n_b20_b4, n_b20_b3, n_b20_b2, n_b20_b1, hb20⟩ := hb20
               refine Ops_loud rfl (LO.storeAll (cs := trC r25.1) rfl sz31 rfl rfl (trC_one _) (trC_length _) (upd_same _ _ _) (trC_length _) Chg.here rfl ?_)
               refine Ops_quiet _ rfl rfl (QO.assign rfl rfl) ?_
               refine Ops_nil ?_
               refine thenA_n ?_
               refine wpA_seq ?_
               refine wpA_region ?_
               refine Ops_quiet _ rfl rfl (QO.loadRow (cs := sqC r3.1) (hr := (rdAll ((upd_ne _ _ n_b20_b3.ne.symm).trans ((upd_ne _ _ n_b16_b3.ne.symm).trans ((upd_ne _ _ n_b15_b3.ne.symm).trans ((upd_ne _ _ n_b14_b3.ne.symm).trans ((upd_ne _ _ n_b13_b3.ne.symm).trans ((upd_ne _ _ n_b12_b3.ne.symm).trans ((upd_ne _ _ n_b11_b3.ne.symm).trans ((upd_ne _ _ n_b10_b3.ne.symm).trans ((upd_ne _ _ n_b9_b3.ne.symm).trans ((upd_ne _ _ n_b8_b3.ne.symm).trans ((upd_ne _ _ n_b7_b3.ne.symm).trans ((upd_ne _ _ n_b6_b3.ne.symm).trans ((upd_ne _ _ n_b5_b3.ne.symm).trans ((upd_ne _ _ n_b4_b3.ne.symm).trans (upd_same _ _ _))))))))))))))))) rfl sz28 rfl rfl (sqC_length _)) ?_
               refine Ops_quiet _ rfl rfl (QO.loadRow (cs := trC r25.1) (hr := (rdAll (upd_same _ _ _))) rfl sz31 rfl rfl (trC_length _)) ?_
               have hq := Option.bind_eq_some_iff.1 hm; clear hm; obtain ⟨r26, hr26, hm⟩ := hq
               refine Ops_call _ _ rfl rfl (EO.fn rfl Try.func6 rfl rfl (Evs.cons rfl (Evs.cons rfl Evs.nil))) (QC.cc (c_impl_IsotopeOf hr26 ) ?_)
               refine Ops_quiet _ rfl rfl (QO.move rfl rfl) ?_
               refine Ops_quiet _ rfl rfl (QO.extract rfl rfl rfl) ?_
               refine Ops_quiet _ rfl rfl (QO.extract rfl rfl rfl) ?_
               refine Ops_loud rfl (LO.alloc rfl zr28 rfl (fun b21 hb21 => ?_))
               simp only [upd_noneA] at hb21
               obtain ⟨n_b21_b20, n_b21_b16, n_b21_b15, n_b21_b14, n_b21_b13, n_b21_b12, n_b21_b11, n_b21_b10, n_b21_b9, n_b21_b8, n_b21_b7, n_b21_b6, n_b21_b5, n_b21_b4, n_b21_b3, n_b21_b2, n_b21_b1, hb21⟩ := hb21
               refine Ops_loud rfl (LO.storeAll (cs := sqC r26.1) rfl sz28 rfl rfl (sqC_one _) (sqC_length _) (upd_same _ _ _) (sqC_length _) Chg.here rfl ?_)
               refine Ops_quiet _ rfl rfl (QO.assign rfl rfl) ?_
               refine Ops_nil ?_
               refine thenA_n ?_
               refine wpA_seq ?_
               refine wpA_region ?_
               refine Ops_quiet _ rfl rfl (QO.loadRow (cs := trC r2.2) (hr := (rdAll ((upd_ne _ _ n_b21_b2.ne.symm).trans ((upd_ne _ _ n_b20_b2.ne.symm).trans ((upd_ne _ _ n_b16_b2.ne.symm).trans ((upd_ne _ _ n_b15_b2.ne.symm).trans ((upd_ne _ _ n_b14_b2.ne.symm).trans ((upd_ne _ _ n_b13_b2.ne.symm).trans ((upd_ne _ _ n_b12_b2.ne.symm).trans ((upd_ne _ _ n_b11_b2.ne.symm).trans ((upd_ne _ _ n_b10_b2.ne.symm).trans ((upd_ne _ _ n_b9_b2.ne.symm).trans ((upd_ne _ _ n_b8_b2.ne.symm).trans ((upd_ne _ _ n_b7_b2.ne.symm).trans ((upd_ne _ _ n_b6_b2.ne.symm).trans ((upd_ne _ _ n_b5_b2.ne.symm).trans ((upd_ne _ _ n_b4_b2.ne.symm).trans ((upd_ne _ _ n_b3_b2.ne.symm).trans (upd_same _ _ _))))))))))))))))))) rfl sz31 rfl rfl (trC_length _)) ?_
               refine Ops_quiet _ rfl rfl (QO.loadRow (cs := trC r25.1) (hr := (rdAll ((upd_ne _ _ n_b21_b20.ne.symm).trans (upd_same _ _ _)))) rfl sz31 rfl rfl (trC_length _)) ?_
               refine Ops_quiet _ rfl rfl (QO.fieldAt (fo := 0) rfl sz28 rfl rfl sz2 rfl rfl) ?_
               refine Ops_quiet _ rfl rfl (QO.load rfl sz2 rfl rfl (by (refine (rd_own ((upd_ne _ _ n_b21_b1.ne.symm).trans ((upd_ne _ _ n_b20_b1.ne.symm).trans ((upd_ne _ _ n_b16_b1.ne.symm).trans ((upd_ne _ _ n_b15_b1.ne.symm).trans ((upd_ne _ _ n_b14_b1.ne.symm).trans ((upd_ne _ _ n_b13_b1.ne.symm).trans ((upd_ne _ _ n_b12_b1.ne.symm).trans ((upd_ne _ _ n_b11_b1.ne.symm).trans ((upd_ne _ _ n_b10_b1.ne.symm).trans ((upd_ne _ _ n_b9_b1.ne.symm).trans ((upd_ne _ _ n_b8_b1.ne.symm).trans ((upd_ne _ _ n_b7_b1.ne.symm).trans ((upd_ne _ _ n_b6_b1.ne.symm).trans ((upd_ne _ _ n_b5_b1.ne.symm).trans ((upd_ne _ _ n_b4_b1.ne.symm).trans ((upd_ne _ _ n_b3_b1.ne.symm).trans ((upd_ne _ _ n_b2_b1.ne.symm).trans (upd_same _ _ _)))))))))))))))))) _).trans ?_); exact rfl)) ?_
               have hq := Option.bind_eq_some_iff.1 hm; clear hm; obtain ⟨r27, hr27, hm⟩ := hq
               refine Ops_call _ _ rfl rfl (EO.fn rfl Try.func9 rfl rfl (Evs.cons rfl (Evs.cons rfl (Evs.cons rfl Evs.nil)))) (QC.cc (c_impl_ThenTriples hr27 ) ?_)
               refine Ops_quiet _ rfl rfl (QO.move rfl rfl) ?_
               refine Ops_quiet _ rfl rfl (QO.extract rfl rfl rfl) ?_
               refine Ops_quiet _ rfl rfl (QO.extract rfl rfl rfl) ?_
               refine Ops_loud rfl (LO.alloc rfl zr31 rfl (fun b22 hb22 => ?_))
               simp only [upd_noneA] at hb22
               obtain ⟨n_b22_b21, n_b22_b20, n_b22_b16, n_b22_b15, n_b22_b14, n_b22_b13, n_b22_b12, n_b22_b11, n_b22_b10, n_b22_b9, n_b22_b8, n_b22_b7, n_b22_b6, n_b22_b5, n_b22_b4, n_b22_b3, n_b22_b2, n_b22_b1, hb22⟩ := hb22
               refine Ops_loud rfl (LO.storeAll (cs := trC r27.1) rfl sz31 rfl rfl (trC_one _) (trC_length _) (upd_same _ _ _) (trC_length _) Chg.here rfl ?_)
               refine Ops_quiet _ rfl rfl (QO.assign rfl rfl) ?_
               refine Ops_nil ?_
               refine thenA_n ?_
               refine wpA_seq ?_
               refine wpA_region ?_
               refine Ops_quiet _ rfl rfl (QO.loadRow (cs := sqC r2.1) (hr := (rdAll ((upd_ne _ _ n_b22_b1.ne.symm).trans ((upd_ne _ _ n_b21_b1.ne.symm).trans ((upd_ne _ _ n_b20_b1.ne.symm).trans ((upd_ne _ _ n_b16_b1.ne.symm).trans ((upd_ne _ _ n_b15_b1.ne.symm).trans ((upd_ne _ _ n_b14_b1.ne.symm).trans ((upd_ne _ _ n_b13_b1.ne.symm).trans ((upd_ne _ _ n_b12_b1.ne.symm).trans ((upd_ne _ _ n_b11_b1.ne.symm).trans ((upd_ne _ _ n_b10_b1.ne.symm).trans ((upd_ne _ _ n_b9_b1.ne.symm).trans ((upd_ne _ _ n_b8_b1.ne.symm).trans ((upd_ne _ _ n_b7_b1.ne.symm).trans ((upd_ne _ _ n_b6_b1.ne.symm).trans ((upd_ne _ _ n_b5_b1.ne.symm).trans ((upd_ne _ _ n_b4_b1.ne.symm).trans ((upd_ne _ _ n_b3_b1.ne.symm).trans ((upd_ne _ _ n_b2_b1.ne.symm).trans (upd_same _ _ _))))))))))))))))))))) rfl sz28 rfl rfl (sqC_length _)) ?_
               refine Ops_quiet _ rfl rfl (QO.loadRow (cs := trC r27.1) (hr := (rdAll (upd_same _ _ _))) rfl sz31 rfl rfl (trC_length _)) ?_
               have hq := Option.bind_eq_some_iff.1 hm; clear hm; obtain ⟨r28, hr28, hm⟩ := hq
               refine Ops_call _ _ rfl rfl (EO.fn rfl Try.func17 rfl rfl (Evs.cons rfl (Evs.cons rfl Evs.nil))) (QC.cc (c_impl_IsAutotopism hr28 ) ?_)
               refine Ops_quiet _ rfl rfl (QO.move rfl rfl) ?_
               refine Ops_quiet _ rfl rfl (QO.extract rfl rfl rfl) ?_
               refine Ops_quiet _ rfl rfl (QO.extract rfl rfl rfl) ?_
               refine Ops_quiet _ rfl rfl (QO.assign rfl rfl) ?_
               refine Ops_quiet _ rfl rfl (QO.assign rfl rfl) ?_
               refine Ops_nil ?_
               refine thenA_n ?_
               refine wpA_seq ?_
               refine wpA_region ?_
               refine Ops_quiet _ rfl rfl (QO.move rfl rfl) ?_
               refine Ops_quiet _ rfl rfl (QO.bin rfl rfl rfl rfl) ?_
               refine Ops_quiet _ rfl rfl (QO.move rfl rfl) ?_
               refine Ops_case 226 rfl (fun g23 => ?_) (fun g23 => ?_)
               ·replace hm := cond_t hm g23
                refine Ops_quiet _ rfl rfl (QO.move rfl rfl) ?_
                refine Ops_quiet _ rfl rfl (QO.bin rfl rfl rfl rfl) ?_
                refine Ops_quiet _ rfl rfl (QO.pick_t rfl rfl rfl) ?_
                refine Ops_quiet _ rfl rfl (QO.move rfl rfl) ?_
                refine Ops_case 230 rfl (fun g24 => ?_) (fun g24 => ?_)
                ·replace hm := cond_t hm g24
                 refine Ops_quiet _ rfl rfl (QO.loadRow (cs := sqC r26.1) (hr := (rdAll ((upd_ne _ _ n_b22_b21.ne.symm).trans (upd_same _ _ _)))) rfl sz28 rfl rfl (sqC_length _)) ?_
                 refine Ops_quiet _ rfl rfl (QO.loadRow (cs := sqC r2.1) (hr := (rdAll ((upd_ne _ _ n_b22_b1.ne.symm).trans ((upd_ne _ _ n_b21_b1.ne.symm).trans ((upd_ne _ _ n_b20_b1.ne.symm).trans ((upd_ne _ _ n_b16_b1.ne.symm).trans ((upd_ne _ _ n_b15_b1.ne.symm).trans ((upd_ne _ _ n_b14_b1.ne.symm).trans ((upd_ne _ _ n_b13_b1.ne.symm).trans ((upd_ne _ _ n_b12_b1.ne.symm).trans ((upd_ne _ _ n_b11_b1.ne.symm).trans ((upd_ne _ _ n_b10_b1.ne.symm).trans ((upd_ne _ _ n_b9_b1.ne.symm).trans ((upd_ne _ _ n_b8_b1.ne.symm).trans ((upd_ne _ _ n_b7_b1.ne.symm).trans ((upd_ne _ _ n_b6_b1.ne.symm).trans ((upd_ne _ _ n_b5_b1.ne.symm).trans ((upd_ne _ _ n_b4_b1.ne.symm).trans ((upd_ne _ _ n_b3_b1.ne.symm).trans ((upd_ne _ _ n_b2_b1.ne.symm).trans (upd_same _ _ _))))))))))))))))))))) rfl sz28 rfl rfl (sqC_length _)) ?_
                 refine Ops_quiet _ rfl rfl (QO.agg_eql rfl rfl rfl eg28 (eqv28 _ _) rfl) ?_
                 refine Ops_quiet _ rfl rfl (QO.pick_t rfl rfl rfl) ?_
                 refine Ops_quiet _ rfl rfl (QO.move rfl rfl) ?_
                 refine Ops_case 235 rfl (fun g25 => ?_) (fun g25 => ?_)
                 ·replace hm := cond_t hm g25
                  refine Ops_quiet _ rfl rfl (QO.move rfl rfl) ?_
                  refine Ops_quiet _ rfl rfl (QO.bin rfl rfl rfl rfl) ?_
                  refine Ops_quiet _ rfl rfl (QO.pick_t rfl rfl rfl) ?_
                  refine Ops_quiet _ rfl rfl (QO.move rfl rfl) ?_
                  refine Ops_case 239 rfl (fun g26 => ?_) (fun g26 => ?_)
                  ·replace hm := cond_t hm g26
                   refine Ops_quiet _ rfl rfl (QO.move rfl rfl) ?_
                   refine Ops_quiet _ rfl rfl (QO.bin rfl rfl rfl rfl) ?_
                   refine Ops_quiet _ rfl rfl (QO.pick_t rfl rfl rfl) ?_
                   refine Ops_quiet _ rfl rfl (QO.move rfl rfl) ?_
                   refine Ops_case 243 rfl (fun g27 => ?_) (fun g27 => ?_)
                   ·replace hm := cond_t hm g27
                    refine Ops_quiet _ rfl rfl (QO.move rfl rfl) ?_
                    refine Ops_quiet _ rfl rfl (QO.pick_t rfl rfl rfl) ?_
                    refine Ops_quiet _ rfl rfl (QO.move rfl rfl) ?_
                    refine Ops_case 246 rfl (fun g28 => ?_) (fun g28 => ?_)
                    ·replace hm := cond_t hm g28
                     refine Ops_quiet _ rfl rfl (QO.loadRow (cs := sqC r3.1) (hr := (rdAll ((upd_ne _ _ n_b22_b3.ne.symm).trans ((upd_ne _ _ n_b21_b3.ne.symm).trans ((upd_ne _ _ n_b20_b3.ne.symm).trans ((upd_ne _ _ n_b16_b3.ne.symm).trans ((upd_ne _ _ n_b15_b3.ne.symm).trans ((upd_ne _ _ n_b14_b3.ne.symm).trans ((upd_ne _ _ n_b13_b3.ne.symm).trans ((upd_ne _ _ n_b12_b3.ne.symm).trans ((upd_ne _ _ n_b11_b3.ne.symm).trans ((upd_ne _ _ n_b10_b3.ne.symm).trans ((upd_ne _ _ n_b9_b3.ne.symm).trans ((upd_ne _ _ n_b8_b3.ne.symm).trans ((upd_ne _ _ n_b7_b3.ne.symm).trans ((upd_ne _ _ n_b6_b3.ne.symm).trans ((upd_ne _ _ n_b5_b3.ne.symm).trans ((upd_ne _ _ n_b4_b3.ne.symm).trans (upd_same _ _ _))))))))))))))))))) rfl sz28 rfl rfl (sqC_length _)) ?_
                     have hq := Option.bind_eq_some_iff.1 hm; clear hm; obtain ⟨r29, hr29, hm⟩ := hq
                     refine Ops_call _ _ rfl rfl (EO.fn rfl Try.func23 rfl rfl (Evs.cons rfl Evs.nil)) (QC.cc (c_impl_IsSquare hr29 ) ?_)
                     refine Ops_quiet _ rfl rfl (QO.pick_t rfl rfl rfl) ?_
                     refine Ops_quiet _ rfl rfl (QO.assign rfl rfl) ?_
                     refine Ops_nil ?_
                     refine thenA_n ?_
                     refine wpA_ret ?_
                     obtain rfl := Option.some.inj hm
                     exact retA_r (h2 := h) (Res.one rfl (rfl)) (Le.under (Le.under (Le.under (Le.under (Le.under (Le.under (Le.under (Le.under (Le.under (Le.under (Le.under (Le.under (Le.under (Le.under (Le.under (Le.under (Le.under (Le.under (Le.under (Le.refl _) hb1) hb2) hb3) hb4) hb5) hb6) hb7) hb8) hb9) hb10) hb11) hb12) hb13) hb14) hb15) hb16) hb20) hb21) hb22) ⟨rfl, rfl⟩
                    ·replace hm := cond_f hm g28
                     refine Ops_skip rfl rfl ?_
                     refine Ops_skip rfl rfl ?_
                     refine Ops_quiet _ rfl rfl (QO.pick_f rfl rfl rfl) ?_
                     refine Ops_quiet _ rfl rfl (QO.assign rfl rfl) ?_
                     refine Ops_nil ?_
                     refine thenA_n ?_
                     refine wpA_ret ?_
                     obtain rfl := Option.some.inj hm
                     exact retA_r (h2 := h) (Res.one rfl (rfl)) (Le.under (Le.under (Le.under (Le.under (Le.under (Le.under (Le.under (Le.under (Le.under (Le.under (Le.under (Le.under (Le.under (Le.under (Le.under (Le.under (Le.under (Le.under (Le.under (Le.refl _) hb1) hb2) hb3) hb4) hb5) hb6) hb7) hb8) hb9) hb10) hb11) hb12) hb13) hb14) hb15) hb16) hb20) hb21) hb22) ⟨rfl, rfl⟩
                   ·replace hm := cond_f hm g27
                    refine Ops_skip rfl rfl ?_
                    refine Ops_quiet _ rfl rfl (QO.pick_f rfl rfl rfl) ?_
                    refine Ops_quiet _ rfl rfl (QO.move rfl rfl) ?_
                    refine Ops_skip rfl rfl ?_
                    refine Ops_skip rfl rfl ?_
                    refine Ops_quiet _ rfl rfl (QO.pick_f rfl rfl rfl) ?_
                    refine Ops_quiet _ rfl rfl (QO.assign rfl rfl) ?_
                    refine Ops_nil ?_
                    refine thenA_n ?_
                    refine wpA_ret ?_
                    obtain rfl := Option.some.inj hm
                    exact retA_r (h2 := h) (Res.one rfl (rfl)) (Le.under (Le.under (Le.under (Le.under (Le.under (Le.under (Le.under (Le.under (Le.under (Le.under (Le.under (Le.under (Le.under (Le.under (Le.under (Le.under (Le.under (Le.under (Le.under (Le.refl _) hb1) hb2) hb3) hb4) hb5) hb6) hb7) hb8) hb9) hb10) hb11) hb12) hb13) hb14) hb15) hb16) hb20) hb21) hb22) ⟨rfl, rfl⟩
                  ·replace hm := cond_f hm g26
                   refine Ops_skip rfl rfl ?_
                   refine Ops_skip rfl rfl ?_
                   refine Ops_quiet _ rfl rfl (QO.pick_f rfl rfl rfl) ?_
                   refine Ops_quiet _ rfl rfl (QO.move rfl rfl) ?_
                   refine Ops_skip rfl rfl ?_
                   refine Ops_quiet _ rfl rfl (QO.pick_f rfl rfl rfl) ?_
                   refine Ops_quiet _ rfl rfl (QO.move rfl rfl) ?_
                   refine Ops_skip rfl rfl ?_
                   refine Ops_skip rfl rfl ?_
                   refine Ops_quiet _ rfl rfl (QO.pick_f rfl rfl rfl) ?_
                   refine Ops_quiet _ rfl rfl (QO.assign rfl rfl) ?_
                   refine Ops_nil ?_
                   refine thenA_n ?_
                   refine wpA_ret ?_
                   obtain rfl := Option.some.inj hm
                   exact retA_r (h2 := h) (Res.one rfl (rfl)) (Le.under (Le.under (Le.under (Le.under (Le.under (Le.under (Le.under (Le.under (Le.under (Le.under (Le.under (Le.under (Le.under (Le.under (Le.under (Le.under (Le.under (Le.under (Le.under (Le.refl _) hb1) hb2) hb3) hb4) hb5) hb6) hb7) hb8) hb9) hb10) hb11) hb12) hb13) hb14) hb15) hb16) hb20) hb21) hb22) ⟨rfl, rfl⟩
                 ·replace hm := cond_f hm g25
                  refine Ops_skip rfl rfl ?_
                  refine Ops_skip rfl rfl ?_
                  refine Ops_quiet _ rfl rfl (QO.pick_f rfl rfl rfl) ?_
                  refine Ops_quiet _ rfl rfl (QO.move rfl rfl) ?_
                  refine Ops_skip rfl rfl ?_
                  refine Ops_skip rfl rfl ?_
                  refine Ops_quiet _ rfl rfl (QO.pick_f rfl rfl rfl) ?_
                  refine Ops_quiet _ rfl rfl (QO.move rfl rfl) ?_
                  refine Ops_skip rfl rfl ?_
                  refine Ops_quiet _ rfl rfl (QO.pick_f rfl rfl rfl) ?_
                  refine Ops_quiet _ rfl rfl (QO.move rfl rfl) ?_
                  refine Ops_skip rfl rfl ?_
                  refine Ops_skip rfl rfl ?_
                  refine Ops_quiet _ rfl rfl (QO.pick_f rfl rfl rfl) ?_
                  refine Ops_quiet _ rfl rfl (QO.assign rfl rfl) ?_
                  refine Ops_nil ?_
                  refine thenA_n ?_
                  refine wpA_ret ?_
                  obtain rfl := Option.some.inj hm
                  exact retA_r (h2 := h) (Res.one rfl (rfl)) (Le.under (Le.under (Le.under (Le.under (Le.under (Le.under (Le.under (Le.under (Le.under (Le.under (Le.under (Le.under (Le.under (Le.under (Le.under (Le.under (Le.under (Le.under (Le.under (Le.refl _) hb1) hb2) hb3) hb4) hb5) hb6) hb7) hb8) hb9) hb10) hb11) hb12) hb13) hb14) hb15) hb16) hb20) hb21) hb22) ⟨rfl, rfl⟩
                ·replace hm := cond_f hm g24
                 refine Ops_skip rfl rfl ?_
                 refine Ops_skip rfl rfl ?_
                 refine Ops_skip rfl rfl ?_
                 refine Ops_quiet _ rfl rfl (QO.pick_f rfl rfl rfl) ?_
                 refine Ops_quiet _ rfl rfl (QO.move rfl rfl) ?_
                 refine Ops_skip rfl rfl ?_
                 refine Ops_skip rfl rfl ?_
                 refine Ops_quiet _ rfl rfl (QO.pick_f rfl rfl rfl) ?_
                 refine Ops_quiet _ rfl rfl (QO.move rfl rfl) ?_
                 refine Ops_skip rfl rfl ?_
                 refine Ops_skip rfl rfl ?_
                 refine Ops_quiet _ rfl rfl (QO.pick_f rfl rfl rfl) ?_
                 refine Ops_quiet _ rfl rfl (QO.move rfl rfl) ?_
                 refine Ops_skip rfl rfl ?_
                 refine Ops_quiet _ rfl rfl (QO.pick_f rfl rfl rfl) ?_
                 refine Ops_quiet _ rfl rfl (QO.move rfl rfl) ?_
                 refine Ops_skip rfl rfl ?_
                 refine Ops_skip rfl rfl ?_
                 refine Ops_quiet _ rfl rfl (QO.pick_f rfl rfl rfl) ?_
                 refine Ops_quiet _ rfl rfl (QO.assign rfl rfl) ?_
                 refine Ops_nil ?_
                 refine thenA_n ?_
                 refine wpA_ret ?_
                 obtain rfl := Option.some.inj hm
                 exact retA_r (h2 := h) (Res.one rfl (rfl)) (Le.under (Le.under (Le.under (Le.under (Le.under (Le.under (Le.under (Le.under (Le.under (Le.under (Le.under (Le.under (Le.under (Le.under (Le.under (Le.under (Le.under (Le.under (Le.under (Le.refl _) hb1) hb2) hb3) hb4) hb5) hb6) hb7) hb8) hb9) hb10) hb11) hb12) hb13) hb14) hb15) hb16) hb20) hb21) hb22) ⟨rfl, rfl⟩
               ·replace hm := cond_f hm g23
                refine Ops_skip rfl rfl ?_
                refine Ops_skip rfl rfl ?_
                refine Ops_quiet _ rfl rfl (QO.pick_f rfl rfl rfl) ?_
                refine Ops_quiet _ rfl rfl (QO.move rfl rfl) ?_
                refine Ops_skip rfl rfl ?_
                refine Ops_skip rfl rfl ?_
                refine Ops_skip rfl rfl ?_
                refine Ops_quiet _ rfl rfl (QO.pick_f rfl rfl rfl) ?_
                refine Ops_quiet _ rfl rfl (QO.move rfl rfl) ?_
                refine Ops_skip rfl rfl ?_
                refine Ops_skip rfl rfl ?_
                refine Ops_quiet _ rfl rfl (QO.pick_f rfl rfl rfl) ?_
                refine Ops_quiet _ rfl rfl (QO.move rfl rfl) ?_
                refine Ops_skip rfl rfl ?_
                refine Ops_skip rfl rfl ?_
                refine Ops_quiet _ rfl rfl (QO.pick_f rfl rfl rfl) ?_
                refine Ops_quiet _ rfl rfl (QO.move rfl rfl) ?_
                refine Ops_skip rfl rfl ?_
                refine Ops_quiet _ rfl rfl (QO.pick_f rfl rfl rfl) ?_
                refine Ops_quiet _ rfl rfl (QO.move rfl rfl) ?_
                refine Ops_skip rfl rfl ?_
                refine Ops_skip rfl rfl ?_
                refine Ops_quiet _ rfl rfl (QO.pick_f rfl rfl rfl) ?_
                refine Ops_quiet _ rfl rfl (QO.assign rfl rfl) ?_
                refine Ops_nil ?_
                refine thenA_n ?_
                refine wpA_ret ?_
                obtain rfl := Option.some.inj hm
                exact retA_r (h2 := h) (Res.one rfl (rfl)) (Le.under (Le.under (Le.under (Le.under (Le.under (Le.under (Le.under (Le.under (Le.under (Le.under (Le.under (Le.under (Le.under (Le.under (Le.under (Le.under (Le.under (Le.under (Le.under (Le.refl _) hb1) hb2) hb3) hb4) hb5) hb6) hb7) hb8) hb9) hb10) hb11) hb12) hb13) hb14) hb15) hb16) hb20) hb21) hb22) ⟨rfl, rfl⟩
end Go.Lab
