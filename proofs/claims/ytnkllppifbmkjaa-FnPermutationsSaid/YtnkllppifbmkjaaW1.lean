/- The walks: each function computes what its model tells. -/
import Derived.Test.YtnkllppifbmkjaaM
import Derived.Test.YtnkllppifbmkjaaProg
set_option linter.unusedVariables false
set_option linter.unusedSimpArgs false
namespace Go.Lab
open Go Go.Abs Go.Proofs
set_option maxRecDepth 20000
set_option linter.unusedVariables false
set_option linter.unusedSimpArgs false
theorem sz2 : Sz Try.prog 2 (.int .i64) 1 := ⟨Try.underlying2, by kernel_rfl⟩
theorem sz3 : Sz Try.prog 3 (.int .i64) 1 := ⟨Try.underlying3, by kernel_rfl⟩
theorem sz4 : Sz Try.prog 4 .bool 1 := ⟨Try.underlying4, by kernel_rfl⟩
theorem sz5 : Sz Try.prog 5 (.int .u8) 1 := ⟨Try.underlying5, by kernel_rfl⟩
theorem sz9 : Sz Try.prog 9 .string 1 := ⟨Try.underlying9, by kernel_rfl⟩
theorem sz22 : Sz Try.prog 22 (.slice 5) 1 := ⟨Try.underlying22, by kernel_rfl⟩
theorem sz24 : Sz Try.prog 24 (.array 10 5) 10 := ⟨Try.underlying24, by kernel_rfl⟩
theorem sz25 : Sz Try.prog 25 (.array 10 5) 10 := ⟨Try.underlying25, by kernel_rfl⟩
theorem sz35 : Sz Try.prog 35 (.array 10 24) 100 := ⟨Try.underlying35, by kernel_rfl⟩
theorem sz37 : Sz Try.prog 37 (.struct #[⟨ "Order", 2, 0, false, "", "", 0⟩, ⟨ "Table", 35, 1, false, "", "", 8⟩]) 101 := ⟨Try.underlying37, by kernel_rfl⟩
theorem sz63 : Sz Try.prog 63 (.int .u64) 1 := ⟨Try.underlying63, by kernel_rfl⟩
theorem sz65 : Sz Try.prog 65 (.struct #[⟨ "code", 22, 0, false, "", "loop.example/g01195/spec", 0⟩, ⟨ "at", 3, 1, false, "", "loop.example/g01195/spec", 24⟩, ⟨ "hash", 63, 2, false, "", "loop.example/g01195/spec", 32⟩]) 3 := ⟨Try.underlying65, by kernel_rfl⟩
theorem sz68 : Sz Try.prog 68 (.slice 25) 1 := ⟨Try.underlying68, by kernel_rfl⟩
theorem sz69 : Sz Try.prog 69 (.array 10 4) 10 := ⟨Try.underlying69, by kernel_rfl⟩
theorem sz70 : Sz Try.prog 70 (.slice 2) 1 := ⟨Try.underlying70, by kernel_rfl⟩
theorem sz78 : Sz Try.prog 78 (.slice 9) 1 := ⟨Try.underlying78, by kernel_rfl⟩
theorem zr2 : Zr Try.prog 2 ([.int .i64 0]) := by unfold Zr; kernel_rfl
theorem zr5 : Zr Try.prog 5 ([.int .u8 0]) := by unfold Zr; kernel_rfl
theorem zr9 : Zr Try.prog 9 ([.string ⟨#[]⟩]) := by unfold Zr; kernel_rfl
theorem zr25 : Zr Try.prog 25 (tabI .u8 pl0 10) := by unfold Zr; kernel_rfl
theorem zr35 : Zr Try.prog 35 (tbC tb0) := by unfold Zr; kernel_rfl
theorem zr37 : Zr Try.prog 37 (sqC sq0) := by unfold Zr; kernel_rfl
theorem zr69 : Zr Try.prog 69 (tabB bl0 10) := by unfold Zr; kernel_rfl
theorem el5 : El Try.prog 5 1 1 := El.of (by kernel_rfl) (by decide)
theorem el9 : El Try.prog 9 1 16 := El.of (by kernel_rfl) (by decide)
theorem bd24 : Try.prog.built 24 [] = some (tabI .u8 pl0 10).toArray := by kernel_rfl
theorem bd25 : Try.prog.built 25 [] = some (tabI .u8 pl0 10).toArray := by kernel_rfl
theorem bd35 : Try.prog.built 35 [] = some (tbC tb0).toArray := by kernel_rfl
theorem bd37 : Try.prog.built 37 [] = some (sqC sq0).toArray := by kernel_rfl
theorem bd37_0 (v0 : Int) : Try.prog.built 37 [(0, .int .i64 v0)] = some (sqC (⟨v0, tb0⟩ : Sq)).toArray := by kernel_rfl
theorem bd37_0_1 (v0 : Int) (v1 : (Nat → Nat → Int)) : Try.prog.built 37 [(0, .int .i64 v0), (1, .agg (tbC v1).toArray)] = some (sqC (⟨v0, v1⟩ : Sq)).toArray := by kernel_rfl
theorem bd65_0_2 (A : Option Addr) (n c : Nat) (v : Int) : Try.prog.built 65 [(0, .slice A n c), (2, .int .u64 v)] = some (srcC A n c ⟨0, v⟩).toArray := by kernel_rfl
theorem bd69 : Try.prog.built 69 [] = some (tabB bl0 10).toArray := by kernel_rfl
theorem eg24 : Try.prog.eqGuardType Try.prog.depth 24 = false := by kernel_rfl
theorem eqv24 (p q : (Nat → Int)) : EqV Try.prog 2 24 (.agg (tabI .u8 p 10).toArray) (.agg (tabI .u8 q 10).toArray) (eqPl p q) := eqPl_v sz24 sz5
theorem eg25 : Try.prog.eqGuardType Try.prog.depth 25 = false := by kernel_rfl
theorem eqv25 (p q : (Nat → Int)) : EqV Try.prog 2 25 (.agg (tabI .u8 p 10).toArray) (.agg (tabI .u8 q 10).toArray) (eqPl p q) := eqPl_v sz25 sz5
theorem eg37 : Try.prog.eqGuardType Try.prog.depth 37 = false := by kernel_rfl
theorem eqv37 (p q : Sq) : EqV Try.prog 4 37 (.agg (sqC p).toArray) (.agg (sqC q).toArray) (eqSq p q) := eqSq_v sz37 rfl rfl rfl rfl (by kernel_rfl) sz2 sz35 sz24 sz5

/-! loop.example/g01195/laws.big -/
theorem c_laws_big {l0 : (List Int)} {A0 : Option Addr} {c0 : Nat} {h : Hp} {r : Bool} (hm : m_laws_big l0 = some r) (hs0 : RdS h A0 (ints .u8 l0)) :
    QC Try.prog 4 #[.slice A0 l0.length c0] h (.bool r) := by
 unfold m_laws_big at hm
 refine CC.enter Try.func4 rfl Try.ntmps4 rfl ?_
 refine wpA_seq ?_
 refine wpA_region ?_
 refine Ops_quiet _ rfl rfl (QO.assign rfl rfl) ?_
 refine Ops_nil ?_
 refine thenA_n ?_
 refine wpA_seq ?_
 refine wpA_region ?_
 refine Ops_quiet _ rfl rfl (QO.move rfl rfl) ?_
 refine Ops_quiet _ rfl rfl (QO.lenSl rfl sz22 rfl) ?_
 refine Ops_quiet _ rfl rfl (QO.bin rfl rfl rfl rfl) ?_
 refine Ops_quiet _ rfl rfl (QO.assign rfl rfl) ?_
 refine Ops_nil ?_
 refine thenA_n ?_
 refine wpA_ret ?_
 obtain rfl := Option.some.inj hm
 exact retA_r (h2 := h) (Res.one rfl (rfl)) (Le.refl _) ⟨rfl, rfl⟩

/-! loop.example/g01195/spec.l01From -/
theorem c_spec_l01From {l0 : (List Int)} {A0 : Option Addr} {c0 : Nat} {h : Hp} {r : Src} (hm : m_spec_l01From l0 = some r) (hs0 : RdS h A0 (ints .u8 l0)) :
    CC Try.prog 25 #[.slice A0 l0.length c0] (h) (fun v h' => ∃ (b0 : Nat), (h) b0 = none ∧ v = .pointer (some ⟨b0, 0, none⟩) ∧ h' = upd (h) b0 (.own 65 (srcC A0 l0.length c0 r) 3)) := by
 unfold m_spec_l01From at hm
 refine CC.enter Try.func25 rfl Try.ntmps25 rfl ?_
 refine wpA_seq ?_
 refine wpA_region ?_
 refine Ops_quiet _ rfl rfl (QO.assign rfl rfl) ?_
 refine Ops_nil ?_
 refine thenA_n ?_
 refine wpA_seq ?_
 refine wpA_region ?_
 refine Ops_quiet _ rfl rfl (QO.move rfl rfl) ?_
 refine Ops_quiet _ rfl rfl (QO.move rfl rfl) ?_
 refine Ops_quiet _ rfl rfl (QO.lenSl rfl sz22 rfl) ?_
 refine Ops_quiet _ rfl rfl (QO.conv rfl sz3 sz63 rfl) ?_
 refine Ops_quiet _ rfl rfl (QO.bin rfl rfl rfl rfl) ?_
 refine Ops_quiet _ rfl rfl (QO.build2 rfl rfl rfl (bd65_0_2 _ _ _ _)) ?_
 refine Ops_loud rfl (LO.boxAgg rfl rfl rfl (fun b1 hb1 => ?_))
 refine Ops_quiet _ rfl rfl (QO.assign rfl rfl) ?_
 refine Ops_nil ?_
 refine thenA_n ?_
 refine wpA_seq ?_
 refine wpA_seq ?_
 refine wpA_region ?_
 refine Ops_quiet _ rfl rfl (QO.assign rfl rfl) ?_
 refine Ops_nil ?_
 refine thenA_n ?_
 refine wpA_block ?_
 obtain ⟨R1, hR, hm⟩ := Option.bind_eq_some_iff.1 hm
 obtain ⟨k1, hk1⟩ := loopV_some hR
 clear hR
 refine wpA_mono (Q := fun e s' h' => match (generalizing := false) R1 with | .stop x id => e = .exit id ∧ ∃ (x1 : Int) (x2 : Src), x = (x1, x2) ∧ Sub s' [(0, .slice A0 l0.length c0), (3, .pointer (some ⟨b1, 0, none⟩)), (4, .int .i64 x1)] ∧ Le (upd (h) b1 (.own 65 (srcC A0 l0.length c0 x2) 3)) h' | .ret r => False | .next _ => False) ?_ ?_
 ·refine wpA_loop (fun k s' h' => ∃ (x1 : Int) (x2 : Src), loopW (m_spec_l01From_l0 l0) k (x1, x2) = some R1 ∧ Sub s' [(0, .slice A0 l0.length c0), (3, .pointer (some ⟨b1, 0, none⟩)), (4, .int .i64 x1)] ∧ Le (upd (h) b1 (.own 65 (srcC A0 l0.length c0 x2) 3)) h') (m := k1) ⟨0, (⟨0, (IntKind.u64.wrap (7351 + (IntKind.u64.wrap ((l0.length : Nat) : Int))))⟩ : Src), hk1, (Sub.cons rfl (Sub.cons rfl (Sub.cons rfl Sub.nil))), (Le.upd_left (Le.under (Le.refl _) hb1) (upd_same _ _ _) (by first | rfl | (simp; done)))⟩ ?_
  rintro k1 s' h' ⟨x1, x2, hk1, hsub, hle⟩
  refine wpA_weaken hsub.ok hle ?_
  clear hsub hle s' h'
  cases k1 with
  | zero => exact absurd hk1 (by simp [loopW])
  | succ k1 =>
   obtain ⟨o1, ho1, hk1⟩ := loopW_succ hk1
   unfold m_spec_l01From_l0 at ho1
   try dsimp only at ho1
   refine wpA_seq ?_
   refine wpA_seq ?_
   refine wpA_region ?_
   refine Ops_quiet _ rfl rfl (QO.move rfl rfl) ?_
   refine Ops_quiet _ rfl rfl (QO.move rfl rfl) ?_
   refine Ops_quiet _ rfl rfl (QO.lenSl rfl sz22 rfl) ?_
   refine Ops_quiet _ rfl rfl (QO.bin rfl rfl rfl rfl) ?_
   refine Ops_quiet _ rfl rfl (QO.move rfl rfl) ?_
   refine Ops_case 16 rfl (fun g1 => ?_) (fun g1 => ?_)
   ·replace ho1 := cond_t ho1 g1
    refine Ops_quiet _ rfl rfl (QO.move rfl rfl) ?_
    refine Ops_quiet _ rfl rfl (QO.bin rfl rfl rfl rfl) ?_
    refine Ops_quiet _ rfl rfl (QO.pick_t rfl rfl rfl) ?_
    refine Ops_nil ?_
    refine thenA_n ?_
    refine wpA_cond rfl (fun g2 => ?_) (fun g2 => ?_)
    ·replace ho1 := cond_t ho1 g2
     refine wpA_skip ?_
     refine thenA_n ?_
     refine wpA_seq ?_
     refine wpA_block ?_
     refine wpA_any (upd (h) b1 (.own 65 (srcC A0 l0.length c0 x2) 3)) [15] [15] (by kernel_rfl) (by kernel_rfl) (DW.start ?_)
     refine DW.pure' 0 _ rfl (by kernel_rfl) rfl (fun _ => QO.move rfl rfl) ?_
     refine DW.pure' 1 _ rfl (by kernel_rfl) rfl (fun _ => QO.move rfl rfl) ?_
     refine DW.pure' 2 _ rfl (by kernel_rfl) rfl (fun _ => QO.nilCheck rfl rfl) ?_
     refine DW.pure' 3 _ rfl (by kernel_rfl) rfl (fun _ => QO.fieldAt (fo := 2) rfl sz65 rfl rfl sz63 rfl rfl) ?_
     refine DW.read' 4 _ rfl (by kernel_rfl) rfl (QO.load rfl sz63 rfl rfl (by (refine (rd_own (upd_same _ _ _) _).trans ?_); exact rfl)) ?_
     refine DW.pure' 5 _ rfl (by kernel_rfl) rfl (fun _ => QO.bin rfl rfl rfl rfl) ?_
     refine DW.pure' 6 _ rfl (by kernel_rfl) rfl (fun _ => QO.move rfl rfl) ?_
     refine DW.pure' 7 _ rfl (by kernel_rfl) rfl (fun _ => QO.move rfl rfl) ?_
     have hq := chk ho1; clear ho1; obtain ⟨ck1, ho1⟩ := hq
     refine DW.pure' 8 _ rfl (by kernel_rfl) rfl (fun _ => QO.idxRd2 rfl sz22 sz5 rfl rfl (by omega) (by omega) hs0 (by simp [sqC_length, tbC_length, tabI_length, tabB_length, ints_length, plsC_length, trC_length, sqsC_length, strsC_length, boolsC_length, tbB_length, List.length_append, List.length_cons, List.length_nil, List.length_set, List.length_replicate, rep_length]) (by decide)) ?_
     refine DW.read' 9 _ rfl (by kernel_rfl) rfl (QO.load rfl sz5 rfl rfl (by first | exact (RdS.rd (RdS.le hs0 (Le.under (Le.refl _) hb1)) (by first | rfl | exact sqC_get (by omega) (by omega) | exact tbC_get (by omega) (by omega) | exact tbB_get (by omega) (by omega) | exact tabI_get01 (by omega) | exact tabB_get01 (by omega) | exact ints_get01 (by omega) | exact boolsC_get01 (by omega) | exact tabI_get (by omega) | exact tabB_get (by omega) | exact ints_get1 (by omega) | exact strsC_get01 (by omega) | exact strsC_get1 (by omega) | exact plsC_get (by omega) (by omega) | exact trC_a (by omega) | exact trC_b (by omega) | exact trC_c (by omega) | exact sqsC_ord (by omega) | exact sqsC_get (by omega) (by omega) (by omega))) | exact (RdS.rd2 (RdS.le hs0 (Le.under (Le.refl _) hb1)) (by first | rfl | exact sqC_get (by omega) (by omega) | exact tbC_get (by omega) (by omega) | exact tbB_get (by omega) (by omega) | exact tabI_get01 (by omega) | exact tabB_get01 (by omega) | exact ints_get01 (by omega) | exact boolsC_get01 (by omega) | exact tabI_get (by omega) | exact tabB_get (by omega) | exact ints_get1 (by omega) | exact strsC_get01 (by omega) | exact strsC_get1 (by omega) | exact plsC_get (by omega) (by omega) | exact trC_a (by omega) | exact trC_b (by omega) | exact trC_c (by omega) | exact sqsC_ord (by omega) | exact sqsC_get (by omega) (by omega) (by omega))) | exact (RdS.rd3 (RdS.le hs0 (Le.under (Le.refl _) hb1)) (by first | rfl | exact sqC_get (by omega) (by omega) | exact tbC_get (by omega) (by omega) | exact tbB_get (by omega) (by omega) | exact tabI_get01 (by omega) | exact tabB_get01 (by omega) | exact ints_get01 (by omega) | exact boolsC_get01 (by omega) | exact tabI_get (by omega) | exact tabB_get (by omega) | exact ints_get1 (by omega) | exact strsC_get01 (by omega) | exact strsC_get1 (by omega) | exact plsC_get (by omega) (by omega) | exact trC_a (by omega) | exact trC_b (by omega) | exact trC_c (by omega) | exact sqsC_ord (by omega) | exact sqsC_get (by omega) (by omega) (by omega))))) ?_
     refine DW.pure' 10 _ rfl (by kernel_rfl) rfl (fun _ => QO.conv rfl sz5 sz63 rfl) ?_
     refine DW.pure' 11 _ rfl (by kernel_rfl) rfl (fun _ => QO.bin rfl rfl rfl rfl) ?_
     refine DW.pure' 12 _ rfl (by kernel_rfl) rfl (fun _ => QO.bin rfl rfl rfl rfl) ?_
     refine DW.pure' 13 _ rfl (by kernel_rfl) rfl (fun _ => QO.nilCheck rfl rfl) ?_
     refine DW.pure' 14 _ rfl (by kernel_rfl) rfl (fun _ => QO.fieldAt (fo := 2) rfl sz65 rfl rfl sz63 rfl rfl) ?_
     refine DW.loud 15 rfl (by kernel_rfl) rfl rfl (LO.store' (xs' := srcC A0 l0.length c0 (⟨x2.at_, (IntKind.u64.wrap ((IntKind.u64.wrap ((IntKind.u64.wrap (x2.hash * 1099511628211)) + (IntKind.u64.wrap (l0.getD (x1).toNat 0)))) + 19))⟩ : Src)) rfl sz63 rfl rfl rfl (upd_same _ _ _) (by first | ((try simp only [sqC_length, tbC_length, tabI_length, tabB_length, ints_length, plsC_length, trC_length, sqsC_length, strsC_length, boolsC_length, tbB_length, List.length_append, List.length_cons, List.length_nil, List.length_set, List.length_replicate, rep_length]); first | omega | decide) | exact Nat.le_of_ble_eq_true rfl) rfl Chg.here rfl ?_)
     refine ⟨(fun e => absurd e (by decide)), ?_⟩
     refine DW.done (by kernel_rfl) ?_ _
     refine blockA_n ?_
     refine thenA_n ?_
     refine wpA_region ?_
     refine Ops_quiet _ rfl rfl (QO.move rfl rfl) ?_
     refine Ops_quiet _ rfl rfl (QO.bin rfl rfl rfl rfl) ?_
     refine Ops_quiet _ rfl rfl (QO.assign rfl rfl) ?_
     refine Ops_nil ?_
     obtain rfl := Option.some.inj ho1
     dsimp only at hk1
     exact thenA_n ⟨k1, Nat.lt_succ_self _, _, _, hk1, (Sub.cons rfl (Sub.cons rfl (Sub.cons rfl Sub.nil))), (Le.upd_left (Le.under (Le.refl _) hb1) (upd_same _ _ _) (by first | rfl | (simp; done)))⟩
    ·replace ho1 := cond_f ho1 g2
     refine wpA_exit ?_
     refine thenA_e ?_
     refine thenA_e ?_
     obtain rfl := Option.some.inj ho1
     obtain rfl := Option.some.inj hk1
     exact ⟨rfl, _, _, rfl, (Sub.cons rfl (Sub.cons rfl (Sub.cons rfl Sub.nil))), (Le.upd_left (Le.under (Le.refl _) hb1) (upd_same _ _ _) (by first | rfl | (simp; done)))⟩
   ·replace ho1 := cond_f ho1 g1
    refine Ops_skip rfl rfl ?_
    refine Ops_skip rfl rfl ?_
    refine Ops_quiet _ rfl rfl (QO.pick_f rfl rfl rfl) ?_
    refine Ops_nil ?_
    refine thenA_n ?_
    refine wpA_cond_f rfl ?_
    refine wpA_exit ?_
    refine thenA_e ?_
    refine thenA_e ?_
    obtain rfl := Option.some.inj ho1
    obtain rfl := Option.some.inj hk1
    exact ⟨rfl, _, _, rfl, (Sub.cons rfl (Sub.cons rfl (Sub.cons rfl Sub.nil))), (Le.upd_left (Le.under (Le.refl _) hb1) (upd_same _ _ _) (by first | rfl | (simp; done)))⟩
 ·intro e s' h' hq
  cases R1 with
  | next x => exact hq.elim
  | ret r => exact hq.elim
  | stop x id =>
   obtain ⟨rfl, x3, x4, rfl, hsub1, hle1⟩ := hq
   try dsimp only at hm
   by_cases hid1 : id = 0
   ·subst hid1
    rw [if_pos rfl] at hm
    refine blockA_s ?_
    refine thenA_n ?_
    refine wpA_weaken hsub1.ok hle1 ?_
    refine wpA_seq ?_
    refine wpA_region ?_
    refine Ops_quiet _ rfl rfl (QO.move rfl rfl) ?_
    refine Ops_quiet _ rfl rfl (QO.assign rfl rfl) ?_
    refine Ops_nil ?_
    refine thenA_n ?_
    refine wpA_ret ?_
    obtain rfl := Option.some.inj hm
    exact retA_r (h2 := upd (h) b1 (.own 65 (srcC A0 l0.length c0 x4) 3)) (Res.one rfl (rfl)) (Le.upd_left (Le.under (Le.refl _) hb1) (upd_same _ _ _) (by first | rfl | (simp; done))) ⟨b1, hb1, rfl, rfl⟩
   rw [if_neg hid1] at hm
   exact absurd hm (by simp)

/-! loop.example/g01195/spec.l01Next -/
theorem c_spec_l01Next {a0 : Src} {p0 : Nat} {l_s : List Int} {A_s : Option Addr} {c_s : Nat} {a1 : Int} {h : Hp} {r : Int × Src} (hm : m_spec_l01Next a0 l_s a1 = some r) (hs_s : RdS h A_s (ints .u8 l_s)) (h_p0 : h p0 = none) :
    CC Try.prog 27 #[.pointer (some ⟨p0, 0, none⟩), .int .i64 a1] (upd (h) p0 (.own 65 (srcC A_s l_s.length c_s a0) 3)) (fun v h' => v = .int .i64 r.1 ∧ h' = upd (h) p0 (.own 65 (srcC A_s l_s.length c_s r.2) 3)) := by
 unfold m_spec_l01Next at hm
 refine CC.enter Try.func27 rfl Try.ntmps27 rfl ?_
 refine wpA_seq ?_
 refine wpA_region ?_
 refine Ops_quiet _ rfl rfl (QO.assign rfl rfl) ?_
 refine Ops_nil ?_
 refine thenA_n ?_
 refine wpA_seq ?_
 refine wpA_seq ?_
 refine wpA_region ?_
 refine Ops_quiet _ rfl rfl (QO.move rfl rfl) ?_
 refine Ops_quiet _ rfl rfl (QO.bin rfl rfl rfl rfl) ?_
 refine Ops_nil ?_
 refine thenA_n ?_
 refine wpA_cond rfl (fun g1 => ?_) (fun g1 => ?_)
 ·replace hm := cond_t hm g1
  refine wpA_seq ?_
  refine wpA_region ?_
  refine Ops_quiet _ rfl rfl (QO.assign rfl rfl) ?_
  refine Ops_nil ?_
  refine thenA_n ?_
  refine wpA_ret ?_
  refine thenA_r ?_
  obtain rfl := Option.some.inj hm
  exact retA_r (h2 := upd (h) p0 (.own 65 (srcC A_s l_s.length c_s a0) 3)) (Res.one rfl (rfl)) (Le.upd_left (Le.under (Le.refl _) h_p0) (upd_same _ _ _) (by first | rfl | (simp; done))) ⟨rfl, rfl⟩
 ·replace hm := cond_f hm g1
  refine wpA_skip ?_
  refine thenA_n ?_
  refine wpA_seq ?_
  refine wpA_region ?_
  refine Ops_quiet _ rfl rfl (QO.move rfl rfl) ?_
  refine Ops_quiet _ rfl rfl (QO.move rfl rfl) ?_
  refine Ops_quiet _ rfl rfl (QO.nilCheck rfl rfl) ?_
  refine Ops_quiet _ rfl rfl (QO.fieldAt (fo := 2) rfl sz65 rfl rfl sz63 rfl rfl) ?_
  refine Ops_quiet _ rfl rfl (QO.load rfl sz63 rfl rfl (by (refine (rd_own (upd_same _ _ _) _).trans ?_); exact rfl)) ?_
  refine Ops_quiet _ rfl rfl (QO.bin rfl rfl rfl rfl) ?_
  refine Ops_quiet _ rfl rfl (QO.bin rfl rfl rfl rfl) ?_
  refine Ops_quiet _ rfl rfl (QO.nilCheck rfl rfl) ?_
  refine Ops_quiet _ rfl rfl (QO.fieldAt (fo := 2) rfl sz65 rfl rfl sz63 rfl rfl) ?_
  refine Ops_loud rfl (LO.store' (xs' := srcC A_s l_s.length c_s (⟨a0.at_, (IntKind.u64.wrap ((IntKind.u64.wrap (a0.hash * 6364136223846793005)) + 1442695040888963407))⟩ : Src)) rfl sz63 rfl rfl rfl (upd_same _ _ _) (by first | ((try simp only [sqC_length, tbC_length, tabI_length, tabB_length, ints_length, plsC_length, trC_length, sqsC_length, strsC_length, boolsC_length, tbB_length, List.length_append, List.length_cons, List.length_nil, List.length_set, List.length_replicate, rep_length]); first | omega | decide) | exact Nat.le_of_ble_eq_true rfl) rfl Chg.here rfl ?_)
  refine Ops_nil ?_
  refine thenA_n ?_
  refine wpA_seq ?_
  refine wpA_region ?_
  refine Ops_quiet _ rfl rfl (QO.move rfl rfl) ?_
  refine Ops_quiet _ rfl rfl (QO.nilCheck rfl rfl) ?_
  refine Ops_quiet _ rfl rfl (QO.fieldAt (fo := 2) rfl sz65 rfl rfl sz63 rfl rfl) ?_
  refine Ops_quiet _ rfl rfl (QO.load rfl sz63 rfl rfl (by (refine (rd_own (upd_same _ _ _) _).trans ?_); exact rfl)) ?_
  refine Ops_quiet _ rfl rfl (QO.shr rfl rfl rfl (by decide)) ?_
  refine Ops_quiet _ rfl rfl (QO.bin rfl rfl rfl rfl) ?_
  refine Ops_quiet _ rfl rfl (QO.conv rfl sz63 sz2 rfl) ?_
  refine Ops_quiet _ rfl rfl (QO.assign rfl rfl) ?_
  refine Ops_nil ?_
  refine thenA_n ?_
  refine wpA_seq ?_
  refine wpA_seq ?_
  refine wpA_drawn (by kernel_rfl) (by kernel_rfl) ?_
  refine QOps.quiet _ rfl rfl (QO.move rfl rfl) ?_
  refine QOps.quiet _ rfl rfl (QO.nilCheck rfl rfl) ?_
  refine QOps.quiet _ rfl rfl (QO.fieldAt (fo := 1) rfl sz65 rfl rfl sz3 rfl rfl) ?_
  refine QOps.quiet _ rfl rfl (QO.load rfl sz3 rfl rfl (by (refine (rd_own (upd_same _ _ _) _).trans ?_); exact rfl)) ?_
  refine QOps.quiet _ rfl rfl (QO.move rfl rfl) ?_
  refine QOps.quiet _ rfl rfl (QO.nilCheck rfl rfl) ?_
  refine QOps.quiet _ rfl rfl (QO.fieldAt (fo := 0) rfl sz65 rfl rfl sz22 rfl rfl) ?_
  refine QOps.quiet _ rfl rfl (QO.load rfl sz22 rfl rfl (by (refine (rd_own (upd_same _ _ _) _).trans ?_); exact rfl)) ?_
  refine QOps.quiet _ rfl rfl (QO.lenSl rfl sz22 rfl) ?_
  refine QOps.quiet _ rfl rfl (QO.bin rfl rfl rfl rfl) ?_
  refine QOps.nil ?_
  refine thenA_n ?_
  refine wpA_cond rfl (fun g2 => ?_) (fun g2 => ?_)
  ·replace hm := cond_t hm g2
   refine wpA_seq ?_
   refine wpA_drawn (by kernel_rfl) (by kernel_rfl) ?_
   refine QOps.quiet _ rfl rfl (QO.move rfl rfl) ?_
   refine QOps.quiet _ rfl rfl (QO.move rfl rfl) ?_
   refine QOps.quiet _ rfl rfl (QO.nilCheck rfl rfl) ?_
   refine QOps.quiet _ rfl rfl (QO.fieldAt (fo := 0) rfl sz65 rfl rfl sz22 rfl rfl) ?_
   refine QOps.quiet _ rfl rfl (QO.load rfl sz22 rfl rfl (by (refine (rd_own (upd_same _ _ _) _).trans ?_); exact rfl)) ?_
   refine QOps.quiet _ rfl rfl (QO.move rfl rfl) ?_
   refine QOps.quiet _ rfl rfl (QO.nilCheck rfl rfl) ?_
   refine QOps.quiet _ rfl rfl (QO.fieldAt (fo := 1) rfl sz65 rfl rfl sz3 rfl rfl) ?_
   refine QOps.quiet _ rfl rfl (QO.load rfl sz3 rfl rfl (by (refine (rd_own (upd_same _ _ _) _).trans ?_); exact rfl)) ?_
   have hq := chk hm; clear hm; obtain ⟨ck1, hm⟩ := hq
   refine QOps.quiet _ rfl rfl (QO.idxRd2 rfl sz22 sz5 rfl rfl (by omega) (by omega) hs_s (by simp [sqC_length, tbC_length, tabI_length, tabB_length, ints_length, plsC_length, trC_length, sqsC_length, strsC_length, boolsC_length, tbB_length, List.length_append, List.length_cons, List.length_nil, List.length_set, List.length_replicate, rep_length]) (by decide)) ?_
   refine QOps.quiet _ rfl rfl (QO.load rfl sz5 rfl rfl (by first | exact (RdS.rd (RdS.le hs_s (Le.under (Le.refl _) h_p0)) (by first | rfl | exact sqC_get (by omega) (by omega) | exact tbC_get (by omega) (by omega) | exact tbB_get (by omega) (by omega) | exact tabI_get01 (by omega) | exact tabB_get01 (by omega) | exact ints_get01 (by omega) | exact boolsC_get01 (by omega) | exact tabI_get (by omega) | exact tabB_get (by omega) | exact ints_get1 (by omega) | exact strsC_get01 (by omega) | exact strsC_get1 (by omega) | exact plsC_get (by omega) (by omega) | exact trC_a (by omega) | exact trC_b (by omega) | exact trC_c (by omega) | exact sqsC_ord (by omega) | exact sqsC_get (by omega) (by omega) (by omega))) | exact (RdS.rd2 (RdS.le hs_s (Le.under (Le.refl _) h_p0)) (by first | rfl | exact sqC_get (by omega) (by omega) | exact tbC_get (by omega) (by omega) | exact tbB_get (by omega) (by omega) | exact tabI_get01 (by omega) | exact tabB_get01 (by omega) | exact ints_get01 (by omega) | exact boolsC_get01 (by omega) | exact tabI_get (by omega) | exact tabB_get (by omega) | exact ints_get1 (by omega) | exact strsC_get01 (by omega) | exact strsC_get1 (by omega) | exact plsC_get (by omega) (by omega) | exact trC_a (by omega) | exact trC_b (by omega) | exact trC_c (by omega) | exact sqsC_ord (by omega) | exact sqsC_get (by omega) (by omega) (by omega))) | exact (RdS.rd3 (RdS.le hs_s (Le.under (Le.refl _) h_p0)) (by first | rfl | exact sqC_get (by omega) (by omega) | exact tbC_get (by omega) (by omega) | exact tbB_get (by omega) (by omega) | exact tabI_get01 (by omega) | exact tabB_get01 (by omega) | exact ints_get01 (by omega) | exact boolsC_get01 (by omega) | exact tabI_get (by omega) | exact tabB_get (by omega) | exact ints_get1 (by omega) | exact strsC_get01 (by omega) | exact strsC_get1 (by omega) | exact plsC_get (by omega) (by omega) | exact trC_a (by omega) | exact trC_b (by omega) | exact trC_c (by omega) | exact sqsC_ord (by omega) | exact sqsC_get (by omega) (by omega) (by omega))))) ?_
   refine QOps.quiet _ rfl rfl (QO.conv rfl sz5 sz2 rfl) ?_
   refine QOps.quiet _ rfl rfl (QO.bin rfl rfl rfl rfl) ?_
   refine QOps.quiet _ rfl rfl (QO.assign rfl rfl) ?_
   refine QOps.nil ?_
   refine thenA_n ?_
   refine wpA_region ?_
   refine Ops_quiet _ rfl rfl (QO.move rfl rfl) ?_
   refine Ops_quiet _ rfl rfl (QO.move rfl rfl) ?_
   refine Ops_quiet _ rfl rfl (QO.nilCheck rfl rfl) ?_
   refine Ops_quiet _ rfl rfl (QO.fieldAt (fo := 1) rfl sz65 rfl rfl sz3 rfl rfl) ?_
   refine Ops_quiet _ rfl rfl (QO.load rfl sz3 rfl rfl (by (refine (rd_own (upd_same _ _ _) _).trans ?_); exact rfl)) ?_
   refine Ops_quiet _ rfl rfl (QO.bin rfl rfl rfl rfl) ?_
   refine Ops_quiet _ rfl rfl (QO.nilCheck rfl rfl) ?_
   refine Ops_quiet _ rfl rfl (QO.fieldAt (fo := 1) rfl sz65 rfl rfl sz3 rfl rfl) ?_
   refine Ops_loud rfl (LO.store' (xs' := srcC A_s l_s.length c_s (⟨(IntKind.i64.wrap (((⟨a0.at_, (IntKind.u64.wrap ((IntKind.u64.wrap (a0.hash * 6364136223846793005)) + 1442695040888963407))⟩ : Src)).at_ + 1)), ((⟨a0.at_, (IntKind.u64.wrap ((IntKind.u64.wrap (a0.hash * 6364136223846793005)) + 1442695040888963407))⟩ : Src)).hash⟩ : Src)) rfl sz3 rfl rfl rfl (upd_same _ _ _) (by first | ((try simp only [sqC_length, tbC_length, tabI_length, tabB_length, ints_length, plsC_length, trC_length, sqsC_length, strsC_length, boolsC_length, tbB_length, List.length_append, List.length_cons, List.length_nil, List.length_set, List.length_replicate, rep_length]); first | omega | decide) | exact Nat.le_of_ble_eq_true rfl) rfl Chg.here rfl ?_)
   refine Ops_nil ?_
   refine thenA_n ?_
   refine wpA_seq ?_
   refine wpA_region ?_
   refine Ops_quiet _ rfl rfl (QO.move rfl rfl) ?_
   refine Ops_quiet _ rfl rfl (QO.move rfl rfl) ?_
   have hq := chk hm; clear hm; obtain ⟨ck2, hm⟩ := hq
   refine Ops_quiet _ rfl rfl (QO.rem rfl rfl rfl (by first | assumption | omega)) ?_
   refine Ops_quiet _ rfl rfl (QO.assign rfl rfl) ?_
   refine Ops_nil ?_
   refine thenA_n ?_
   refine wpA_ret ?_
   obtain rfl := Option.some.inj hm
   exact retA_r (h2 := upd (h) p0 (.own 65 (srcC A_s l_s.length c_s (⟨(IntKind.i64.wrap (((⟨a0.at_, (IntKind.u64.wrap ((IntKind.u64.wrap (a0.hash * 6364136223846793005)) + 1442695040888963407))⟩ : Src)).at_ + 1)), ((⟨a0.at_, (IntKind.u64.wrap ((IntKind.u64.wrap (a0.hash * 6364136223846793005)) + 1442695040888963407))⟩ : Src)).hash⟩ : Src)) 3)) (Res.one rfl (rfl)) (Le.upd_left (Le.under (Le.refl _) h_p0) (upd_same _ _ _) (by first | rfl | (simp; done))) ⟨rfl, rfl⟩
  ·replace hm := cond_f hm g2
   refine wpA_skip ?_
   refine thenA_n ?_
   refine wpA_seq ?_
   refine wpA_region ?_
   refine Ops_quiet _ rfl rfl (QO.move rfl rfl) ?_
   refine Ops_quiet _ rfl rfl (QO.move rfl rfl) ?_
   have hq := chk hm; clear hm; obtain ⟨ck3, hm⟩ := hq
   refine Ops_quiet _ rfl rfl (QO.rem rfl rfl rfl (by first | assumption | omega)) ?_
   refine Ops_quiet _ rfl rfl (QO.assign rfl rfl) ?_
   refine Ops_nil ?_
   refine thenA_n ?_
   refine wpA_ret ?_
   obtain rfl := Option.some.inj hm
   exact retA_r (h2 := upd (h) p0 (.own 65 (srcC A_s l_s.length c_s (⟨a0.at_, (IntKind.u64.wrap ((IntKind.u64.wrap (a0.hash * 6364136223846793005)) + 1442695040888963407))⟩ : Src)) 3)) (Res.one rfl (rfl)) (Le.upd_left (Le.under (Le.refl _) h_p0) (upd_same _ _ _) (by first | rfl | (simp; done))) ⟨rfl, rfl⟩

/-! loop.example/g01195/spec.l01Same -/
theorem c_spec_l01Same {a0 : Int} {h : Hp} {r : (Nat → Int)} (hm : m_spec_l01Same a0 = some r)  :
    QC Try.prog 52 #[.int .i64 a0] h (.agg (tabI .u8 r 10).toArray) := by
 unfold m_spec_l01Same at hm
 refine CC.enter Try.func52 rfl Try.ntmps52 rfl ?_
 refine wpA_seq ?_
 refine wpA_region ?_
 refine Ops_loud rfl (LO.alloc rfl zr25 rfl (fun b1 hb1 => ?_))
 refine Ops_nil ?_
 refine thenA_n ?_
 refine wpA_seq ?_
 refine wpA_region ?_
 refine Ops_quiet _ rfl rfl (QO.build0 rfl bd25) ?_
 refine Ops_loud rfl (LO.alloc rfl zr25 rfl (fun b2 hb2 => ?_))
 simp only [upd_noneA] at hb2
 obtain ⟨n_b2_b1, hb2⟩ := hb2
 refine Ops_loud rfl (LO.storeAll (cs := tabI .u8 pl0 10) rfl sz25 rfl rfl (tabI_one _ _ _) (tabI_length _ _ _) (upd_same _ _ _) (tabI_length _ _ _) Chg.here rfl ?_)
 refine Ops_nil ?_
 refine thenA_n ?_
 refine wpA_seq ?_
 refine wpA_seq ?_
 refine wpA_region ?_
 refine Ops_quiet _ rfl rfl (QO.assign rfl rfl) ?_
 refine Ops_nil ?_
 refine thenA_n ?_
 refine wpA_block ?_
 obtain ⟨R1, hR, hm⟩ := Option.bind_eq_some_iff.1 hm
 obtain ⟨k1, hk1⟩ := loopV_some hR
 clear hR
 refine wpA_mono (Q := fun e s' h' => match (generalizing := false) R1 with | .stop x id => e = .exit id ∧ ∃ (x1 : Int) (x2 : (Nat → Int)), x = (x1, x2) ∧ Sub s' [(0, .int .i64 a0), (2, .pointer (some ⟨b1, 0, none⟩)), (3, .pointer (some ⟨b2, 0, none⟩)), (4, .int .i64 x1)] ∧ Le (upd (upd (h) b1 (.own 25 (tabI .u8 pl0 10) 10)) b2 (.own 25 (tabI .u8 x2 10) 10)) h' | .ret r => False | .next _ => False) ?_ ?_
 ·refine wpA_loop (fun k s' h' => ∃ (x1 : Int) (x2 : (Nat → Int)), loopW (m_spec_l01Same_l0 a0) k (x1, x2) = some R1 ∧ Sub s' [(0, .int .i64 a0), (2, .pointer (some ⟨b1, 0, none⟩)), (3, .pointer (some ⟨b2, 0, none⟩)), (4, .int .i64 x1)] ∧ Le (upd (upd (h) b1 (.own 25 (tabI .u8 pl0 10) 10)) b2 (.own 25 (tabI .u8 x2 10) 10)) h') (m := k1) ⟨0, pl0, hk1, (Sub.cons rfl (Sub.cons rfl (Sub.cons rfl (Sub.cons rfl Sub.nil)))), (Le.upd_left (Le.upd_left (Le.under (Le.under (Le.refl _) hb1) hb2) ((upd_ne _ _ n_b2_b1.ne.symm).trans (upd_same _ _ _)) (by first | rfl | (simp; done))) (upd_same _ _ _) (by first | rfl | (simp; done)))⟩ ?_
  rintro k1 s' h' ⟨x1, x2, hk1, hsub, hle⟩
  refine wpA_weaken hsub.ok hle ?_
  clear hsub hle s' h'
  cases k1 with
  | zero => exact absurd hk1 (by simp [loopW])
  | succ k1 =>
   obtain ⟨o1, ho1, hk1⟩ := loopW_succ hk1
   unfold m_spec_l01Same_l0 at ho1
   try dsimp only at ho1
   refine wpA_seq ?_
   refine wpA_seq ?_
   refine wpA_region ?_
   refine Ops_quiet _ rfl rfl (QO.move rfl rfl) ?_
   refine Ops_quiet _ rfl rfl (QO.move rfl rfl) ?_
   refine Ops_quiet _ rfl rfl (QO.bin rfl rfl rfl rfl) ?_
   refine Ops_nil ?_
   refine thenA_n ?_
   refine wpA_cond rfl (fun g1 => ?_) (fun g1 => ?_)
   ·replace ho1 := cond_t ho1 g1
    refine wpA_skip ?_
    refine thenA_n ?_
    refine wpA_seq ?_
    refine wpA_block ?_
    refine wpA_region ?_
    refine Ops_quiet _ rfl rfl (QO.move rfl rfl) ?_
    refine Ops_quiet _ rfl rfl (QO.move rfl rfl) ?_
    refine Ops_quiet _ rfl rfl (QO.conv rfl sz2 sz5 rfl) ?_
    have hq := chk ho1; clear ho1; obtain ⟨ck1, ho1⟩ := hq
    refine Ops_quiet _ rfl rfl (QO.idxArr rfl sz25 sz5 rfl rfl (by omega) (by omega)) ?_
    refine Ops_loud rfl (LO.store' (xs' := tabI .u8 (fset x2 (x1).toNat (IntKind.u8.wrap x1)) 10) rfl sz5 rfl rfl rfl (upd_same _ _ _) (by first | ((try simp only [sqC_length, tbC_length, tabI_length, tabB_length, ints_length, plsC_length, trC_length, sqsC_length, strsC_length, boolsC_length, tbB_length, List.length_append, List.length_cons, List.length_nil, List.length_set, List.length_replicate, rep_length]); first | omega | decide) | exact Nat.le_of_ble_eq_true rfl) tabI_set01 Chg.here rfl ?_)
    refine Ops_nil ?_
    refine blockA_n ?_
    refine thenA_n ?_
    refine wpA_region ?_
    refine Ops_quiet _ rfl rfl (QO.move rfl rfl) ?_
    refine Ops_quiet _ rfl rfl (QO.bin rfl rfl rfl rfl) ?_
    refine Ops_quiet _ rfl rfl (QO.assign rfl rfl) ?_
    refine Ops_nil ?_
    obtain rfl := Option.some.inj ho1
    dsimp only at hk1
    exact thenA_n ⟨k1, Nat.lt_succ_self _, _, _, hk1, (Sub.cons rfl (Sub.cons rfl (Sub.cons rfl (Sub.cons rfl Sub.nil)))), (Le.upd_left (Le.upd_left (Le.under (Le.under (Le.refl _) hb1) hb2) ((upd_ne _ _ n_b2_b1.ne.symm).trans (upd_same _ _ _)) (by first | rfl | (simp; done))) (upd_same _ _ _) (by first | rfl | (simp; done)))⟩
   ·replace ho1 := cond_f ho1 g1
    refine wpA_exit ?_
    refine thenA_e ?_
    refine thenA_e ?_
    obtain rfl := Option.some.inj ho1
    obtain rfl := Option.some.inj hk1
    exact ⟨rfl, _, _, rfl, (Sub.cons rfl (Sub.cons rfl (Sub.cons rfl (Sub.cons rfl Sub.nil)))), (Le.upd_left (Le.upd_left (Le.under (Le.under (Le.refl _) hb1) hb2) ((upd_ne _ _ n_b2_b1.ne.symm).trans (upd_same _ _ _)) (by first | rfl | (simp; done))) (upd_same _ _ _) (by first | rfl | (simp; done)))⟩
 ·intro e s' h' hq
  cases R1 with
  | next x => exact hq.elim
  | ret r => exact hq.elim
  | stop x id =>
   obtain ⟨rfl, x3, x4, rfl, hsub1, hle1⟩ := hq
   try dsimp only at hm
   by_cases hid1 : id = 0
   ·subst hid1
    rw [if_pos rfl] at hm
    refine blockA_s ?_
    refine thenA_n ?_
    refine wpA_weaken hsub1.ok hle1 ?_
    refine wpA_seq ?_
    refine wpA_region ?_
    refine Ops_quiet _ rfl rfl (QO.loadRow (cs := tabI .u8 x4 10) (hr := (rdAll (upd_same _ _ _))) rfl sz25 rfl rfl (tabI_length _ _ _)) ?_
    refine Ops_loud rfl (LO.storeAll (cs := tabI .u8 x4 10) rfl sz25 rfl rfl (tabI_one _ _ _) (tabI_length _ _ _) ((upd_ne _ _ n_b2_b1.ne.symm).trans (upd_same _ _ _)) (tabI_length _ _ _) (Chg.there n_b2_b1.ne Chg.here) rfl ?_)
    refine Ops_nil ?_
    refine thenA_n ?_
    refine wpA_ret ?_
    obtain rfl := Option.some.inj hm
    exact retA_r (h2 := h) (Res.one rfl (res1.row (cs := tabI .u8 x4 10) (hr := (rdAll ((upd_ne _ _ n_b2_b1.ne.symm).trans (upd_same _ _ _)))) sz25 rfl rfl (tabI_length _ _ _))) (Le.under (Le.under (Le.refl _) hb1) hb2) ⟨rfl, rfl⟩
   rw [if_neg hid1] at hm
   exact absurd hm (by simp)

/-! loop.example/g01195/spec.l01DrawPlaces -/
theorem c_spec_l01DrawPlaces {a0 : Src} {p0 : Nat} {l_s : List Int} {A_s : Option Addr} {c_s : Nat} {a1 : Int} {h : Hp} {r : (Nat → Int) × Src} (hm : m_spec_l01DrawPlaces a0 l_s a1 = some r) (hs_s : RdS h A_s (ints .u8 l_s)) (h_p0 : h p0 = none) :
    CC Try.prog 28 #[.pointer (some ⟨p0, 0, none⟩), .int .i64 a1] (upd (h) p0 (.own 65 (srcC A_s l_s.length c_s a0) 3)) (fun v h' => v = .agg (tabI .u8 r.1 10).toArray ∧ h' = upd (h) p0 (.own 65 (srcC A_s l_s.length c_s r.2) 3)) := by
 unfold m_spec_l01DrawPlaces at hm
 refine CC.enter Try.func28 rfl Try.ntmps28 rfl ?_
 refine wpA_seq ?_
 refine wpA_region ?_
 refine Ops_loud rfl (LO.alloc rfl zr25 rfl (fun b1 hb1 => ?_))
 simp only [upd_noneA] at hb1
 obtain ⟨n_b1_p0, hb1⟩ := hb1
 refine Ops_nil ?_
 refine thenA_n ?_
 refine wpA_seq ?_
 refine wpA_region ?_
 refine Ops_quiet _ rfl rfl (QO.move rfl rfl) ?_
 have hq := Option.bind_eq_some_iff.1 hm; clear hm; obtain ⟨r1, hr1, hm⟩ := hq
 refine Ops_call _ _ rfl rfl (EO.fn rfl Try.func52 rfl rfl (Evs.cons rfl Evs.nil)) (QC.cc (c_spec_l01Same hr1 ) ?_)
 refine Ops_loud rfl (LO.alloc rfl zr25 rfl (fun b2 hb2 => ?_))
 simp only [upd_noneA] at hb2
 obtain ⟨n_b2_b1, n_b2_p0, hb2⟩ := hb2
 refine Ops_loud rfl (LO.storeAll (cs := tabI .u8 r1 10) rfl sz25 rfl rfl (tabI_one _ _ _) (tabI_length _ _ _) (upd_same _ _ _) (tabI_length _ _ _) Chg.here rfl ?_)
 refine Ops_nil ?_
 refine thenA_n ?_
 refine wpA_seq ?_
 refine wpA_seq ?_
 refine wpA_region ?_
 refine Ops_quiet _ rfl rfl (QO.move rfl rfl) ?_
 have hq := Option.bind_eq_some_iff.1 hm; clear hm; obtain ⟨r2, hr2, hm⟩ := hq
 have hd1 : Del (upd (upd (upd (h) p0 (.own 65 (srcC A_s l_s.length c_s a0) 3)) b1 (.own 25 (tabI .u8 pl0 10) 10)) b2 (.own 25 (tabI .u8 r1 10) 10)) p0 (.own 65 (srcC A_s l_s.length c_s a0) 3) (upd (upd (h) b1 (.own 25 (tabI .u8 pl0 10) 10)) b2 (.own 25 (tabI .u8 r1 10) 10)) := (Del.there n_b2_p0.ne.symm (Del.there n_b1_p0.ne.symm (Del.here h_p0)))
 refine Ops_call _ _ rfl rfl (EO.fn rfl Try.func27 rfl rfl (Evs.cons rfl (Evs.cons rfl Evs.nil))) (CC.mono (CC.atLe (c_spec_l01Next (h := upd (upd (h) b1 (.own 25 (tabI .u8 pl0 10) 10)) b2 (.own 25 (tabI .u8 r1 10) 10)) hr2 (RdS.le hs_s (Le.under (Le.under (Le.refl _) hb1) hb2)) hd1.none) hd1.le) ?_)
 rintro _ _ ⟨rfl, rfl⟩
 refine Ops_quiet _ rfl rfl (QO.bin rfl rfl rfl rfl) ?_
 refine Ops_nil ?_
 refine thenA_n ?_
 refine wpA_cond rfl (fun g1 => ?_) (fun g1 => ?_)
 ·replace hm := cond_t hm g1
  refine wpA_seq ?_
  refine wpA_region ?_
  refine Ops_quiet _ rfl rfl (QO.loadRow (cs := tabI .u8 r1 10) (hr := (rdAll ((upd_ne _ _ n_b2_p0.ne).trans (upd_same _ _ _)))) rfl sz25 rfl rfl (tabI_length _ _ _)) ?_
  refine Ops_loud rfl (LO.storeAll (cs := tabI .u8 r1 10) rfl sz25 rfl rfl (tabI_one _ _ _) (tabI_length _ _ _) ((upd_ne _ _ n_b1_p0.ne).trans ((upd_ne _ _ n_b2_b1.ne.symm).trans (upd_same _ _ _))) (tabI_length _ _ _) (Chg.there n_b1_p0.ne.symm (Chg.there n_b2_b1.ne Chg.here)) rfl ?_)
  refine Ops_nil ?_
  refine thenA_n ?_
  refine wpA_ret ?_
  refine thenA_r ?_
  obtain rfl := Option.some.inj hm
  exact retA_r (h2 := upd (h) p0 (.own 65 (srcC A_s l_s.length c_s r2.2) 3)) (Res.one rfl (res1.row (cs := tabI .u8 r1 10) (hr := (rdAll ((upd_ne _ _ n_b1_p0.ne).trans ((upd_ne _ _ n_b2_b1.ne.symm).trans (upd_same _ _ _))))) sz25 rfl rfl (tabI_length _ _ _))) (Le.upd_left (Le.under (Le.under (Le.under (Le.refl _) hb1) hb2) h_p0) (upd_same _ _ _) (by first | rfl | (simp; done))) ⟨rfl, rfl⟩
 ·replace hm := cond_f hm g1
  refine wpA_skip ?_
  refine thenA_n ?_
  refine wpA_seq ?_
  refine wpA_seq ?_
  refine wpA_region ?_
  refine Ops_quiet _ rfl rfl (QO.move rfl rfl) ?_
  refine Ops_quiet _ rfl rfl (QO.bin rfl rfl rfl rfl) ?_
  refine Ops_quiet _ rfl rfl (QO.assign rfl rfl) ?_
  refine Ops_nil ?_
  refine thenA_n ?_
  refine wpA_block ?_
  obtain ⟨R1, hR, hm⟩ := Option.bind_eq_some_iff.1 hm
  obtain ⟨k1, hk1⟩ := loopV_some hR
  clear hR
  refine wpA_mono (Q := fun e s' h' => match (generalizing := false) R1 with | .stop x id => e = .exit id ∧ ∃ (x1 : Int) (x2 : (Nat → Int)) (x3 : Src), x = (x1, x2, x3) ∧ Sub s' [(0, .pointer (some ⟨p0, 0, none⟩)), (4, .pointer (some ⟨b1, 0, none⟩)), (5, .pointer (some ⟨b2, 0, none⟩)), (6, .int .i64 x1)] ∧ Le (upd (upd (upd (h) b1 (.own 25 (tabI .u8 pl0 10) 10)) b2 (.own 25 (tabI .u8 x2 10) 10)) p0 (.own 65 (srcC A_s l_s.length c_s x3) 3)) h' | .ret r => False | .next _ => False) ?_ ?_
  ·refine wpA_loop (fun k s' h' => ∃ (x1 : Int) (x2 : (Nat → Int)) (x3 : Src), loopW (m_spec_l01DrawPlaces_l0 l_s) k (x1, x2, x3) = some R1 ∧ Sub s' [(0, .pointer (some ⟨p0, 0, none⟩)), (4, .pointer (some ⟨b1, 0, none⟩)), (5, .pointer (some ⟨b2, 0, none⟩)), (6, .int .i64 x1)] ∧ Le (upd (upd (upd (h) b1 (.own 25 (tabI .u8 pl0 10) 10)) b2 (.own 25 (tabI .u8 x2 10) 10)) p0 (.own 65 (srcC A_s l_s.length c_s x3) 3)) h') (m := k1) ⟨(IntKind.i64.wrap (a1 - 1)), r1, r2.2, hk1, (Sub.cons rfl (Sub.cons rfl (Sub.cons rfl (Sub.cons rfl Sub.nil)))), (Le.upd_left (Le.upd_left (Le.upd_left (Le.under (Le.under (Le.under (Le.refl _) hb1) hb2) h_p0) ((upd_ne _ _ n_b1_p0.ne).trans ((upd_ne _ _ n_b2_b1.ne.symm).trans (upd_same _ _ _))) (by first | rfl | (simp; done))) ((upd_ne _ _ n_b2_p0.ne).trans (upd_same _ _ _)) (by first | rfl | (simp; done))) (upd_same _ _ _) (by first | rfl | (simp; done)))⟩ ?_
   rintro k1 s' h' ⟨x1, x2, x3, hk1, hsub, hle⟩
   refine wpA_weaken hsub.ok hle ?_
   clear hsub hle s' h'
   cases k1 with
   | zero => exact absurd hk1 (by simp [loopW])
   | succ k1 =>
    obtain ⟨o1, ho1, hk1⟩ := loopW_succ hk1
    unfold m_spec_l01DrawPlaces_l0 at ho1
    try dsimp only at ho1
    refine wpA_seq ?_
    refine wpA_seq ?_
    refine wpA_region ?_
    refine Ops_quiet _ rfl rfl (QO.move rfl rfl) ?_
    refine Ops_quiet _ rfl rfl (QO.bin rfl rfl rfl rfl) ?_
    refine Ops_nil ?_
    refine thenA_n ?_
    refine wpA_cond rfl (fun g2 => ?_) (fun g2 => ?_)
    ·replace ho1 := cond_t ho1 g2
     refine wpA_skip ?_
     refine thenA_n ?_
     refine wpA_seq ?_
     refine wpA_block ?_
     refine wpA_seq ?_
     refine wpA_region ?_
     refine Ops_quiet _ rfl rfl (QO.move rfl rfl) ?_
     refine Ops_quiet _ rfl rfl (QO.move rfl rfl) ?_
     refine Ops_quiet _ rfl rfl (QO.bin rfl rfl rfl rfl) ?_
     have hq := Option.bind_eq_some_iff.1 ho1; clear ho1; obtain ⟨r3, hr3, ho1⟩ := hq
     have hd2 : Del (upd (upd (upd (h) b1 (.own 25 (tabI .u8 pl0 10) 10)) b2 (.own 25 (tabI .u8 x2 10) 10)) p0 (.own 65 (srcC A_s l_s.length c_s x3) 3)) p0 (.own 65 (srcC A_s l_s.length c_s x3) 3) (upd (upd (h) b1 (.own 25 (tabI .u8 pl0 10) 10)) b2 (.own 25 (tabI .u8 x2 10) 10)) := (Del.here (none_upd n_b2_p0.ne.symm (none_upd n_b1_p0.ne.symm h_p0)))
     refine Ops_call _ _ rfl rfl (EO.fn rfl Try.func27 rfl rfl (Evs.cons rfl (Evs.cons rfl Evs.nil))) (CC.mono (CC.atLe (c_spec_l01Next (h := upd (upd (h) b1 (.own 25 (tabI .u8 pl0 10) 10)) b2 (.own 25 (tabI .u8 x2 10) 10)) hr3 (RdS.le hs_s (Le.under (Le.under (Le.refl _) hb1) hb2)) hd2.none) hd2.le) ?_)
     rintro _ _ ⟨rfl, rfl⟩
     refine Ops_quiet _ rfl rfl (QO.assign rfl rfl) ?_
     refine Ops_nil ?_
     refine thenA_n ?_
     refine wpA_seq ?_
     refine wpA_region ?_
     refine Ops_quiet _ rfl rfl (QO.move rfl rfl) ?_
     have hq := chk ho1; clear ho1; obtain ⟨ck1, ho1⟩ := hq
     refine Ops_quiet _ rfl rfl (QO.idxArr rfl sz25 sz5 rfl rfl (by omega) (by omega)) ?_
     refine Ops_quiet _ rfl rfl (QO.load rfl sz5 rfl rfl (by (refine (rd_own ((upd_ne _ _ n_b2_p0.ne).trans (upd_same _ _ _)) _).trans ?_); exact tabI_get01 (by omega))) ?_
     refine Ops_quiet _ rfl rfl (QO.assign rfl rfl) ?_
     refine Ops_nil ?_
     refine thenA_n ?_
     refine wpA_seq ?_
     refine wpA_region ?_
     refine Ops_quiet _ rfl rfl (QO.move rfl rfl) ?_
     refine Ops_quiet _ rfl rfl (QO.move rfl rfl) ?_
     have hq := chk ho1; clear ho1; obtain ⟨ck2, ho1⟩ := hq
     refine Ops_quiet _ rfl rfl (QO.idxArr rfl sz25 sz5 rfl rfl (by omega) (by omega)) ?_
     refine Ops_quiet _ rfl rfl (QO.load rfl sz5 rfl rfl (by (refine (rd_own ((upd_ne _ _ n_b2_p0.ne).trans (upd_same _ _ _)) _).trans ?_); exact tabI_get01 (by omega))) ?_
     have hq := chk ho1; clear ho1; obtain ⟨ck3, ho1⟩ := hq
     refine Ops_quiet _ rfl rfl (QO.idxArr rfl sz25 sz5 rfl rfl (by omega) (by omega)) ?_
     refine Ops_loud rfl (LO.store' (xs' := tabI .u8 (fset x2 (x1).toNat (x2 (r3.1).toNat)) 10) rfl sz5 rfl rfl rfl ((upd_ne _ _ n_b2_p0.ne).trans (upd_same _ _ _)) (by first | ((try simp only [sqC_length, tbC_length, tabI_length, tabB_length, ints_length, plsC_length, trC_length, sqsC_length, strsC_length, boolsC_length, tbB_length, List.length_append, List.length_cons, List.length_nil, List.length_set, List.length_replicate, rep_length]); first | omega | decide) | exact Nat.le_of_ble_eq_true rfl) tabI_set01 (Chg.there n_b2_p0.ne.symm Chg.here) rfl ?_)
     refine Ops_nil ?_
     refine thenA_n ?_
     refine wpA_region ?_
     refine Ops_quiet _ rfl rfl (QO.move rfl rfl) ?_
     refine Ops_quiet _ rfl rfl (QO.move rfl rfl) ?_
     have hq := chk ho1; clear ho1; obtain ⟨ck4, ho1⟩ := hq
     refine Ops_quiet _ rfl rfl (QO.idxArr rfl sz25 sz5 rfl rfl (by omega) (by omega)) ?_
     refine Ops_loud rfl (LO.store' (xs' := tabI .u8 (fset (fset x2 (x1).toNat (x2 (r3.1).toNat)) (r3.1).toNat (x2 (x1).toNat)) 10) rfl sz5 rfl rfl rfl ((upd_ne _ _ n_b2_p0.ne).trans (upd_same _ _ _)) (by first | ((try simp only [sqC_length, tbC_length, tabI_length, tabB_length, ints_length, plsC_length, trC_length, sqsC_length, strsC_length, boolsC_length, tbB_length, List.length_append, List.length_cons, List.length_nil, List.length_set, List.length_replicate, rep_length]); first | omega | decide) | exact Nat.le_of_ble_eq_true rfl) tabI_set01 (Chg.there n_b2_p0.ne.symm Chg.here) rfl ?_)
     refine Ops_nil ?_
     refine blockA_n ?_
     refine thenA_n ?_
     refine wpA_region ?_
     refine Ops_quiet _ rfl rfl (QO.move rfl rfl) ?_
     refine Ops_quiet _ rfl rfl (QO.bin rfl rfl rfl rfl) ?_
     refine Ops_quiet _ rfl rfl (QO.assign rfl rfl) ?_
     refine Ops_nil ?_
     obtain rfl := Option.some.inj ho1
     dsimp only at hk1
     exact thenA_n ⟨k1, Nat.lt_succ_self _, _, _, _, hk1, (Sub.cons rfl (Sub.cons rfl (Sub.cons rfl (Sub.cons rfl Sub.nil)))), (Le.upd_left (Le.upd_left (Le.upd_left (Le.under (Le.under (Le.under (Le.refl _) hb1) hb2) h_p0) ((upd_ne _ _ n_b1_p0.ne).trans ((upd_ne _ _ n_b2_b1.ne.symm).trans (upd_same _ _ _))) (by first | rfl | (simp; done))) ((upd_ne _ _ n_b2_p0.ne).trans (upd_same _ _ _)) (by first | rfl | (simp; done))) (upd_same _ _ _) (by first | rfl | (simp; done)))⟩
    ·replace ho1 := cond_f ho1 g2
     refine wpA_exit ?_
     refine thenA_e ?_
     refine thenA_e ?_
     obtain rfl := Option.some.inj ho1
     obtain rfl := Option.some.inj hk1
     exact ⟨rfl, _, _, _, rfl, (Sub.cons rfl (Sub.cons rfl (Sub.cons rfl (Sub.cons rfl Sub.nil)))), (Le.upd_left (Le.upd_left (Le.upd_left (Le.under (Le.under (Le.under (Le.refl _) hb1) hb2) h_p0) ((upd_ne _ _ n_b1_p0.ne).trans ((upd_ne _ _ n_b2_b1.ne.symm).trans (upd_same _ _ _))) (by first | rfl | (simp; done))) ((upd_ne _ _ n_b2_p0.ne).trans (upd_same _ _ _)) (by first | rfl | (simp; done))) (upd_same _ _ _) (by first | rfl | (simp; done)))⟩
  ·intro e s' h' hq
   cases R1 with
   | next x => exact hq.elim
   | ret r => exact hq.elim
   | stop x id =>
    obtain ⟨rfl, x4, x5, x6, rfl, hsub1, hle1⟩ := hq
    try dsimp only at hm
    by_cases hid1 : id = 0
    ·subst hid1
     rw [if_pos rfl] at hm
     refine blockA_s ?_
     refine thenA_n ?_
     refine wpA_weaken hsub1.ok hle1 ?_
     refine wpA_seq ?_
     refine wpA_region ?_
     refine Ops_quiet _ rfl rfl (QO.loadRow (cs := tabI .u8 x5 10) (hr := (rdAll ((upd_ne _ _ n_b2_p0.ne).trans (upd_same _ _ _)))) rfl sz25 rfl rfl (tabI_length _ _ _)) ?_
     refine Ops_loud rfl (LO.storeAll (cs := tabI .u8 x5 10) rfl sz25 rfl rfl (tabI_one _ _ _) (tabI_length _ _ _) ((upd_ne _ _ n_b1_p0.ne).trans ((upd_ne _ _ n_b2_b1.ne.symm).trans (upd_same _ _ _))) (tabI_length _ _ _) (Chg.there n_b1_p0.ne.symm (Chg.there n_b2_b1.ne Chg.here)) rfl ?_)
     refine Ops_nil ?_
     refine thenA_n ?_
     refine wpA_ret ?_
     obtain rfl := Option.some.inj hm
     exact retA_r (h2 := upd (h) p0 (.own 65 (srcC A_s l_s.length c_s x6) 3)) (Res.one rfl (res1.row (cs := tabI .u8 x5 10) (hr := (rdAll ((upd_ne _ _ n_b1_p0.ne).trans ((upd_ne _ _ n_b2_b1.ne.symm).trans (upd_same _ _ _))))) sz25 rfl rfl (tabI_length _ _ _))) (Le.upd_left (Le.under (Le.under (Le.under (Le.refl _) hb1) hb2) h_p0) (upd_same _ _ _) (by first | rfl | (simp; done))) ⟨rfl, rfl⟩
    rw [if_neg hid1] at hm
    exact absurd hm (by simp)

/-! loop.example/g01195/spec.l01Pick -/
theorem c_spec_l01Pick {a0 : Src} {p0 : Nat} {l_s : List Int} {A_s : Option Addr} {c_s : Nat} {l1 : (List Int)} {A1 : Option Addr} {c1 : Nat} {h : Hp} {r : Int × Src} (hm : m_spec_l01Pick a0 l_s l1 = some r) (hs_s : RdS h A_s (ints .u8 l_s)) (hs1 : RdS h A1 (ints .i64 l1)) (h_p0 : h p0 = none) :
    CC Try.prog 40 #[.pointer (some ⟨p0, 0, none⟩), .slice A1 l1.length c1] (upd (h) p0 (.own 65 (srcC A_s l_s.length c_s a0) 3)) (fun v h' => v = .int .i64 r.1 ∧ h' = upd (h) p0 (.own 65 (srcC A_s l_s.length c_s r.2) 3)) := by
 unfold m_spec_l01Pick at hm
 refine CC.enter Try.func40 rfl Try.ntmps40 rfl ?_
 refine wpA_seq ?_
 refine wpA_region ?_
 refine Ops_quiet _ rfl rfl (QO.assign rfl rfl) ?_
 refine Ops_nil ?_
 refine thenA_n ?_
 refine wpA_seq ?_
 refine wpA_region ?_
 refine Ops_quiet _ rfl rfl (QO.move rfl rfl) ?_
 refine Ops_quiet _ rfl rfl (QO.move rfl rfl) ?_
 refine Ops_quiet _ rfl rfl (QO.move rfl rfl) ?_
 refine Ops_quiet _ rfl rfl (QO.lenSl rfl sz70 rfl) ?_
 have hq := Option.bind_eq_some_iff.1 hm; clear hm; obtain ⟨r1, hr1, hm⟩ := hq
 have hd1 : Del (upd (h) p0 (.own 65 (srcC A_s l_s.length c_s a0) 3)) p0 (.own 65 (srcC A_s l_s.length c_s a0) 3) (h) := (Del.here h_p0)
 refine Ops_call _ _ rfl rfl (EO.fn rfl Try.func27 rfl rfl (Evs.cons rfl (Evs.cons rfl Evs.nil))) (CC.mono (CC.atLe (c_spec_l01Next (h := h) hr1 (RdS.le hs_s (Le.refl _)) hd1.none) hd1.le) ?_)
 rintro _ _ ⟨rfl, rfl⟩
 have hq := chk hm; clear hm; obtain ⟨ck1, hm⟩ := hq
 refine Ops_quiet _ rfl rfl (QO.idxRd2 rfl sz70 sz2 rfl rfl (by omega) (by omega) hs1 (by simp [sqC_length, tbC_length, tabI_length, tabB_length, ints_length, plsC_length, trC_length, sqsC_length, strsC_length, boolsC_length, tbB_length, List.length_append, List.length_cons, List.length_nil, List.length_set, List.length_replicate, rep_length]) (by decide)) ?_
 refine Ops_quiet _ rfl rfl (QO.load rfl sz2 rfl rfl (by first | exact (RdS.rd (RdS.le hs1 (Le.under (Le.refl _) h_p0)) (by first | rfl | exact sqC_get (by omega) (by omega) | exact tbC_get (by omega) (by omega) | exact tbB_get (by omega) (by omega) | exact tabI_get01 (by omega) | exact tabB_get01 (by omega) | exact ints_get01 (by omega) | exact boolsC_get01 (by omega) | exact tabI_get (by omega) | exact tabB_get (by omega) | exact ints_get1 (by omega) | exact strsC_get01 (by omega) | exact strsC_get1 (by omega) | exact plsC_get (by omega) (by omega) | exact trC_a (by omega) | exact trC_b (by omega) | exact trC_c (by omega) | exact sqsC_ord (by omega) | exact sqsC_get (by omega) (by omega) (by omega))) | exact (RdS.rd2 (RdS.le hs1 (Le.under (Le.refl _) h_p0)) (by first | rfl | exact sqC_get (by omega) (by omega) | exact tbC_get (by omega) (by omega) | exact tbB_get (by omega) (by omega) | exact tabI_get01 (by omega) | exact tabB_get01 (by omega) | exact ints_get01 (by omega) | exact boolsC_get01 (by omega) | exact tabI_get (by omega) | exact tabB_get (by omega) | exact ints_get1 (by omega) | exact strsC_get01 (by omega) | exact strsC_get1 (by omega) | exact plsC_get (by omega) (by omega) | exact trC_a (by omega) | exact trC_b (by omega) | exact trC_c (by omega) | exact sqsC_ord (by omega) | exact sqsC_get (by omega) (by omega) (by omega))) | exact (RdS.rd3 (RdS.le hs1 (Le.under (Le.refl _) h_p0)) (by first | rfl | exact sqC_get (by omega) (by omega) | exact tbC_get (by omega) (by omega) | exact tbB_get (by omega) (by omega) | exact tabI_get01 (by omega) | exact tabB_get01 (by omega) | exact ints_get01 (by omega) | exact boolsC_get01 (by omega) | exact tabI_get (by omega) | exact tabB_get (by omega) | exact ints_get1 (by omega) | exact strsC_get01 (by omega) | exact strsC_get1 (by omega) | exact plsC_get (by omega) (by omega) | exact trC_a (by omega) | exact trC_b (by omega) | exact trC_c (by omega) | exact sqsC_ord (by omega) | exact sqsC_get (by omega) (by omega) (by omega))))) ?_
 refine Ops_quiet _ rfl rfl (QO.assign rfl rfl) ?_
 refine Ops_nil ?_
 refine thenA_n ?_
 refine wpA_ret ?_
 obtain rfl := Option.some.inj hm
 exact retA_r (h2 := upd (h) p0 (.own 65 (srcC A_s l_s.length c_s r1.2) 3)) (Res.one rfl (rfl)) (Le.upd_left (Le.under (Le.refl _) h_p0) (upd_same _ _ _) (by first | rfl | (simp; done))) ⟨rfl, rfl⟩

/-! loop.example/g01195/spec.l01Any -/
theorem c_spec_l01Any {a0 : Src} {p0 : Nat} {l_s : List Int} {A_s : Option Addr} {c_s : Nat} {h : Hp} {r : (Nat → Int) × Int × Src} (hm : m_spec_l01Any a0 l_s = some r) (hs_s : RdS h A_s (ints .u8 l_s)) (h_p0 : h p0 = none) :
    CC Try.prog 26 #[.pointer (some ⟨p0, 0, none⟩)] (upd (h) p0 (.own 65 (srcC A_s l_s.length c_s a0) 3)) (fun v h' => v = .tuple #[.agg (tabI .u8 r.1 10).toArray, .int .i64 r.2.1] ∧ h' = upd (h) p0 (.own 65 (srcC A_s l_s.length c_s r.2.2) 3)) := by
 unfold m_spec_l01Any at hm
 refine CC.enter Try.func26 rfl Try.ntmps26 rfl ?_
 refine wpA_seq ?_
 refine wpA_region ?_
 refine Ops_loud rfl (LO.alloc rfl zr25 rfl (fun b1 hb1 => ?_))
 simp only [upd_noneA] at hb1
 obtain ⟨n_b1_p0, hb1⟩ := hb1
 refine Ops_quiet _ rfl rfl (QO.assign rfl rfl) ?_
 refine Ops_nil ?_
 refine thenA_n ?_
 refine wpA_seq ?_
 refine wpA_region ?_
 refine Ops_quiet _ rfl rfl (QO.move rfl rfl) ?_
 have hq := Option.bind_eq_some_iff.1 hm; clear hm; obtain ⟨r1, hr1, hm⟩ := hq
 have hd1 : Del (upd (upd (h) p0 (.own 65 (srcC A_s l_s.length c_s a0) 3)) b1 (.own 25 (tabI .u8 pl0 10) 10)) p0 (.own 65 (srcC A_s l_s.length c_s a0) 3) (upd (h) b1 (.own 25 (tabI .u8 pl0 10) 10)) := (Del.there n_b1_p0.ne.symm (Del.here h_p0))
 refine Ops_call _ _ rfl rfl (EO.fn rfl Try.func27 rfl rfl (Evs.cons rfl (Evs.cons rfl Evs.nil))) (CC.mono (CC.atLe (c_spec_l01Next (h := upd (h) b1 (.own 25 (tabI .u8 pl0 10) 10)) hr1 (RdS.le hs_s (Le.under (Le.refl _) hb1)) hd1.none) hd1.le) ?_)
 rintro _ _ ⟨rfl, rfl⟩
 refine Ops_quiet _ rfl rfl (QO.bin rfl rfl rfl rfl) ?_
 refine Ops_quiet _ rfl rfl (QO.assign rfl rfl) ?_
 refine Ops_nil ?_
 refine thenA_n ?_
 refine wpA_seq ?_
 refine wpA_region ?_
 refine Ops_quiet _ rfl rfl (QO.move rfl rfl) ?_
 refine Ops_quiet _ rfl rfl (QO.move rfl rfl) ?_
 have hq := Option.bind_eq_some_iff.1 hm; clear hm; obtain ⟨r2, hr2, hm⟩ := hq
 have hd2 : Del (upd (upd (h) b1 (.own 25 (tabI .u8 pl0 10) 10)) p0 (.own 65 (srcC A_s l_s.length c_s r1.2) 3)) p0 (.own 65 (srcC A_s l_s.length c_s r1.2) 3) (upd (h) b1 (.own 25 (tabI .u8 pl0 10) 10)) := (Del.here (none_upd n_b1_p0.ne.symm h_p0))
 refine Ops_call _ _ rfl rfl (EO.fn rfl Try.func28 rfl rfl (Evs.cons rfl (Evs.cons rfl Evs.nil))) (CC.mono (CC.atLe (c_spec_l01DrawPlaces (h := upd (h) b1 (.own 25 (tabI .u8 pl0 10) 10)) hr2 (RdS.le hs_s (Le.under (Le.refl _) hb1)) hd2.none) hd2.le) ?_)
 rintro _ _ ⟨rfl, rfl⟩
 refine Ops_loud rfl (LO.alloc rfl zr25 rfl (fun b2 hb2 => ?_))
 simp only [upd_noneA] at hb2
 obtain ⟨n_b2_p0, n_b2_b1, hb2⟩ := hb2
 refine Ops_loud rfl (LO.storeAll (cs := tabI .u8 r2.1 10) rfl sz25 rfl rfl (tabI_one _ _ _) (tabI_length _ _ _) (upd_same _ _ _) (tabI_length _ _ _) Chg.here rfl ?_)
 refine Ops_nil ?_
 refine thenA_n ?_
 refine wpA_seq ?_
 refine wpA_seq ?_
 refine wpA_region ?_
 refine Ops_quiet _ rfl rfl (QO.move rfl rfl) ?_
 have hq := Option.bind_eq_some_iff.1 hm; clear hm; obtain ⟨r3, hr3, hm⟩ := hq
 have hd3 : Del (upd (upd (upd (h) b1 (.own 25 (tabI .u8 pl0 10) 10)) p0 (.own 65 (srcC A_s l_s.length c_s r2.2) 3)) b2 (.own 25 (tabI .u8 r2.1 10) 10)) p0 (.own 65 (srcC A_s l_s.length c_s r2.2) 3) (upd (upd (h) b1 (.own 25 (tabI .u8 pl0 10) 10)) b2 (.own 25 (tabI .u8 r2.1 10) 10)) := (Del.there n_b2_p0.ne.symm (Del.here (none_upd n_b1_p0.ne.symm h_p0)))
 refine Ops_call _ _ rfl rfl (EO.fn rfl Try.func27 rfl rfl (Evs.cons rfl (Evs.cons rfl Evs.nil))) (CC.mono (CC.atLe (c_spec_l01Next (h := upd (upd (h) b1 (.own 25 (tabI .u8 pl0 10) 10)) b2 (.own 25 (tabI .u8 r2.1 10) 10)) hr3 (RdS.le hs_s (Le.under (Le.under (Le.refl _) hb1) hb2)) hd3.none) hd3.le) ?_)
 rintro _ _ ⟨rfl, rfl⟩
 refine Ops_nil ?_
 refine thenA_n ?_
 refine wpA_block ?_
 refine wpA_seq ?_
 refine wpA_region ?_
 refine Ops_quiet _ rfl rfl (QO.bin rfl rfl rfl rfl) ?_
 refine Ops_quiet _ rfl rfl (QO.assign rfl rfl) ?_
 refine Ops_nil ?_
 refine thenA_n ?_
 refine wpA_cond rfl (fun g1 => ?_) (fun g1 => ?_)
 ·replace hm := cond_t hm g1
  refine wpA_region ?_
  refine Ops_quiet _ rfl rfl (QO.move rfl rfl) ?_
  have hq := Option.bind_eq_some_iff.1 hm; clear hm; obtain ⟨r4, hr4, hm⟩ := hq
  have hd4 : Del (upd (upd (upd (h) b1 (.own 25 (tabI .u8 pl0 10) 10)) b2 (.own 25 (tabI .u8 r2.1 10) 10)) p0 (.own 65 (srcC A_s l_s.length c_s r3.2) 3)) p0 (.own 65 (srcC A_s l_s.length c_s r3.2) 3) (upd (upd (h) b1 (.own 25 (tabI .u8 pl0 10) 10)) b2 (.own 25 (tabI .u8 r2.1 10) 10)) := (Del.here (none_upd n_b2_p0.ne.symm (none_upd n_b1_p0.ne.symm h_p0)))
  refine Ops_call _ _ rfl rfl (EO.fn rfl Try.func27 rfl rfl (Evs.cons rfl (Evs.cons rfl Evs.nil))) (CC.mono (CC.atLe (c_spec_l01Next (h := upd (upd (h) b1 (.own 25 (tabI .u8 pl0 10) 10)) b2 (.own 25 (tabI .u8 r2.1 10) 10)) hr4 (RdS.le hs_s (Le.under (Le.under (Le.refl _) hb1) hb2)) hd4.none) hd4.le) ?_)
  rintro _ _ ⟨rfl, rfl⟩
  refine Ops_quiet _ rfl rfl (QO.move rfl rfl) ?_
  refine Ops_loud rfl (LO.slice' [(0, .int .i64 0), (1, .int .i64 1), (2, .int .i64 10), (3, .int .i64 255)] (r := ints .i64 [0, 1, 10, 255]) rfl sz70 sz2 zr2 (by first | rfl | (simp [sqC_length, tbC_length, tabI_length, tabB_length, ints_length, plsC_length, trC_length, sqsC_length, strsC_length, boolsC_length, tbB_length, List.length_append, List.length_cons, List.length_nil, List.length_set, List.length_replicate, rep_length]; done)) (by decide) (by decide) (by decide) rfl rfl (by first | rfl | (simp [sqC_length, tbC_length, tabI_length, tabB_length, ints_length, plsC_length, trC_length, sqsC_length, strsC_length, boolsC_length, tbB_length, List.length_append, List.length_cons, List.length_nil, List.length_set, List.length_replicate, rep_length]; done)) rfl (fun b3 hb3 => ?_))
  simp only [upd_noneA] at hb3
  obtain ⟨n_b3_p0, n_b3_b2, n_b3_b1, hb3⟩ := hb3
  have hq := Option.bind_eq_some_iff.1 hm; clear hm; obtain ⟨r5, hr5, hm⟩ := hq
  have hd5 : Del (upd (upd (upd (upd (h) b1 (.own 25 (tabI .u8 pl0 10) 10)) b2 (.own 25 (tabI .u8 r2.1 10) 10)) p0 (.own 65 (srcC A_s l_s.length c_s r4.2) 3)) b3 (.own 2 (ints .i64 [0, 1, 10, 255]) (4 * 1))) p0 (.own 65 (srcC A_s l_s.length c_s r4.2) 3) (upd (upd (upd (h) b1 (.own 25 (tabI .u8 pl0 10) 10)) b2 (.own 25 (tabI .u8 r2.1 10) 10)) b3 (.own 2 (ints .i64 [0, 1, 10, 255]) (4 * 1))) := (Del.there n_b3_p0.ne.symm (Del.here (none_upd n_b2_p0.ne.symm (none_upd n_b1_p0.ne.symm h_p0))))
  refine Ops_call _ _ rfl rfl (EO.fn rfl Try.func40 rfl rfl (Evs.cons rfl (Evs.cons rfl Evs.nil))) (CC.mono (CC.atLe (c_spec_l01Pick (l1 := [0, 1, 10, 255]) (A1 := some ⟨b3, 0, none⟩) (c1 := 4) (h := upd (upd (upd (h) b1 (.own 25 (tabI .u8 pl0 10) 10)) b2 (.own 25 (tabI .u8 r2.1 10) 10)) b3 (.own 2 (ints .i64 [0, 1, 10, 255]) (4 * 1))) hr5 (RdS.le hs_s (Le.under (Le.under (Le.under (Le.refl _) hb1) hb2) hb3)) (RdS.own (upd_same _ _ _)) hd5.none) hd5.le) ?_)
  rintro _ _ ⟨rfl, rfl⟩
  refine Ops_quiet _ rfl rfl (QO.conv rfl sz2 sz5 rfl) ?_
  have hq := chk hm; clear hm; obtain ⟨ck1, hm⟩ := hq
  refine Ops_quiet _ rfl rfl (QO.idxArr rfl sz25 sz5 rfl rfl (by omega) (by omega)) ?_
  refine Ops_loud rfl (LO.store' (xs' := tabI .u8 (fset r2.1 (r4.1).toNat (IntKind.u8.wrap r5.1)) 10) rfl sz5 rfl rfl rfl ((upd_ne _ _ n_b2_p0.ne).trans ((upd_ne _ _ n_b3_b2.ne.symm).trans (upd_same _ _ _))) (by first | ((try simp only [sqC_length, tbC_length, tabI_length, tabB_length, ints_length, plsC_length, trC_length, sqsC_length, strsC_length, boolsC_length, tbB_length, List.length_append, List.length_cons, List.length_nil, List.length_set, List.length_replicate, rep_length]); first | omega | decide) | exact Nat.le_of_ble_eq_true rfl) tabI_set01 (Chg.there n_b2_p0.ne.symm (Chg.there n_b3_b2.ne Chg.here)) rfl ?_)
  refine Ops_nil ?_
  refine blockA_n ?_
  refine thenA_n ?_
  refine wpA_seq ?_
  refine wpA_region ?_
  refine Ops_quiet _ rfl rfl (QO.loadRow (cs := tabI .u8 (fset r2.1 (r4.1).toNat (IntKind.u8.wrap r5.1)) 10) (hr := (rdAll ((upd_ne _ _ n_b2_p0.ne).trans ((upd_ne _ _ n_b3_b2.ne.symm).trans (upd_same _ _ _))))) rfl sz25 rfl rfl (tabI_length _ _ _)) ?_
  refine Ops_quiet _ rfl rfl (QO.move rfl rfl) ?_
  refine Ops_loud rfl (LO.storeAll (cs := tabI .u8 (fset r2.1 (r4.1).toNat (IntKind.u8.wrap r5.1)) 10) rfl sz25 rfl rfl (tabI_one _ _ _) (tabI_length _ _ _) ((upd_ne _ _ n_b1_p0.ne).trans ((upd_ne _ _ n_b3_b1.ne.symm).trans ((upd_ne _ _ n_b2_b1.ne.symm).trans (upd_same _ _ _)))) (tabI_length _ _ _) (Chg.there n_b1_p0.ne.symm (Chg.there n_b3_b1.ne (Chg.there n_b2_b1.ne Chg.here))) rfl ?_)
  refine Ops_quiet _ rfl rfl (QO.assign rfl rfl) ?_
  refine Ops_nil ?_
  refine thenA_n ?_
  refine wpA_ret ?_
  obtain rfl := Option.some.inj hm
  exact retA_r (h2 := upd (h) p0 (.own 65 (srcC A_s l_s.length c_s r5.2) 3)) (Res.two rfl (res1.row (cs := tabI .u8 (fset r2.1 (r4.1).toNat (IntKind.u8.wrap r5.1)) 10) (hr := (rdAll ((upd_ne _ _ n_b1_p0.ne).trans ((upd_ne _ _ n_b3_b1.ne.symm).trans ((upd_ne _ _ n_b2_b1.ne.symm).trans (upd_same _ _ _)))))) sz25 rfl rfl (tabI_length _ _ _)) (rfl)) (Le.upd_left (Le.under (Le.under (Le.under (Le.under (Le.refl _) hb1) hb2) hb3) h_p0) (upd_same _ _ _) (by first | rfl | (simp; done))) ⟨rfl, rfl⟩
 ·replace hm := cond_f hm g1
  refine wpA_seq ?_
  refine wpA_region ?_
  refine Ops_quiet _ rfl rfl (QO.bin rfl rfl rfl rfl) ?_
  refine Ops_quiet _ rfl rfl (QO.assign rfl rfl) ?_
  refine Ops_nil ?_
  refine thenA_n ?_
  refine wpA_cond rfl (fun g2 => ?_) (fun g2 => ?_)
  ·replace hm := cond_t hm g2
   refine wpA_region ?_
   refine Ops_quiet _ rfl rfl (QO.move rfl rfl) ?_
   refine Ops_quiet _ rfl rfl (QO.move rfl rfl) ?_
   refine Ops_quiet _ rfl rfl (QO.bin rfl rfl rfl rfl) ?_
   refine Ops_loud rfl (LO.slice' [(0, .int .i64 0), (1, .int .i64 11), (2, .int .i64 (-1)), (3, .int .i64 (IntKind.i64.wrap ((IntKind.i64.wrap (1 + r1.1)) - 1)))] (r := ints .i64 [0, 11, (-1), (IntKind.i64.wrap ((IntKind.i64.wrap (1 + r1.1)) - 1))]) rfl sz70 sz2 zr2 (by first | rfl | (simp [sqC_length, tbC_length, tabI_length, tabB_length, ints_length, plsC_length, trC_length, sqsC_length, strsC_length, boolsC_length, tbB_length, List.length_append, List.length_cons, List.length_nil, List.length_set, List.length_replicate, rep_length]; done)) (by decide) (by decide) (by decide) rfl rfl (by first | rfl | (simp [sqC_length, tbC_length, tabI_length, tabB_length, ints_length, plsC_length, trC_length, sqsC_length, strsC_length, boolsC_length, tbB_length, List.length_append, List.length_cons, List.length_nil, List.length_set, List.length_replicate, rep_length]; done)) rfl (fun b4 hb4 => ?_))
   simp only [upd_noneA] at hb4
   obtain ⟨n_b4_p0, n_b4_b2, n_b4_b1, hb4⟩ := hb4
   have hq := Option.bind_eq_some_iff.1 hm; clear hm; obtain ⟨r6, hr6, hm⟩ := hq
   have hd6 : Del (upd (upd (upd (upd (h) b1 (.own 25 (tabI .u8 pl0 10) 10)) b2 (.own 25 (tabI .u8 r2.1 10) 10)) p0 (.own 65 (srcC A_s l_s.length c_s r3.2) 3)) b4 (.own 2 (ints .i64 [0, 11, (-1), (IntKind.i64.wrap ((IntKind.i64.wrap (1 + r1.1)) - 1))]) (4 * 1))) p0 (.own 65 (srcC A_s l_s.length c_s r3.2) 3) (upd (upd (upd (h) b1 (.own 25 (tabI .u8 pl0 10) 10)) b2 (.own 25 (tabI .u8 r2.1 10) 10)) b4 (.own 2 (ints .i64 [0, 11, (-1), (IntKind.i64.wrap ((IntKind.i64.wrap (1 + r1.1)) - 1))]) (4 * 1))) := (Del.there n_b4_p0.ne.symm (Del.here (none_upd n_b2_p0.ne.symm (none_upd n_b1_p0.ne.symm h_p0))))
   refine Ops_call _ _ rfl rfl (EO.fn rfl Try.func40 rfl rfl (Evs.cons rfl (Evs.cons rfl Evs.nil))) (CC.mono (CC.atLe (c_spec_l01Pick (l1 := [0, 11, (-1), (IntKind.i64.wrap ((IntKind.i64.wrap (1 + r1.1)) - 1))]) (A1 := some ⟨b4, 0, none⟩) (c1 := 4) (h := upd (upd (upd (h) b1 (.own 25 (tabI .u8 pl0 10) 10)) b2 (.own 25 (tabI .u8 r2.1 10) 10)) b4 (.own 2 (ints .i64 [0, 11, (-1), (IntKind.i64.wrap ((IntKind.i64.wrap (1 + r1.1)) - 1))]) (4 * 1))) hr6 (RdS.le hs_s (Le.under (Le.under (Le.under (Le.refl _) hb1) hb2) hb4)) (RdS.own (upd_same _ _ _)) hd6.none) hd6.le) ?_)
   rintro _ _ ⟨rfl, rfl⟩
   refine Ops_quiet _ rfl rfl (QO.assign rfl rfl) ?_
   refine Ops_nil ?_
   refine blockA_n ?_
   refine thenA_n ?_
   refine wpA_seq ?_
   refine wpA_region ?_
   refine Ops_quiet _ rfl rfl (QO.loadRow (cs := tabI .u8 r2.1 10) (hr := (rdAll ((upd_ne _ _ n_b2_p0.ne).trans ((upd_ne _ _ n_b4_b2.ne.symm).trans (upd_same _ _ _))))) rfl sz25 rfl rfl (tabI_length _ _ _)) ?_
   refine Ops_quiet _ rfl rfl (QO.move rfl rfl) ?_
   refine Ops_loud rfl (LO.storeAll (cs := tabI .u8 r2.1 10) rfl sz25 rfl rfl (tabI_one _ _ _) (tabI_length _ _ _) ((upd_ne _ _ n_b1_p0.ne).trans ((upd_ne _ _ n_b4_b1.ne.symm).trans ((upd_ne _ _ n_b2_b1.ne.symm).trans (upd_same _ _ _)))) (tabI_length _ _ _) (Chg.there n_b1_p0.ne.symm (Chg.there n_b4_b1.ne (Chg.there n_b2_b1.ne Chg.here))) rfl ?_)
   refine Ops_quiet _ rfl rfl (QO.assign rfl rfl) ?_
   refine Ops_nil ?_
   refine thenA_n ?_
   refine wpA_ret ?_
   obtain rfl := Option.some.inj hm
   exact retA_r (h2 := upd (h) p0 (.own 65 (srcC A_s l_s.length c_s r6.2) 3)) (Res.two rfl (res1.row (cs := tabI .u8 r2.1 10) (hr := (rdAll ((upd_ne _ _ n_b1_p0.ne).trans ((upd_ne _ _ n_b4_b1.ne.symm).trans ((upd_ne _ _ n_b2_b1.ne.symm).trans (upd_same _ _ _)))))) sz25 rfl rfl (tabI_length _ _ _)) (rfl)) (Le.upd_left (Le.under (Le.under (Le.under (Le.under (Le.refl _) hb1) hb2) hb4) h_p0) (upd_same _ _ _) (by first | rfl | (simp; done))) ⟨rfl, rfl⟩
  ·replace hm := cond_f hm g2
   refine wpA_skip ?_
   refine blockA_n ?_
   refine thenA_n ?_
   refine wpA_seq ?_
   refine wpA_region ?_
   refine Ops_quiet _ rfl rfl (QO.loadRow (cs := tabI .u8 r2.1 10) (hr := (rdAll ((upd_ne _ _ n_b2_p0.ne).trans (upd_same _ _ _)))) rfl sz25 rfl rfl (tabI_length _ _ _)) ?_
   refine Ops_quiet _ rfl rfl (QO.move rfl rfl) ?_
   refine Ops_loud rfl (LO.storeAll (cs := tabI .u8 r2.1 10) rfl sz25 rfl rfl (tabI_one _ _ _) (tabI_length _ _ _) ((upd_ne _ _ n_b1_p0.ne).trans ((upd_ne _ _ n_b2_b1.ne.symm).trans (upd_same _ _ _))) (tabI_length _ _ _) (Chg.there n_b1_p0.ne.symm (Chg.there n_b2_b1.ne Chg.here)) rfl ?_)
   refine Ops_quiet _ rfl rfl (QO.assign rfl rfl) ?_
   refine Ops_nil ?_
   refine thenA_n ?_
   refine wpA_ret ?_
   obtain rfl := Option.some.inj hm
   exact retA_r (h2 := upd (h) p0 (.own 65 (srcC A_s l_s.length c_s r3.2) 3)) (Res.two rfl (res1.row (cs := tabI .u8 r2.1 10) (hr := (rdAll ((upd_ne _ _ n_b1_p0.ne).trans ((upd_ne _ _ n_b2_b1.ne.symm).trans (upd_same _ _ _))))) sz25 rfl rfl (tabI_length _ _ _)) (rfl)) (Le.upd_left (Le.under (Le.under (Le.under (Le.refl _) hb1) hb2) h_p0) (upd_same _ _ _) (by first | rfl | (simp; done))) ⟨rfl, rfl⟩

/-! loop.example/g01195/spec.DrawThenPlaces -/
theorem c_spec_DrawThenPlaces {l0 : (List Int)} {A0 : Option Addr} {c0 : Nat} {h : Hp} {r : (Nat → Int) × (Nat → Int) × Int} (hm : m_spec_DrawThenPlaces l0 = some r) (hs0 : RdS h A0 (ints .u8 l0)) :
    QC Try.prog 5 #[.slice A0 l0.length c0] h (.tuple #[.agg (tabI .u8 r.1 10).toArray, .agg (tabI .u8 r.2.1 10).toArray, .int .i64 r.2.2]) := by
 unfold m_spec_DrawThenPlaces at hm
 refine CC.enter Try.func5 rfl Try.ntmps5 rfl ?_
 refine wpA_seq ?_
 refine wpA_region ?_
 refine Ops_loud rfl (LO.alloc rfl zr25 rfl (fun b1 hb1 => ?_))
 refine Ops_loud rfl (LO.alloc rfl zr25 rfl (fun b2 hb2 => ?_))
 simp only [upd_noneA] at hb2
 obtain ⟨n_b2_b1, hb2⟩ := hb2
 refine Ops_quiet _ rfl rfl (QO.assign rfl rfl) ?_
 refine Ops_nil ?_
 refine thenA_n ?_
 refine wpA_seq ?_
 refine wpA_region ?_
 refine Ops_quiet _ rfl rfl (QO.move rfl rfl) ?_
 have hq := Option.bind_eq_some_iff.1 hm; clear hm; obtain ⟨r1, hr1, hm⟩ := hq
 refine Ops_call _ _ rfl rfl (EO.fn rfl Try.func25 rfl rfl (Evs.cons rfl Evs.nil)) (CC.mono (c_spec_l01From (l0 := l0) (A0 := A0) (c0 := c0) hr1 (RdS.le hs0 (Le.under (Le.under (Le.refl _) hb1) hb2))) ?_)
 rintro _ _ ⟨b3, hb3, rfl, rfl⟩
 simp only [upd_noneA] at hb3
 obtain ⟨n_b3_b2, n_b3_b1, hb3⟩ := hb3
 refine Ops_quiet _ rfl rfl (QO.assign rfl rfl) ?_
 refine Ops_nil ?_
 refine thenA_n ?_
 refine wpA_seq ?_
 refine wpA_region ?_
 refine Ops_quiet _ rfl rfl (QO.move rfl rfl) ?_
 have hq := Option.bind_eq_some_iff.1 hm; clear hm; obtain ⟨r2, hr2, hm⟩ := hq
 have hd1 : Del (upd (upd (upd (h) b1 (.own 25 (tabI .u8 pl0 10) 10)) b2 (.own 25 (tabI .u8 pl0 10) 10)) b3 (.own 65 (srcC A0 l0.length c0 r1) 3)) b3 (.own 65 (srcC A0 l0.length c0 r1) 3) (upd (upd (h) b1 (.own 25 (tabI .u8 pl0 10) 10)) b2 (.own 25 (tabI .u8 pl0 10) 10)) := (Del.here (none_upd n_b3_b2.ne (none_upd n_b3_b1.ne hb3)))
 refine Ops_call _ _ rfl rfl (EO.fn rfl Try.func26 rfl rfl (Evs.cons rfl Evs.nil)) (CC.mono (CC.atLe (c_spec_l01Any (h := upd (upd (h) b1 (.own 25 (tabI .u8 pl0 10) 10)) b2 (.own 25 (tabI .u8 pl0 10) 10)) hr2 (RdS.le hs0 (Le.under (Le.under (Le.refl _) hb1) hb2)) hd1.none) hd1.le) ?_)
 rintro _ _ ⟨rfl, rfl⟩
 refine Ops_quiet _ rfl rfl (QO.move rfl rfl) ?_
 refine Ops_quiet _ rfl rfl (QO.extract rfl rfl rfl) ?_
 refine Ops_quiet _ rfl rfl (QO.extract rfl rfl rfl) ?_
 refine Ops_loud rfl (LO.alloc rfl zr25 rfl (fun b4 hb4 => ?_))
 simp only [upd_noneA] at hb4
 obtain ⟨n_b4_b3, n_b4_b2, n_b4_b1, hb4⟩ := hb4
 refine Ops_loud rfl (LO.storeAll (cs := tabI .u8 r2.1 10) rfl sz25 rfl rfl (tabI_one _ _ _) (tabI_length _ _ _) (upd_same _ _ _) (tabI_length _ _ _) Chg.here rfl ?_)
 refine Ops_quiet _ rfl rfl (QO.assign rfl rfl) ?_
 refine Ops_nil ?_
 refine thenA_n ?_
 refine wpA_seq ?_
 refine wpA_seq ?_
 refine wpA_region ?_
 refine Ops_quiet _ rfl rfl (QO.move rfl rfl) ?_
 have hq := Option.bind_eq_some_iff.1 hm; clear hm; obtain ⟨r3, hr3, hm⟩ := hq
 have hd2 : Del (upd (upd (upd (upd (h) b1 (.own 25 (tabI .u8 pl0 10) 10)) b2 (.own 25 (tabI .u8 pl0 10) 10)) b3 (.own 65 (srcC A0 l0.length c0 r2.2.2) 3)) b4 (.own 25 (tabI .u8 r2.1 10) 10)) b3 (.own 65 (srcC A0 l0.length c0 r2.2.2) 3) (upd (upd (upd (h) b1 (.own 25 (tabI .u8 pl0 10) 10)) b2 (.own 25 (tabI .u8 pl0 10) 10)) b4 (.own 25 (tabI .u8 r2.1 10) 10)) := (Del.there n_b4_b3.ne.symm (Del.here (none_upd n_b3_b2.ne (none_upd n_b3_b1.ne hb3))))
 refine Ops_call _ _ rfl rfl (EO.fn rfl Try.func27 rfl rfl (Evs.cons rfl (Evs.cons rfl Evs.nil))) (CC.mono (CC.atLe (c_spec_l01Next (h := upd (upd (upd (h) b1 (.own 25 (tabI .u8 pl0 10) 10)) b2 (.own 25 (tabI .u8 pl0 10) 10)) b4 (.own 25 (tabI .u8 r2.1 10) 10)) hr3 (RdS.le hs0 (Le.under (Le.under (Le.under (Le.refl _) hb1) hb2) hb4)) hd2.none) hd2.le) ?_)
 rintro _ _ ⟨rfl, rfl⟩
 refine Ops_quiet _ rfl rfl (QO.bin rfl rfl rfl rfl) ?_
 refine Ops_nil ?_
 refine thenA_n ?_
 refine wpA_cond rfl (fun g1 => ?_) (fun g1 => ?_)
 ·replace hm := cond_t hm g1
  refine wpA_seq ?_
  refine wpA_region ?_
  refine Ops_quiet _ rfl rfl (QO.move rfl rfl) ?_
  have hq := Option.bind_eq_some_iff.1 hm; clear hm; obtain ⟨r4, hr4, hm⟩ := hq
  have hd3 : Del (upd (upd (upd (upd (h) b1 (.own 25 (tabI .u8 pl0 10) 10)) b2 (.own 25 (tabI .u8 pl0 10) 10)) b4 (.own 25 (tabI .u8 r2.1 10) 10)) b3 (.own 65 (srcC A0 l0.length c0 r3.2) 3)) b3 (.own 65 (srcC A0 l0.length c0 r3.2) 3) (upd (upd (upd (h) b1 (.own 25 (tabI .u8 pl0 10) 10)) b2 (.own 25 (tabI .u8 pl0 10) 10)) b4 (.own 25 (tabI .u8 r2.1 10) 10)) := (Del.here (none_upd n_b4_b3.ne.symm (none_upd n_b3_b2.ne (none_upd n_b3_b1.ne hb3))))
  refine Ops_call _ _ rfl rfl (EO.fn rfl Try.func26 rfl rfl (Evs.cons rfl Evs.nil)) (CC.mono (CC.atLe (c_spec_l01Any (h := upd (upd (upd (h) b1 (.own 25 (tabI .u8 pl0 10) 10)) b2 (.own 25 (tabI .u8 pl0 10) 10)) b4 (.own 25 (tabI .u8 r2.1 10) 10)) hr4 (RdS.le hs0 (Le.under (Le.under (Le.under (Le.refl _) hb1) hb2) hb4)) hd3.none) hd3.le) ?_)
  rintro _ _ ⟨rfl, rfl⟩
  refine Ops_quiet _ rfl rfl (QO.move rfl rfl) ?_
  refine Ops_quiet _ rfl rfl (QO.extract rfl rfl rfl) ?_
  refine Ops_quiet _ rfl rfl (QO.extract rfl rfl rfl) ?_
  refine Ops_loud rfl (LO.alloc rfl zr25 rfl (fun b5 hb5 => ?_))
  simp only [upd_noneA] at hb5
  obtain ⟨n_b5_b3, n_b5_b4, n_b5_b2, n_b5_b1, hb5⟩ := hb5
  refine Ops_loud rfl (LO.storeAll (cs := tabI .u8 r4.1 10) rfl sz25 rfl rfl (tabI_one _ _ _) (tabI_length _ _ _) (upd_same _ _ _) (tabI_length _ _ _) Chg.here rfl ?_)
  refine Ops_quiet _ rfl rfl (QO.assign rfl rfl) ?_
  refine Ops_nil ?_
  refine thenA_n ?_
  refine wpA_seq ?_
  refine wpA_any (upd (upd (upd (h) b4 (.own 25 (tabI .u8 r2.1 10) 10)) b3 (.own 65 (srcC A0 l0.length c0 r4.2.2) 3)) b5 (.own 25 (tabI .u8 r4.1 10) 10)) [3, 4] [] (by kernel_rfl) (by kernel_rfl) (DW.start ?_)
  refine DW.read' 0 _ rfl (by kernel_rfl) rfl (QO.loadRow (cs := tabI .u8 r2.1 10) (hr := (rdAll ((upd_ne _ _ n_b5_b4.ne.symm).trans ((upd_ne _ _ n_b4_b3.ne).trans (upd_same _ _ _))))) rfl sz25 rfl rfl (tabI_length _ _ _)) ?_
  refine DW.readK' 1 _ rfl (by kernel_rfl) rfl (Le.upd_left (Le.upd_left (Le.upd_left (Le.under (Le.under (Le.under (Le.under (Le.under (Le.refl _) hb1) hb2) hb4) hb3) hb5) ((upd_ne _ _ n_b5_b4.ne.symm).trans ((upd_ne _ _ n_b4_b3.ne).trans (upd_same _ _ _))) (by first | rfl | (simp; done))) ((upd_ne _ _ n_b5_b3.ne.symm).trans (upd_same _ _ _)) (by first | rfl | (simp; done))) (upd_same _ _ _) (by first | rfl | (simp; done))) (QO.loadRow (cs := tabI .u8 r4.1 10) (hr := (rdAll (upd_same _ _ _))) rfl sz25 rfl rfl (tabI_length _ _ _)) ?_
  refine DW.pure' 2 _ rfl (by kernel_rfl) rfl (fun _ => QO.move rfl rfl) ?_
  refine DW.loud 3 rfl (by kernel_rfl) rfl rfl (LO.storeAll (cs := tabI .u8 r2.1 10) rfl sz25 rfl rfl (tabI_one _ _ _) (tabI_length _ _ _) ((upd_ne _ _ n_b5_b1.ne.symm).trans ((upd_ne _ _ n_b3_b1.ne.symm).trans ((upd_ne _ _ n_b4_b1.ne.symm).trans ((upd_ne _ _ n_b2_b1.ne.symm).trans (upd_same _ _ _))))) (tabI_length _ _ _) (Chg.there n_b5_b1.ne (Chg.there n_b3_b1.ne (Chg.there n_b4_b1.ne (Chg.there n_b2_b1.ne Chg.here)))) rfl ?_)
  refine ⟨(fun _ => (Le.upd_left (Le.upd_left (Le.upd_left (Le.under (Le.under (Le.under (Le.under (Le.under (Le.refl _) hb1) hb2) hb4) hb3) hb5) ((upd_ne _ _ n_b5_b4.ne.symm).trans ((upd_ne _ _ n_b4_b3.ne).trans (upd_same _ _ _))) (by first | rfl | (simp; done))) ((upd_ne _ _ n_b5_b3.ne.symm).trans (upd_same _ _ _)) (by first | rfl | (simp; done))) (upd_same _ _ _) (by first | rfl | (simp; done)))), ?_⟩
  refine DW.loud 4 rfl (by kernel_rfl) rfl rfl (LO.storeAll (cs := tabI .u8 r4.1 10) rfl sz25 rfl rfl (tabI_one _ _ _) (tabI_length _ _ _) ((upd_ne _ _ n_b5_b2.ne.symm).trans ((upd_ne _ _ n_b3_b2.ne.symm).trans ((upd_ne _ _ n_b4_b2.ne.symm).trans (upd_same _ _ _)))) (tabI_length _ _ _) (Chg.there n_b5_b2.ne (Chg.there n_b3_b2.ne (Chg.there n_b4_b2.ne Chg.here))) rfl ?_)
  refine ⟨(fun _ => (Le.upd_left (Le.upd_left (Le.upd_left (Le.under (Le.under (Le.under (Le.under (Le.under (Le.refl _) hb1) hb2) hb4) hb3) hb5) ((upd_ne _ _ n_b5_b4.ne.symm).trans ((upd_ne _ _ n_b4_b3.ne).trans (upd_same _ _ _))) (by first | rfl | (simp; done))) ((upd_ne _ _ n_b5_b3.ne.symm).trans (upd_same _ _ _)) (by first | rfl | (simp; done))) (upd_same _ _ _) (by first | rfl | (simp; done)))), ?_⟩
  refine DW.pure' 5 _ rfl (by kernel_rfl) rfl (fun _ => QO.assign rfl rfl) ?_
  refine DW.done (by kernel_rfl) ?_ _
  refine thenA_n ?_
  refine wpA_ret ?_
  refine thenA_r ?_
  obtain rfl := Option.some.inj hm
  exact retA_r (h2 := h) (Res.three rfl (res1.row (cs := tabI .u8 r2.1 10) (hr := (rdAll ((upd_ne _ _ n_b5_b1.ne.symm).trans ((upd_ne _ _ n_b3_b1.ne.symm).trans ((upd_ne _ _ n_b4_b1.ne.symm).trans ((upd_ne _ _ n_b2_b1.ne.symm).trans (upd_same _ _ _))))))) sz25 rfl rfl (tabI_length _ _ _)) (res1.row (cs := tabI .u8 r4.1 10) (hr := (rdAll ((upd_ne _ _ n_b5_b2.ne.symm).trans ((upd_ne _ _ n_b3_b2.ne.symm).trans ((upd_ne _ _ n_b4_b2.ne.symm).trans (upd_same _ _ _)))))) sz25 rfl rfl (tabI_length _ _ _)) (rfl)) (Le.under (Le.under (Le.under (Le.under (Le.under (Le.refl _) hb1) hb2) hb4) hb3) hb5) ⟨rfl, rfl⟩
 ·replace hm := cond_f hm g1
  refine wpA_skip ?_
  refine thenA_n ?_
  refine wpA_seq ?_
  refine wpA_any (upd (h) b4 (.own 25 (tabI .u8 r2.1 10) 10)) [4, 6, 7] [] (by kernel_rfl) (by kernel_rfl) (DW.start ?_)
  refine DW.readK' 0 _ rfl (by kernel_rfl) rfl (Le.upd_left (Le.under (Le.under (Le.under (Le.under (Le.refl _) hb1) hb2) hb4) hb3) ((upd_ne _ _ n_b4_b3.ne).trans (upd_same _ _ _)) (by first | rfl | (simp; done))) (QO.loadRow (cs := tabI .u8 r2.1 10) (hr := (rdAll (upd_same _ _ _))) rfl sz25 rfl rfl (tabI_length _ _ _)) ?_
  refine DW.pure' 1 _ rfl (by kernel_rfl) rfl (fun _ => QO.move rfl rfl) ?_
  refine DW.pure' 2 _ rfl (by kernel_rfl) rfl (fun _ => QO.move rfl rfl) ?_
  refine DW.pure' 3 _ rfl (by kernel_rfl) rfl (fun _ => QO.min2 rfl rfl rfl) ?_
  refine DW.pure' 5 _ rfl (by kernel_rfl) rfl (fun _ => QO.move rfl rfl) ?_
  have hq := Option.bind_eq_some_iff.1 hm; clear hm; obtain ⟨r5, hr5, hm⟩ := hq
  have hd4 : Del (upd (upd (upd (upd (h) b1 (.own 25 (tabI .u8 pl0 10) 10)) b2 (.own 25 (tabI .u8 pl0 10) 10)) b4 (.own 25 (tabI .u8 r2.1 10) 10)) b3 (.own 65 (srcC A0 l0.length c0 r3.2) 3)) b3 (.own 65 (srcC A0 l0.length c0 r3.2) 3) (upd (upd (upd (h) b1 (.own 25 (tabI .u8 pl0 10) 10)) b2 (.own 25 (tabI .u8 pl0 10) 10)) b4 (.own 25 (tabI .u8 r2.1 10) 10)) := (Del.here (none_upd n_b4_b3.ne.symm (none_upd n_b3_b2.ne (none_upd n_b3_b1.ne hb3))))
  refine DW.call 4 _ _ rfl (by kernel_rfl) rfl rfl (EO.fn rfl Try.func28 rfl rfl (Evs.cons rfl (Evs.cons rfl Evs.nil))) (CC.mono (CC.atLe (c_spec_l01DrawPlaces (h := upd (upd (upd (h) b1 (.own 25 (tabI .u8 pl0 10) 10)) b2 (.own 25 (tabI .u8 pl0 10) 10)) b4 (.own 25 (tabI .u8 r2.1 10) 10)) hr5 (RdS.le hs0 (Le.under (Le.under (Le.under (Le.refl _) hb1) hb2) hb4)) hd4.none) hd4.le) ?_)
  rintro _ _ ⟨rfl, rfl⟩
  refine ⟨(fun _ => (Le.upd_left (Le.under (Le.under (Le.under (Le.under (Le.refl _) hb1) hb2) hb4) hb3) ((upd_ne _ _ n_b4_b3.ne).trans (upd_same _ _ _)) (by first | rfl | (simp; done)))), ?_⟩
  refine DW.loud 6 rfl (by kernel_rfl) rfl rfl (LO.storeAll (cs := tabI .u8 r2.1 10) rfl sz25 rfl rfl (tabI_one _ _ _) (tabI_length _ _ _) ((upd_ne _ _ n_b3_b1.ne.symm).trans ((upd_ne _ _ n_b4_b1.ne.symm).trans ((upd_ne _ _ n_b2_b1.ne.symm).trans (upd_same _ _ _)))) (tabI_length _ _ _) (Chg.there n_b3_b1.ne (Chg.there n_b4_b1.ne (Chg.there n_b2_b1.ne Chg.here))) rfl ?_)
  refine ⟨(fun _ => (Le.upd_left (Le.under (Le.under (Le.under (Le.under (Le.refl _) hb1) hb2) hb4) hb3) ((upd_ne _ _ n_b4_b3.ne).trans (upd_same _ _ _)) (by first | rfl | (simp; done)))), ?_⟩
  refine DW.loud 7 rfl (by kernel_rfl) rfl rfl (LO.storeAll (cs := tabI .u8 r5.1 10) rfl sz25 rfl rfl (tabI_one _ _ _) (tabI_length _ _ _) ((upd_ne _ _ n_b3_b2.ne.symm).trans ((upd_ne _ _ n_b4_b2.ne.symm).trans (upd_same _ _ _))) (tabI_length _ _ _) (Chg.there n_b3_b2.ne (Chg.there n_b4_b2.ne Chg.here)) rfl ?_)
  refine ⟨(fun _ => (Le.upd_left (Le.under (Le.under (Le.under (Le.under (Le.refl _) hb1) hb2) hb4) hb3) ((upd_ne _ _ n_b4_b3.ne).trans (upd_same _ _ _)) (by first | rfl | (simp; done)))), ?_⟩
  refine DW.pure' 8 _ rfl (by kernel_rfl) rfl (fun _ => QO.assign rfl rfl) ?_
  refine DW.done (by kernel_rfl) ?_ _
  refine thenA_n ?_
  refine wpA_ret ?_
  obtain rfl := Option.some.inj hm
  exact retA_r (h2 := h) (Res.three rfl (res1.row (cs := tabI .u8 r2.1 10) (hr := (rdAll ((upd_ne _ _ n_b3_b1.ne.symm).trans ((upd_ne _ _ n_b4_b1.ne.symm).trans ((upd_ne _ _ n_b2_b1.ne.symm).trans (upd_same _ _ _)))))) sz25 rfl rfl (tabI_length _ _ _)) (res1.row (cs := tabI .u8 r5.1 10) (hr := (rdAll ((upd_ne _ _ n_b3_b2.ne.symm).trans ((upd_ne _ _ n_b4_b2.ne.symm).trans (upd_same _ _ _))))) sz25 rfl rfl (tabI_length _ _ _)) (rfl)) (Le.under (Le.under (Le.under (Le.under (Le.refl _) hb1) hb2) hb4) hb3) ⟨rfl, rfl⟩

/-! loop.example/g01195/impl.within -/
theorem c_impl_within {a0 : Int} {a1 : Int} {a2 : Int} {h : Hp} {r : Bool} (hm : m_impl_within a0 a1 a2 = some r)  :
    QC Try.prog 36 #[.int .i64 a0, .int .i64 a1, .int .i64 a2] h (.bool r) := by
 unfold m_impl_within at hm
 refine CC.enter Try.func36 rfl Try.ntmps36 rfl ?_
 refine wpA_seq ?_
 refine wpA_region ?_
 refine Ops_quiet _ rfl rfl (QO.assign rfl rfl) ?_
 refine Ops_nil ?_
 refine thenA_n ?_
 refine wpA_seq ?_
 refine wpA_region ?_
 refine Ops_quiet _ rfl rfl (QO.move rfl rfl) ?_
 refine Ops_quiet _ rfl rfl (QO.move rfl rfl) ?_
 refine Ops_quiet _ rfl rfl (QO.bin rfl rfl rfl rfl) ?_
 refine Ops_quiet _ rfl rfl (QO.move rfl rfl) ?_
 refine Ops_case 10 rfl (fun g1 => ?_) (fun g1 => ?_)
 ·replace hm := cond_t hm g1
  refine Ops_quiet _ rfl rfl (QO.move rfl rfl) ?_
  refine Ops_quiet _ rfl rfl (QO.move rfl rfl) ?_
  refine Ops_quiet _ rfl rfl (QO.bin rfl rfl rfl rfl) ?_
  refine Ops_quiet _ rfl rfl (QO.pick_t rfl rfl rfl) ?_
  refine Ops_quiet _ rfl rfl (QO.assign rfl rfl) ?_
  refine Ops_nil ?_
  refine thenA_n ?_
  refine wpA_ret ?_
  obtain rfl := Option.some.inj hm
  exact retA_r (h2 := h) (Res.one rfl (rfl)) (Le.refl _) ⟨rfl, rfl⟩
 ·replace hm := cond_f hm g1
  refine Ops_skip rfl rfl ?_
  refine Ops_skip rfl rfl ?_
  refine Ops_skip rfl rfl ?_
  refine Ops_quiet _ rfl rfl (QO.pick_f rfl rfl rfl) ?_
  refine Ops_quiet _ rfl rfl (QO.assign rfl rfl) ?_
  refine Ops_nil ?_
  refine thenA_n ?_
  refine wpA_ret ?_
  obtain rfl := Option.some.inj hm
  exact retA_r (h2 := h) (Res.one rfl (rfl)) (Le.refl _) ⟨rfl, rfl⟩

/-! loop.example/g01195/impl.IsPermutation -/
theorem c_impl_IsPermutation {a0 : (Nat → Int)} {a1 : Int} {h : Hp} {r : Bool} (hm : m_impl_IsPermutation a0 a1 = some r)  :
    QC Try.prog 12 #[.agg (tabI .u8 a0 10).toArray, .int .i64 a1] h (.bool r) := by
 unfold m_impl_IsPermutation at hm
 refine CC.enter Try.func12 rfl Try.ntmps12 rfl ?_
 refine wpA_seq ?_
 refine wpA_region ?_
 refine Ops_loud rfl (LO.boxAgg rfl rfl rfl (fun b1 hb1 => ?_))
 refine Ops_quiet _ rfl rfl (QO.assign rfl rfl) ?_
 refine Ops_nil ?_
 refine thenA_n ?_
 refine wpA_seq ?_
 refine wpA_seq ?_
 refine wpA_region ?_
 refine Ops_quiet _ rfl rfl (QO.move rfl rfl) ?_
 have hq := Option.bind_eq_some_iff.1 hm; clear hm; obtain ⟨r1, hr1, hm⟩ := hq
 refine Ops_call _ _ rfl rfl (EO.fn rfl Try.func36 rfl rfl (Evs.cons rfl (Evs.cons rfl (Evs.cons rfl Evs.nil)))) (QC.cc (c_impl_within hr1 ) ?_)
 refine Ops_quiet _ rfl rfl (QO.not rfl rfl) ?_
 refine Ops_nil ?_
 refine thenA_n ?_
 refine wpA_cond rfl (fun g1 => ?_) (fun g1 => ?_)
 ·replace hm := cond_t hm g1
  refine wpA_seq ?_
  refine wpA_region ?_
  refine Ops_quiet _ rfl rfl (QO.assign rfl rfl) ?_
  refine Ops_nil ?_
  refine thenA_n ?_
  refine wpA_ret ?_
  refine thenA_r ?_
  obtain rfl := Option.some.inj hm
  exact retA_r (h2 := h) (Res.one rfl (rfl)) (Le.under (Le.refl _) hb1) ⟨rfl, rfl⟩
 ·replace hm := cond_f hm g1
  refine wpA_skip ?_
  refine thenA_n ?_
  refine wpA_seq ?_
  refine wpA_region ?_
  refine Ops_quiet _ rfl rfl (QO.assign rfl rfl) ?_
  refine Ops_nil ?_
  refine thenA_n ?_
  refine wpA_seq ?_
  refine wpA_seq ?_
  refine wpA_region ?_
  refine Ops_quiet _ rfl rfl (QO.loadRow (cs := tabI .u8 a0 10) (hr := (rdAll (upd_same _ _ _))) rfl sz25 rfl rfl (tabI_length _ _ _)) ?_
  refine Ops_quiet _ rfl rfl (QO.move rfl rfl) ?_
  refine Ops_nil ?_
  refine thenA_n ?_
  refine wpA_block ?_
  obtain ⟨R1, hR, hm⟩ := Option.bind_eq_some_iff.1 hm
  obtain ⟨k1, hk1⟩ := loopV_some hR
  clear hR
  refine wpA_mono (Q := fun e s' h' => match (generalizing := false) R1 with | .stop x id => e = .exit id ∧ ∃ (x1 : Int) (x2 : Int), x = (x1, x2) ∧ Sub s' [(1, .int .i64 a1), (5, .int .i64 x1), (11, .agg (tabI .u8 a0 10).toArray), (12, .int .i64 x2)] ∧ Le (h) h' | .ret r => e = .ret ∧ Sub s' [(4, .bool r)] ∧ Le (h) h' | .next _ => False) ?_ ?_
  ·refine wpA_loop (fun k s' h' => ∃ (x1 : Int) (x2 : Int), loopW (m_impl_IsPermutation_l0 a0 a1) k (x1, x2) = some R1 ∧ Sub s' [(1, .int .i64 a1), (5, .int .i64 x1), (11, .agg (tabI .u8 a0 10).toArray), (12, .int .i64 x2)] ∧ Le (h) h') (m := k1) ⟨0, 0, hk1, (Sub.cons rfl (Sub.cons rfl (Sub.cons rfl (Sub.cons rfl Sub.nil)))), (Le.under (Le.refl _) hb1)⟩ ?_
   rintro k1 s' h' ⟨x1, x2, hk1, hsub, hle⟩
   refine wpA_weaken hsub.ok hle ?_
   clear hsub hle s' h'
   cases k1 with
   | zero => exact absurd hk1 (by simp [loopW])
   | succ k1 =>
    obtain ⟨o1, ho1, hk1⟩ := loopW_succ hk1
    unfold m_impl_IsPermutation_l0 at ho1
    try dsimp only at ho1
    refine wpA_seq ?_
    refine wpA_region ?_
    refine Ops_quiet _ rfl rfl (QO.bin rfl rfl rfl rfl) ?_
    refine Ops_nil ?_
    refine thenA_n ?_
    refine wpA_seq ?_
    refine wpA_cond rfl (fun g2 => ?_) (fun g2 => ?_)
    ·replace ho1 := cond_t ho1 g2
     refine wpA_skip ?_
     refine thenA_n ?_
     refine wpA_seq ?_
     refine wpA_block ?_
     refine wpA_seq ?_
     refine wpA_region ?_
     refine Ops_quiet _ rfl rfl (QO.move rfl rfl) ?_
     have hq := chk ho1; clear ho1; obtain ⟨ck1, ho1⟩ := hq
     refine Ops_quiet _ rfl rfl (QO.idxAgg rfl sz25 sz5 rfl rfl rfl (by omega) (by omega) (by first | exact tabI_get (by omega) | exact tabB_get (by omega))) ?_
     refine Ops_quiet _ rfl rfl (QO.assign rfl rfl) ?_
     refine Ops_quiet _ rfl rfl (QO.assign rfl rfl) ?_
     refine Ops_nil ?_
     refine thenA_n ?_
     refine wpA_seq ?_
     refine wpA_seq ?_
     refine wpA_region ?_
     refine Ops_quiet _ rfl rfl (QO.move rfl rfl) ?_
     refine Ops_quiet _ rfl rfl (QO.move rfl rfl) ?_
     refine Ops_quiet _ rfl rfl (QO.bin rfl rfl rfl rfl) ?_
     refine Ops_nil ?_
     refine thenA_n ?_
     refine wpA_cond rfl (fun g3 => ?_) (fun g3 => ?_)
     ·replace ho1 := cond_t ho1 g3
      refine wpA_seq ?_
      refine wpA_seq ?_
      refine wpA_region ?_
      refine Ops_quiet _ rfl rfl (QO.move rfl rfl) ?_
      refine Ops_quiet _ rfl rfl (QO.bin rfl rfl rfl rfl) ?_
      refine Ops_nil ?_
      refine thenA_n ?_
      refine wpA_cond rfl (fun g4 => ?_) (fun g4 => ?_)
      ·replace ho1 := cond_t ho1 g4
       refine wpA_seq ?_
       refine wpA_region ?_
       refine Ops_quiet _ rfl rfl (QO.assign rfl rfl) ?_
       refine Ops_nil ?_
       refine thenA_n ?_
       refine wpA_ret ?_
       refine thenA_r ?_
       refine thenA_r ?_
       refine blockA_r ?_
       refine thenA_r ?_
       refine thenA_r ?_
       obtain rfl := Option.some.inj ho1
       obtain rfl := Option.some.inj hk1
       exact ⟨rfl, (Sub.cons rfl Sub.nil), (Le.refl _)⟩
      ·replace ho1 := cond_f ho1 g4
       refine wpA_skip ?_
       refine thenA_n ?_
       refine wpA_exit ?_
       refine thenA_e ?_
       refine blockA_s ?_
       refine thenA_n ?_
       refine wpA_region ?_
       refine Ops_quiet _ rfl rfl (QO.bin rfl rfl rfl rfl) ?_
       refine Ops_quiet _ rfl rfl (QO.move rfl rfl) ?_
       refine Ops_nil ?_
       obtain rfl := Option.some.inj ho1
       dsimp only at hk1
       exact thenA_n ⟨k1, Nat.lt_succ_self _, _, _, hk1, (Sub.cons rfl (Sub.cons rfl (Sub.cons rfl (Sub.cons rfl Sub.nil)))), (Le.refl _)⟩
     ·replace ho1 := cond_f ho1 g3
      refine wpA_skip ?_
      refine thenA_n ?_
      refine wpA_seq ?_
      refine wpA_seq ?_
      refine wpA_region ?_
      refine Ops_quiet _ rfl rfl (QO.move rfl rfl) ?_
      refine Ops_quiet _ rfl rfl (QO.conv rfl sz5 sz2 rfl) ?_
      refine Ops_quiet _ rfl rfl (QO.move rfl rfl) ?_
      refine Ops_quiet _ rfl rfl (QO.bin rfl rfl rfl rfl) ?_
      refine Ops_nil ?_
      refine thenA_n ?_
      refine wpA_cond rfl (fun g5 => ?_) (fun g5 => ?_)
      ·replace ho1 := cond_t ho1 g5
       refine wpA_seq ?_
       refine wpA_region ?_
       refine Ops_quiet _ rfl rfl (QO.assign rfl rfl) ?_
       refine Ops_nil ?_
       refine thenA_n ?_
       refine wpA_ret ?_
       refine thenA_r ?_
       refine blockA_r ?_
       refine thenA_r ?_
       refine thenA_r ?_
       obtain rfl := Option.some.inj ho1
       obtain rfl := Option.some.inj hk1
       exact ⟨rfl, (Sub.cons rfl Sub.nil), (Le.refl _)⟩
      ·replace ho1 := cond_f ho1 g5
       refine wpA_skip ?_
       refine thenA_n ?_
       refine wpA_region ?_
       refine Ops_quiet _ rfl rfl (QO.move rfl rfl) ?_
       refine Ops_quiet _ rfl rfl (QO.move rfl rfl) ?_
       have hq := chk ho1; clear ho1; obtain ⟨ck2, ho1⟩ := hq
       refine Ops_quiet _ rfl rfl (QO.shl rfl rfl rfl (by first | assumption | omega)) ?_
       refine Ops_quiet _ rfl rfl (QO.bin rfl rfl rfl rfl) ?_
       refine Ops_quiet _ rfl rfl (QO.assign rfl rfl) ?_
       refine Ops_nil ?_
       refine blockA_n ?_
       refine thenA_n ?_
       refine wpA_region ?_
       refine Ops_quiet _ rfl rfl (QO.bin rfl rfl rfl rfl) ?_
       refine Ops_quiet _ rfl rfl (QO.move rfl rfl) ?_
       refine Ops_nil ?_
       obtain rfl := Option.some.inj ho1
       dsimp only at hk1
       exact thenA_n ⟨k1, Nat.lt_succ_self _, _, _, hk1, (Sub.cons rfl (Sub.cons rfl (Sub.cons rfl (Sub.cons rfl Sub.nil)))), (Le.refl _)⟩
    ·replace ho1 := cond_f ho1 g2
     refine wpA_exit ?_
     refine thenA_e ?_
     refine thenA_e ?_
     obtain rfl := Option.some.inj ho1
     obtain rfl := Option.some.inj hk1
     exact ⟨rfl, _, _, rfl, (Sub.cons rfl (Sub.cons rfl (Sub.cons rfl (Sub.cons rfl Sub.nil)))), (Le.refl _)⟩
  ·intro e s' h' hq
   cases R1 with
   | next x => exact hq.elim
   | ret r =>
    obtain ⟨rfl, hsub1, hle1⟩ := hq
    try dsimp only at hm
    refine blockA_r ?_
    refine thenA_r ?_
    obtain rfl := Option.some.inj hm
    refine retA_sub hsub1.ok hle1 ?_
    exact retA_r (h2 := h) (Res.one rfl (rfl)) (Le.refl _) ⟨rfl, rfl⟩
   | stop x id =>
    obtain ⟨rfl, x3, x4, rfl, hsub2, hle2⟩ := hq
    try dsimp only at hm
    by_cases hid1 : id = 0
    ·subst hid1
     rw [if_pos rfl] at hm
     refine blockA_s ?_
     refine thenA_n ?_
     refine wpA_weaken hsub2.ok hle2 ?_
     refine wpA_seq ?_
     refine wpA_region ?_
     refine Ops_quiet _ rfl rfl (QO.move rfl rfl) ?_
     refine Ops_quiet _ rfl rfl (QO.move rfl rfl) ?_
     have hq := chk hm; clear hm; obtain ⟨ck3, hm⟩ := hq
     refine Ops_quiet _ rfl rfl (QO.shl rfl rfl rfl (by first | assumption | omega)) ?_
     refine Ops_quiet _ rfl rfl (QO.bin rfl rfl rfl rfl) ?_
     refine Ops_quiet _ rfl rfl (QO.bin rfl rfl rfl rfl) ?_
     refine Ops_quiet _ rfl rfl (QO.assign rfl rfl) ?_
     refine Ops_nil ?_
     refine thenA_n ?_
     refine wpA_ret ?_
     obtain rfl := Option.some.inj hm
     exact retA_r (h2 := h) (Res.one rfl (rfl)) (Le.refl _) ⟨rfl, rfl⟩
    rw [if_neg hid1] at hm
    exact absurd hm (by simp)

/-! loop.example/g01195/impl.arePermutations -/
theorem c_impl_arePermutations {a0 : Int} {l1 : (List (Nat → Int))} {A1 : Option Addr} {c1 : Nat} {h : Hp} {r : Bool} (hm : m_impl_arePermutations a0 l1 = some r) (hs1 : RdS h A1 (plsC l1)) :
    QC Try.prog 29 #[.int .i64 a0, .slice A1 l1.length c1] h (.bool r) := by
 unfold m_impl_arePermutations at hm
 refine CC.enter Try.func29 rfl Try.ntmps29 rfl ?_
 refine wpA_seq ?_
 refine wpA_region ?_
 refine Ops_quiet _ rfl rfl (QO.assign rfl rfl) ?_
 refine Ops_nil ?_
 refine thenA_n ?_
 refine wpA_seq ?_
 refine wpA_seq ?_
 refine wpA_region ?_
 refine Ops_quiet _ rfl rfl (QO.move rfl rfl) ?_
 refine Ops_quiet _ rfl rfl (QO.lenSl rfl sz68 rfl) ?_
 refine Ops_quiet _ rfl rfl (QO.move rfl rfl) ?_
 refine Ops_nil ?_
 refine thenA_n ?_
 refine wpA_block ?_
 obtain ⟨R1, hR, hm⟩ := Option.bind_eq_some_iff.1 hm
 obtain ⟨k1, hk1⟩ := loopV_some hR
 clear hR
 refine wpA_mono (Q := fun e s' h' => match (generalizing := false) R1 with | .stop x id => e = .exit id ∧ ∃ (x1 : Int), x = x1 ∧ Sub s' [(0, .int .i64 a0), (7, .slice A1 l1.length c1), (8, .int .i64 ((l1.length : Nat) : Int)), (9, .int .i64 x1)] ∧ Le (h) h' | .ret r => e = .ret ∧ Sub s' [(4, .bool r)] ∧ Le (h) h' | .next _ => False) ?_ ?_
 ·refine wpA_loop (fun k s' h' => ∃ (x1 : Int), loopW (m_impl_arePermutations_l0 a0 l1) k x1 = some R1 ∧ Sub s' [(0, .int .i64 a0), (7, .slice A1 l1.length c1), (8, .int .i64 ((l1.length : Nat) : Int)), (9, .int .i64 x1)] ∧ Le (h) h') (m := k1) ⟨0, hk1, (Sub.cons rfl (Sub.cons rfl (Sub.cons rfl (Sub.cons rfl Sub.nil)))), (Le.refl _)⟩ ?_
  rintro k1 s' h' ⟨x1, hk1, hsub, hle⟩
  refine wpA_weaken hsub.ok hle ?_
  clear hsub hle s' h'
  cases k1 with
  | zero => exact absurd hk1 (by simp [loopW])
  | succ k1 =>
   obtain ⟨o1, ho1, hk1⟩ := loopW_succ hk1
   unfold m_impl_arePermutations_l0 at ho1
   try dsimp only at ho1
   refine wpA_seq ?_
   refine wpA_region ?_
   refine Ops_quiet _ rfl rfl (QO.bin rfl rfl rfl rfl) ?_
   refine Ops_nil ?_
   refine thenA_n ?_
   refine wpA_seq ?_
   refine wpA_cond rfl (fun g1 => ?_) (fun g1 => ?_)
   ·replace ho1 := cond_t ho1 g1
    refine wpA_skip ?_
    refine thenA_n ?_
    refine wpA_seq ?_
    refine wpA_block ?_
    refine wpA_seq ?_
    refine wpA_region ?_
    have hq := chk ho1; clear ho1; obtain ⟨ck1, ho1⟩ := hq
    refine Ops_quiet _ rfl rfl (QO.idxRd2 rfl sz68 sz25 rfl rfl (by omega) (by omega) hs1 (by simp [sqC_length, tbC_length, tabI_length, tabB_length, ints_length, plsC_length, trC_length, sqsC_length, strsC_length, boolsC_length, tbB_length, List.length_append, List.length_cons, List.length_nil, List.length_set, List.length_replicate, rep_length]) (by decide)) ?_
    refine Ops_quiet _ rfl rfl (QO.loadRow (cs := tabI .u8 (l1.getD (x1).toNat pl0) 10) (hr := (by first | exact rdsPl (RdS.le hs1 (Le.refl _)) (by omega) | exact rdsSq (RdS.le hs1 (Le.refl _)) (by omega))) rfl sz25 rfl rfl (tabI_length _ _ _)) ?_
    refine Ops_loud rfl (LO.alloc rfl zr25 rfl (fun b1 hb1 => ?_))
    refine Ops_loud rfl (LO.storeAll (cs := tabI .u8 (l1.getD (x1).toNat pl0) 10) rfl sz25 rfl rfl (tabI_one _ _ _) (tabI_length _ _ _) (upd_same _ _ _) (tabI_length _ _ _) Chg.here rfl ?_)
    refine Ops_nil ?_
    refine thenA_n ?_
    refine wpA_seq ?_
    refine wpA_region ?_
    refine Ops_quiet _ rfl rfl (QO.loadRow (cs := tabI .u8 (l1.getD (x1).toNat pl0) 10) (hr := (rdAll (upd_same _ _ _))) rfl sz25 rfl rfl (tabI_length _ _ _)) ?_
    refine Ops_quiet _ rfl rfl (QO.move rfl rfl) ?_
    have hq := Option.bind_eq_some_iff.1 ho1; clear ho1; obtain ⟨r1, hr1, ho1⟩ := hq
    refine Ops_call _ _ rfl rfl (EO.fn rfl Try.func12 rfl rfl (Evs.cons rfl (Evs.cons rfl Evs.nil))) (QC.cc (c_impl_IsPermutation hr1 ) ?_)
    refine Ops_quiet _ rfl rfl (QO.not rfl rfl) ?_
    refine Ops_nil ?_
    refine thenA_n ?_
    refine wpA_cond rfl (fun g2 => ?_) (fun g2 => ?_)
    ·replace ho1 := cond_t ho1 g2
     refine wpA_seq ?_
     refine wpA_region ?_
     refine Ops_quiet _ rfl rfl (QO.assign rfl rfl) ?_
     refine Ops_nil ?_
     refine thenA_n ?_
     refine wpA_ret ?_
     refine blockA_r ?_
     refine thenA_r ?_
     refine thenA_r ?_
     obtain rfl := Option.some.inj ho1
     obtain rfl := Option.some.inj hk1
     exact ⟨rfl, (Sub.cons rfl Sub.nil), (Le.under (Le.refl _) hb1)⟩
    ·replace ho1 := cond_f ho1 g2
     refine wpA_skip ?_
     refine blockA_n ?_
     refine thenA_n ?_
     refine wpA_region ?_
     refine Ops_quiet _ rfl rfl (QO.bin rfl rfl rfl rfl) ?_
     refine Ops_quiet _ rfl rfl (QO.move rfl rfl) ?_
     refine Ops_nil ?_
     obtain rfl := Option.some.inj ho1
     dsimp only at hk1
     exact thenA_n ⟨k1, Nat.lt_succ_self _, _, hk1, (Sub.cons rfl (Sub.cons rfl (Sub.cons rfl (Sub.cons rfl Sub.nil)))), (Le.under (Le.refl _) hb1)⟩
   ·replace ho1 := cond_f ho1 g1
    refine wpA_exit ?_
    refine thenA_e ?_
    refine thenA_e ?_
    obtain rfl := Option.some.inj ho1
    obtain rfl := Option.some.inj hk1
    exact ⟨rfl, _, rfl, (Sub.cons rfl (Sub.cons rfl (Sub.cons rfl (Sub.cons rfl Sub.nil)))), (Le.refl _)⟩
 ·intro e s' h' hq
  cases R1 with
  | next x => exact hq.elim
  | ret r =>
   obtain ⟨rfl, hsub1, hle1⟩ := hq
   try dsimp only at hm
   refine blockA_r ?_
   refine thenA_r ?_
   obtain rfl := Option.some.inj hm
   refine retA_sub hsub1.ok hle1 ?_
   exact retA_r (h2 := h) (Res.one rfl (rfl)) (Le.refl _) ⟨rfl, rfl⟩
  | stop x id =>
   obtain ⟨rfl, x2, rfl, hsub2, hle2⟩ := hq
   try dsimp only at hm
   by_cases hid1 : id = 0
   ·subst hid1
    rw [if_pos rfl] at hm
    refine blockA_s ?_
    refine thenA_n ?_
    refine wpA_weaken hsub2.ok hle2 ?_
    refine wpA_seq ?_
    refine wpA_region ?_
    refine Ops_quiet _ rfl rfl (QO.move rfl rfl) ?_
    have hq := Option.bind_eq_some_iff.1 hm; clear hm; obtain ⟨r2, hr2, hm⟩ := hq
    refine Ops_call _ _ rfl rfl (EO.fn rfl Try.func36 rfl rfl (Evs.cons rfl (Evs.cons rfl (Evs.cons rfl Evs.nil)))) (QC.cc (c_impl_within hr2 ) ?_)
    refine Ops_quiet _ rfl rfl (QO.assign rfl rfl) ?_
    refine Ops_nil ?_
    refine thenA_n ?_
    refine wpA_ret ?_
    obtain rfl := Option.some.inj hm
    exact retA_r (h2 := h) (Res.one rfl (rfl)) (Le.refl _) ⟨rfl, rfl⟩
   rw [if_neg hid1] at hm
   exact absurd hm (by simp)

/-! loop.example/g01195/impl.then -/
theorem c_impl_then {a0 : (Nat → Int)} {a1 : (Nat → Int)} {a2 : Int} {h : Hp} {r : (Nat → Int)} (hm : m_impl_then a0 a1 a2 = some r)  :
    QC Try.prog 30 #[.agg (tabI .u8 a0 10).toArray, .agg (tabI .u8 a1 10).toArray, .int .i64 a2] h (.agg (tabI .u8 r 10).toArray) := by
 unfold m_impl_then at hm
 refine CC.enter Try.func30 rfl Try.ntmps30 rfl ?_
 refine wpA_seq ?_
 refine wpA_region ?_
 refine Ops_loud rfl (LO.boxAgg rfl rfl rfl (fun b1 hb1 => ?_))
 refine Ops_loud rfl (LO.boxAgg rfl rfl rfl (fun b2 hb2 => ?_))
 simp only [upd_noneA] at hb2
 obtain ⟨n_b2_b1, hb2⟩ := hb2
 refine Ops_loud rfl (LO.alloc rfl zr25 rfl (fun b3 hb3 => ?_))
 simp only [upd_noneA] at hb3
 obtain ⟨n_b3_b2, n_b3_b1, hb3⟩ := hb3
 refine Ops_nil ?_
 refine thenA_n ?_
 refine wpA_seq ?_
 refine wpA_region ?_
 refine Ops_quiet _ rfl rfl (QO.build0 rfl bd25) ?_
 refine Ops_loud rfl (LO.alloc rfl zr25 rfl (fun b4 hb4 => ?_))
 simp only [upd_noneA] at hb4
 obtain ⟨n_b4_b3, n_b4_b2, n_b4_b1, hb4⟩ := hb4
 refine Ops_loud rfl (LO.storeAll (cs := tabI .u8 pl0 10) rfl sz25 rfl rfl (tabI_one _ _ _) (tabI_length _ _ _) (upd_same _ _ _) (tabI_length _ _ _) Chg.here rfl ?_)
 refine Ops_nil ?_
 refine thenA_n ?_
 refine wpA_seq ?_
 refine wpA_seq ?_
 refine wpA_region ?_
 refine Ops_quiet _ rfl rfl (QO.move rfl rfl) ?_
 refine Ops_quiet _ rfl rfl (QO.move rfl rfl) ?_
 refine Ops_nil ?_
 refine thenA_n ?_
 refine wpA_block ?_
 obtain ⟨R1, hR, hm⟩ := Option.bind_eq_some_iff.1 hm
 obtain ⟨k1, hk1⟩ := loopV_some hR
 clear hR
 refine wpA_mono (Q := fun e s' h' => match (generalizing := false) R1 with | .stop x id => e = .exit id ∧ ∃ (x1 : Int) (x2 : (Nat → Int)), x = (x1, x2) ∧ Sub s' [(3, .pointer (some ⟨b1, 0, none⟩)), (4, .pointer (some ⟨b2, 0, none⟩)), (6, .pointer (some ⟨b3, 0, none⟩)), (7, .pointer (some ⟨b4, 0, none⟩)), (10, .int .i64 a2), (11, .int .i64 x1)] ∧ Le (upd (upd (upd (upd (h) b1 (.own 25 (tabI .u8 a0 10) 10)) b2 (.own 25 (tabI .u8 a1 10) 10)) b3 (.own 25 (tabI .u8 pl0 10) 10)) b4 (.own 25 (tabI .u8 x2 10) 10)) h' | .ret r => False | .next _ => False) ?_ ?_
 ·refine wpA_loop (fun k s' h' => ∃ (x1 : Int) (x2 : (Nat → Int)), loopW (m_impl_then_l0 a0 a1 a2) k (x1, x2) = some R1 ∧ Sub s' [(3, .pointer (some ⟨b1, 0, none⟩)), (4, .pointer (some ⟨b2, 0, none⟩)), (6, .pointer (some ⟨b3, 0, none⟩)), (7, .pointer (some ⟨b4, 0, none⟩)), (10, .int .i64 a2), (11, .int .i64 x1)] ∧ Le (upd (upd (upd (upd (h) b1 (.own 25 (tabI .u8 a0 10) 10)) b2 (.own 25 (tabI .u8 a1 10) 10)) b3 (.own 25 (tabI .u8 pl0 10) 10)) b4 (.own 25 (tabI .u8 x2 10) 10)) h') (m := k1) ⟨0, pl0, hk1, (Sub.cons rfl (Sub.cons rfl (Sub.cons rfl (Sub.cons rfl (Sub.cons rfl (Sub.cons rfl Sub.nil)))))), (Le.upd_left (Le.upd_left (Le.upd_left (Le.upd_left (Le.under (Le.under (Le.under (Le.under (Le.refl _) hb1) hb2) hb3) hb4) ((upd_ne _ _ n_b4_b1.ne.symm).trans ((upd_ne _ _ n_b3_b1.ne.symm).trans ((upd_ne _ _ n_b2_b1.ne.symm).trans (upd_same _ _ _)))) (by first | rfl | (simp; done))) ((upd_ne _ _ n_b4_b2.ne.symm).trans ((upd_ne _ _ n_b3_b2.ne.symm).trans (upd_same _ _ _))) (by first | rfl | (simp; done))) ((upd_ne _ _ n_b4_b3.ne.symm).trans (upd_same _ _ _)) (by first | rfl | (simp; done))) (upd_same _ _ _) (by first | rfl | (simp; done)))⟩ ?_
  rintro k1 s' h' ⟨x1, x2, hk1, hsub, hle⟩
  refine wpA_weaken hsub.ok hle ?_
  clear hsub hle s' h'
  cases k1 with
  | zero => exact absurd hk1 (by simp [loopW])
  | succ k1 =>
   obtain ⟨o1, ho1, hk1⟩ := loopW_succ hk1
   unfold m_impl_then_l0 at ho1
   try dsimp only at ho1
   refine wpA_seq ?_
   refine wpA_region ?_
   refine Ops_quiet _ rfl rfl (QO.bin rfl rfl rfl rfl) ?_
   refine Ops_nil ?_
   refine thenA_n ?_
   refine wpA_seq ?_
   refine wpA_cond rfl (fun g1 => ?_) (fun g1 => ?_)
   ·replace ho1 := cond_t ho1 g1
    refine wpA_skip ?_
    refine thenA_n ?_
    refine wpA_seq ?_
    refine wpA_block ?_
    refine wpA_seq ?_
    refine wpA_region ?_
    refine Ops_quiet _ rfl rfl (QO.move rfl rfl) ?_
    refine Ops_quiet _ rfl rfl (QO.assign rfl rfl) ?_
    refine Ops_nil ?_
    refine thenA_n ?_
    refine wpA_region ?_
    refine Ops_quiet _ rfl rfl (QO.move rfl rfl) ?_
    refine Ops_quiet _ rfl rfl (QO.move rfl rfl) ?_
    have hq := chk ho1; clear ho1; obtain ⟨ck1, ho1⟩ := hq
    refine Ops_quiet _ rfl rfl (QO.idxArr rfl sz25 sz5 rfl rfl (by omega) (by omega)) ?_
    refine Ops_quiet _ rfl rfl (QO.load rfl sz5 rfl rfl (by (refine (rd_own ((upd_ne _ _ n_b4_b1.ne.symm).trans ((upd_ne _ _ n_b3_b1.ne.symm).trans ((upd_ne _ _ n_b2_b1.ne.symm).trans (upd_same _ _ _)))) _).trans ?_); exact tabI_get01 (by omega))) ?_
    have hq := chk ho1; clear ho1; obtain ⟨ck2, ho1⟩ := hq
    refine Ops_quiet _ rfl rfl (QO.idxArr rfl sz25 sz5 rfl rfl (by omega) (by omega)) ?_
    refine Ops_quiet _ rfl rfl (QO.load rfl sz5 rfl rfl (by (refine (rd_own ((upd_ne _ _ n_b4_b2.ne.symm).trans ((upd_ne _ _ n_b3_b2.ne.symm).trans (upd_same _ _ _))) _).trans ?_); exact tabI_get01 (by omega))) ?_
    have hq := chk ho1; clear ho1; obtain ⟨ck3, ho1⟩ := hq
    refine Ops_quiet _ rfl rfl (QO.idxArr rfl sz25 sz5 rfl rfl (by omega) (by omega)) ?_
    refine Ops_loud rfl (LO.store' (xs' := tabI .u8 (fset x2 (x1).toNat (a1 ((a0 (x1).toNat)).toNat)) 10) rfl sz5 rfl rfl rfl (upd_same _ _ _) (by first | ((try simp only [sqC_length, tbC_length, tabI_length, tabB_length, ints_length, plsC_length, trC_length, sqsC_length, strsC_length, boolsC_length, tbB_length, List.length_append, List.length_cons, List.length_nil, List.length_set, List.length_replicate, rep_length]); first | omega | decide) | exact Nat.le_of_ble_eq_true rfl) tabI_set01 Chg.here rfl ?_)
    refine Ops_nil ?_
    refine blockA_n ?_
    refine thenA_n ?_
    refine wpA_region ?_
    refine Ops_quiet _ rfl rfl (QO.bin rfl rfl rfl rfl) ?_
    refine Ops_quiet _ rfl rfl (QO.move rfl rfl) ?_
    refine Ops_nil ?_
    obtain rfl := Option.some.inj ho1
    dsimp only at hk1
    exact thenA_n ⟨k1, Nat.lt_succ_self _, _, _, hk1, (Sub.cons rfl (Sub.cons rfl (Sub.cons rfl (Sub.cons rfl (Sub.cons rfl (Sub.cons rfl Sub.nil)))))), (Le.upd_left (Le.upd_left (Le.upd_left (Le.upd_left (Le.under (Le.under (Le.under (Le.under (Le.refl _) hb1) hb2) hb3) hb4) ((upd_ne _ _ n_b4_b1.ne.symm).trans ((upd_ne _ _ n_b3_b1.ne.symm).trans ((upd_ne _ _ n_b2_b1.ne.symm).trans (upd_same _ _ _)))) (by first | rfl | (simp; done))) ((upd_ne _ _ n_b4_b2.ne.symm).trans ((upd_ne _ _ n_b3_b2.ne.symm).trans (upd_same _ _ _))) (by first | rfl | (simp; done))) ((upd_ne _ _ n_b4_b3.ne.symm).trans (upd_same _ _ _)) (by first | rfl | (simp; done))) (upd_same _ _ _) (by first | rfl | (simp; done)))⟩
   ·replace ho1 := cond_f ho1 g1
    refine wpA_exit ?_
    refine thenA_e ?_
    refine thenA_e ?_
    obtain rfl := Option.some.inj ho1
    obtain rfl := Option.some.inj hk1
    exact ⟨rfl, _, _, rfl, (Sub.cons rfl (Sub.cons rfl (Sub.cons rfl (Sub.cons rfl (Sub.cons rfl (Sub.cons rfl Sub.nil)))))), (Le.upd_left (Le.upd_left (Le.upd_left (Le.upd_left (Le.under (Le.under (Le.under (Le.under (Le.refl _) hb1) hb2) hb3) hb4) ((upd_ne _ _ n_b4_b1.ne.symm).trans ((upd_ne _ _ n_b3_b1.ne.symm).trans ((upd_ne _ _ n_b2_b1.ne.symm).trans (upd_same _ _ _)))) (by first | rfl | (simp; done))) ((upd_ne _ _ n_b4_b2.ne.symm).trans ((upd_ne _ _ n_b3_b2.ne.symm).trans (upd_same _ _ _))) (by first | rfl | (simp; done))) ((upd_ne _ _ n_b4_b3.ne.symm).trans (upd_same _ _ _)) (by first | rfl | (simp; done))) (upd_same _ _ _) (by first | rfl | (simp; done)))⟩
 ·intro e s' h' hq
  cases R1 with
  | next x => exact hq.elim
  | ret r => exact hq.elim
  | stop x id =>
   obtain ⟨rfl, x3, x4, rfl, hsub1, hle1⟩ := hq
   try dsimp only at hm
   by_cases hid1 : id = 0
   ·subst hid1
    rw [if_pos rfl] at hm
    refine blockA_s ?_
    refine thenA_n ?_
    refine wpA_weaken hsub1.ok hle1 ?_
    refine wpA_seq ?_
    refine wpA_region ?_
    refine Ops_quiet _ rfl rfl (QO.loadRow (cs := tabI .u8 x4 10) (hr := (rdAll (upd_same _ _ _))) rfl sz25 rfl rfl (tabI_length _ _ _)) ?_
    refine Ops_loud rfl (LO.storeAll (cs := tabI .u8 x4 10) rfl sz25 rfl rfl (tabI_one _ _ _) (tabI_length _ _ _) ((upd_ne _ _ n_b4_b3.ne.symm).trans (upd_same _ _ _)) (tabI_length _ _ _) (Chg.there n_b4_b3.ne Chg.here) rfl ?_)
    refine Ops_nil ?_
    refine thenA_n ?_
    refine wpA_ret ?_
    obtain rfl := Option.some.inj hm
    exact retA_r (h2 := h) (Res.one rfl (res1.row (cs := tabI .u8 x4 10) (hr := (rdAll ((upd_ne _ _ n_b4_b3.ne.symm).trans (upd_same _ _ _)))) sz25 rfl rfl (tabI_length _ _ _))) (Le.under (Le.under (Le.under (Le.under (Le.refl _) hb1) hb2) hb3) hb4) ⟨rfl, rfl⟩
   rw [if_neg hid1] at hm
   exact absurd hm (by simp)

/-! loop.example/g01195/impl.ThenPlaces -/
theorem c_impl_ThenPlaces {a0 : (Nat → Int)} {a1 : (Nat → Int)} {a2 : Int} {h : Hp} {r : (Nat → Int) × Int} (hm : m_impl_ThenPlaces a0 a1 a2 = some r)  :
    QC Try.prog 6 #[.agg (tabI .u8 a0 10).toArray, .agg (tabI .u8 a1 10).toArray, .int .i64 a2] h (.tuple #[.agg (tabI .u8 r.1 10).toArray, .int .i64 r.2]) := by
 unfold m_impl_ThenPlaces at hm
 refine CC.enter Try.func6 rfl Try.ntmps6 rfl ?_
 refine wpA_seq ?_
 refine wpA_region ?_
 refine Ops_loud rfl (LO.boxAgg rfl rfl rfl (fun b1 hb1 => ?_))
 refine Ops_loud rfl (LO.boxAgg rfl rfl rfl (fun b2 hb2 => ?_))
 simp only [upd_noneA] at hb2
 obtain ⟨n_b2_b1, hb2⟩ := hb2
 refine Ops_loud rfl (LO.alloc rfl zr25 rfl (fun b3 hb3 => ?_))
 simp only [upd_noneA] at hb3
 obtain ⟨n_b3_b2, n_b3_b1, hb3⟩ := hb3
 refine Ops_quiet _ rfl rfl (QO.assign rfl rfl) ?_
 refine Ops_nil ?_
 refine thenA_n ?_
 refine wpA_seq ?_
 refine wpA_seq ?_
 refine wpA_region ?_
 refine Ops_quiet _ rfl rfl (QO.move rfl rfl) ?_
 refine Ops_quiet _ rfl rfl (QO.loadRow (cs := tabI .u8 a0 10) (hr := (rdAll ((upd_ne _ _ n_b3_b1.ne.symm).trans ((upd_ne _ _ n_b2_b1.ne.symm).trans (upd_same _ _ _))))) rfl sz25 rfl rfl (tabI_length _ _ _)) ?_
 refine Ops_quiet _ rfl rfl (QO.loadRow (cs := tabI .u8 a1 10) (hr := (rdAll ((upd_ne _ _ n_b3_b2.ne.symm).trans (upd_same _ _ _)))) rfl sz25 rfl rfl (tabI_length _ _ _)) ?_
 refine Ops_loud rfl (LO.rows [tabI .u8 a0 10, tabI .u8 a1 10] (r := plsC [a0, a1]) rfl sz68 sz25 zr25 (by first | rfl | (simp [sqC_length, tbC_length, tabI_length, tabB_length, ints_length, plsC_length, trC_length, sqsC_length, strsC_length, boolsC_length, tbB_length, List.length_append, List.length_cons, List.length_nil, List.length_set, List.length_replicate, rep_length]; done)) (by decide) (by decide) (by decide) rfl rfl (by simp [sqC_length, tbC_length, tabI_length, tabB_length, ints_length, plsC_length, trC_length, sqsC_length, strsC_length, boolsC_length, tbB_length, List.length_append, List.length_cons, List.length_nil, List.length_set, List.length_replicate, rep_length]) (by first | rfl | simp [plsC, sqsC]) (by simp [sqC_length, tbC_length, tabI_length, tabB_length, ints_length, plsC_length, trC_length, sqsC_length, strsC_length, boolsC_length, tbB_length, List.length_append, List.length_cons, List.length_nil, List.length_set, List.length_replicate, rep_length]) rfl (fun b4 hb4 => ?_))
 simp only [upd_noneA] at hb4
 obtain ⟨n_b4_b3, n_b4_b2, n_b4_b1, hb4⟩ := hb4
 have hq := Option.bind_eq_some_iff.1 hm; clear hm; obtain ⟨r1, hr1, hm⟩ := hq
 refine Ops_call _ _ rfl rfl (EO.fn rfl Try.func29 rfl rfl (Evs.cons rfl (Evs.cons rfl Evs.nil))) (QC.cc (c_impl_arePermutations (l1 := [a0, a1]) (A1 := some ⟨b4, 0, none⟩) (c1 := 2) hr1 (RdS.own (upd_same _ _ _))) ?_)
 refine Ops_quiet _ rfl rfl (QO.not rfl rfl) ?_
 refine Ops_nil ?_
 refine thenA_n ?_
 refine wpA_cond rfl (fun g1 => ?_) (fun g1 => ?_)
 ·replace hm := cond_t hm g1
  refine wpA_seq ?_
  refine wpA_region ?_
  refine Ops_quiet _ rfl rfl (QO.build0 rfl bd25) ?_
  refine Ops_loud rfl (LO.storeAll (cs := tabI .u8 pl0 10) rfl sz25 rfl rfl (tabI_one _ _ _) (tabI_length _ _ _) ((upd_ne _ _ n_b4_b3.ne.symm).trans (upd_same _ _ _)) (tabI_length _ _ _) (Chg.there n_b4_b3.ne Chg.here) rfl ?_)
  refine Ops_quiet _ rfl rfl (QO.assign rfl rfl) ?_
  refine Ops_nil ?_
  refine thenA_n ?_
  refine wpA_ret ?_
  refine thenA_r ?_
  obtain rfl := Option.some.inj hm
  exact retA_r (h2 := h) (Res.two rfl (res1.row (cs := tabI .u8 pl0 10) (hr := (rdAll ((upd_ne _ _ n_b4_b3.ne.symm).trans (upd_same _ _ _)))) sz25 rfl rfl (tabI_length _ _ _)) (rfl)) (Le.under (Le.under (Le.under (Le.under (Le.refl _) hb1) hb2) hb3) hb4) ⟨rfl, rfl⟩
 ·replace hm := cond_f hm g1
  refine wpA_skip ?_
  refine thenA_n ?_
  refine wpA_seq ?_
  refine wpA_region ?_
  refine Ops_quiet _ rfl rfl (QO.loadRow (cs := tabI .u8 a0 10) (hr := (rdAll ((upd_ne _ _ n_b4_b1.ne.symm).trans ((upd_ne _ _ n_b3_b1.ne.symm).trans ((upd_ne _ _ n_b2_b1.ne.symm).trans (upd_same _ _ _)))))) rfl sz25 rfl rfl (tabI_length _ _ _)) ?_
  refine Ops_quiet _ rfl rfl (QO.loadRow (cs := tabI .u8 a1 10) (hr := (rdAll ((upd_ne _ _ n_b4_b2.ne.symm).trans ((upd_ne _ _ n_b3_b2.ne.symm).trans (upd_same _ _ _))))) rfl sz25 rfl rfl (tabI_length _ _ _)) ?_
  refine Ops_quiet _ rfl rfl (QO.move rfl rfl) ?_
  have hq := Option.bind_eq_some_iff.1 hm; clear hm; obtain ⟨r2, hr2, hm⟩ := hq
  refine Ops_call _ _ rfl rfl (EO.fn rfl Try.func30 rfl rfl (Evs.cons rfl (Evs.cons rfl (Evs.cons rfl Evs.nil)))) (QC.cc (c_impl_then hr2 ) ?_)
  refine Ops_loud rfl (LO.storeAll (cs := tabI .u8 r2 10) rfl sz25 rfl rfl (tabI_one _ _ _) (tabI_length _ _ _) ((upd_ne _ _ n_b4_b3.ne.symm).trans (upd_same _ _ _)) (tabI_length _ _ _) (Chg.there n_b4_b3.ne Chg.here) rfl ?_)
  refine Ops_quiet _ rfl rfl (QO.assign rfl rfl) ?_
  refine Ops_nil ?_
  refine thenA_n ?_
  refine wpA_ret ?_
  obtain rfl := Option.some.inj hm
  exact retA_r (h2 := h) (Res.two rfl (res1.row (cs := tabI .u8 r2 10) (hr := (rdAll ((upd_ne _ _ n_b4_b3.ne.symm).trans (upd_same _ _ _)))) sz25 rfl rfl (tabI_length _ _ _)) (rfl)) (Le.under (Le.under (Le.under (Le.under (Le.refl _) hb1) hb2) hb3) hb4) ⟨rfl, rfl⟩

/-! loop.example/g01195/spec.l01In -/
theorem c_spec_l01In {a0 : Int} {a1 : Int} {a2 : Int} {h : Hp} {r : Bool} (hm : m_spec_l01In a0 a1 a2 = some r)  :
    QC Try.prog 48 #[.int .i64 a0, .int .i64 a1, .int .i64 a2] h (.bool r) := by
 unfold m_spec_l01In at hm
 refine CC.enter Try.func48 rfl Try.ntmps48 rfl ?_
 refine wpA_seq ?_
 refine wpA_region ?_
 refine Ops_quiet _ rfl rfl (QO.assign rfl rfl) ?_
 refine Ops_nil ?_
 refine thenA_n ?_
 refine wpA_seq ?_
 refine wpA_region ?_
 refine Ops_quiet _ rfl rfl (QO.move rfl rfl) ?_
 refine Ops_quiet _ rfl rfl (QO.move rfl rfl) ?_
 refine Ops_quiet _ rfl rfl (QO.bin rfl rfl rfl rfl) ?_
 refine Ops_quiet _ rfl rfl (QO.move rfl rfl) ?_
 refine Ops_case 10 rfl (fun g1 => ?_) (fun g1 => ?_)
 ·replace hm := cond_t hm g1
  refine Ops_quiet _ rfl rfl (QO.move rfl rfl) ?_
  refine Ops_quiet _ rfl rfl (QO.move rfl rfl) ?_
  refine Ops_quiet _ rfl rfl (QO.bin rfl rfl rfl rfl) ?_
  refine Ops_quiet _ rfl rfl (QO.pick_t rfl rfl rfl) ?_
  refine Ops_quiet _ rfl rfl (QO.assign rfl rfl) ?_
  refine Ops_nil ?_
  refine thenA_n ?_
  refine wpA_ret ?_
  obtain rfl := Option.some.inj hm
  exact retA_r (h2 := h) (Res.one rfl (rfl)) (Le.refl _) ⟨rfl, rfl⟩
 ·replace hm := cond_f hm g1
  refine Ops_skip rfl rfl ?_
  refine Ops_skip rfl rfl ?_
  refine Ops_skip rfl rfl ?_
  refine Ops_quiet _ rfl rfl (QO.pick_f rfl rfl rfl) ?_
  refine Ops_quiet _ rfl rfl (QO.assign rfl rfl) ?_
  refine Ops_nil ?_
  refine thenA_n ?_
  refine wpA_ret ?_
  obtain rfl := Option.some.inj hm
  exact retA_r (h2 := h) (Res.one rfl (rfl)) (Le.refl _) ⟨rfl, rfl⟩

/-! loop.example/g01195/spec.l01Perm -/
theorem c_spec_l01Perm {a0 : (Nat → Int)} {a1 : Int} {h : Hp} {r : Bool} (hm : m_spec_l01Perm a0 a1 = some r)  :
    QC Try.prog 31 #[.agg (tabI .u8 a0 10).toArray, .int .i64 a1] h (.bool r) := by
 unfold m_spec_l01Perm at hm
 refine CC.enter Try.func31 rfl Try.ntmps31 rfl ?_
 refine wpA_seq ?_
 refine wpA_region ?_
 refine Ops_loud rfl (LO.boxAgg rfl rfl rfl (fun b1 hb1 => ?_))
 refine Ops_quiet _ rfl rfl (QO.assign rfl rfl) ?_
 refine Ops_nil ?_
 refine thenA_n ?_
 refine wpA_seq ?_
 refine wpA_seq ?_
 refine wpA_region ?_
 refine Ops_quiet _ rfl rfl (QO.move rfl rfl) ?_
 have hq := Option.bind_eq_some_iff.1 hm; clear hm; obtain ⟨r1, hr1, hm⟩ := hq
 refine Ops_call _ _ rfl rfl (EO.fn rfl Try.func48 rfl rfl (Evs.cons rfl (Evs.cons rfl (Evs.cons rfl Evs.nil)))) (QC.cc (c_spec_l01In hr1 ) ?_)
 refine Ops_quiet _ rfl rfl (QO.not rfl rfl) ?_
 refine Ops_nil ?_
 refine thenA_n ?_
 refine wpA_cond rfl (fun g1 => ?_) (fun g1 => ?_)
 ·replace hm := cond_t hm g1
  refine wpA_seq ?_
  refine wpA_region ?_
  refine Ops_quiet _ rfl rfl (QO.assign rfl rfl) ?_
  refine Ops_nil ?_
  refine thenA_n ?_
  refine wpA_ret ?_
  refine thenA_r ?_
  obtain rfl := Option.some.inj hm
  exact retA_r (h2 := h) (Res.one rfl (rfl)) (Le.under (Le.refl _) hb1) ⟨rfl, rfl⟩
 ·replace hm := cond_f hm g1
  refine wpA_skip ?_
  refine thenA_n ?_
  refine wpA_seq ?_
  refine wpA_region ?_
  refine Ops_quiet _ rfl rfl (QO.build0 rfl bd69) ?_
  refine Ops_loud rfl (LO.alloc rfl zr69 rfl (fun b2 hb2 => ?_))
  simp only [upd_noneA] at hb2
  obtain ⟨n_b2_b1, hb2⟩ := hb2
  refine Ops_loud rfl (LO.storeAll (cs := tabB bl0 10) rfl sz69 rfl rfl (tabB_one _ _) (tabB_length _ _) (upd_same _ _ _) (tabB_length _ _) Chg.here rfl ?_)
  refine Ops_nil ?_
  refine thenA_n ?_
  refine wpA_seq ?_
  refine wpA_seq ?_
  refine wpA_region ?_
  refine Ops_quiet _ rfl rfl (QO.assign rfl rfl) ?_
  refine Ops_nil ?_
  refine thenA_n ?_
  refine wpA_block ?_
  obtain ⟨R1, hR, hm⟩ := Option.bind_eq_some_iff.1 hm
  obtain ⟨k1, hk1⟩ := loopV_some hR
  clear hR
  refine wpA_mono (Q := fun e s' h' => match (generalizing := false) R1 with | .stop x id => e = .exit id ∧ ∃ (x1 : Int) (x2 : (Nat → Bool)), x = (x1, x2) ∧ Sub s' [(1, .int .i64 a1), (2, .pointer (some ⟨b1, 0, none⟩)), (5, .pointer (some ⟨b2, 0, none⟩)), (6, .int .i64 x1)] ∧ Le (upd (upd (h) b1 (.own 25 (tabI .u8 a0 10) 10)) b2 (.own 69 (tabB x2 10) 10)) h' | .ret r => e = .ret ∧ Sub s' [(4, .bool r)] ∧ Le (h) h' | .next _ => False) ?_ ?_
  ·refine wpA_loop (fun k s' h' => ∃ (x1 : Int) (x2 : (Nat → Bool)), loopW (m_spec_l01Perm_l0 a0 a1) k (x1, x2) = some R1 ∧ Sub s' [(1, .int .i64 a1), (2, .pointer (some ⟨b1, 0, none⟩)), (5, .pointer (some ⟨b2, 0, none⟩)), (6, .int .i64 x1)] ∧ Le (upd (upd (h) b1 (.own 25 (tabI .u8 a0 10) 10)) b2 (.own 69 (tabB x2 10) 10)) h') (m := k1) ⟨0, bl0, hk1, (Sub.cons rfl (Sub.cons rfl (Sub.cons rfl (Sub.cons rfl Sub.nil)))), (Le.upd_left (Le.upd_left (Le.under (Le.under (Le.refl _) hb1) hb2) ((upd_ne _ _ n_b2_b1.ne.symm).trans (upd_same _ _ _)) (by first | rfl | (simp; done))) (upd_same _ _ _) (by first | rfl | (simp; done)))⟩ ?_
   rintro k1 s' h' ⟨x1, x2, hk1, hsub, hle⟩
   refine wpA_weaken hsub.ok hle ?_
   clear hsub hle s' h'
   cases k1 with
   | zero => exact absurd hk1 (by simp [loopW])
   | succ k1 =>
    obtain ⟨o1, ho1, hk1⟩ := loopW_succ hk1
    unfold m_spec_l01Perm_l0 at ho1
    try dsimp only at ho1
    refine wpA_seq ?_
    refine wpA_seq ?_
    refine wpA_region ?_
    refine Ops_quiet _ rfl rfl (QO.move rfl rfl) ?_
    refine Ops_quiet _ rfl rfl (QO.bin rfl rfl rfl rfl) ?_
    refine Ops_nil ?_
    refine thenA_n ?_
    refine wpA_cond rfl (fun g2 => ?_) (fun g2 => ?_)
    ·replace ho1 := cond_t ho1 g2
     refine wpA_skip ?_
     refine thenA_n ?_
     refine wpA_seq ?_
     refine wpA_block ?_
     refine wpA_block ?_
     refine wpA_seq ?_
     refine wpA_region ?_
     refine Ops_quiet _ rfl rfl (QO.move rfl rfl) ?_
     refine Ops_quiet _ rfl rfl (QO.move rfl rfl) ?_
     refine Ops_quiet _ rfl rfl (QO.bin rfl rfl rfl rfl) ?_
     refine Ops_quiet _ rfl rfl (QO.assign rfl rfl) ?_
     refine Ops_nil ?_
     refine thenA_n ?_
     refine wpA_cond rfl (fun g3 => ?_) (fun g3 => ?_)
     ·replace ho1 := cond_t ho1 g3
      refine wpA_seq ?_
      refine wpA_region ?_
      refine Ops_quiet _ rfl rfl (QO.move rfl rfl) ?_
      have hq := chk ho1; clear ho1; obtain ⟨ck1, ho1⟩ := hq
      refine Ops_quiet _ rfl rfl (QO.idxArr rfl sz25 sz5 rfl rfl (by omega) (by omega)) ?_
      refine Ops_quiet _ rfl rfl (QO.load rfl sz5 rfl rfl (by (refine (rd_own ((upd_ne _ _ n_b2_b1.ne.symm).trans (upd_same _ _ _)) _).trans ?_); exact tabI_get01 (by omega))) ?_
      refine Ops_quiet _ rfl rfl (QO.bin rfl rfl rfl rfl) ?_
      refine Ops_nil ?_
      refine thenA_n ?_
      refine wpA_cond rfl (fun g4 => ?_) (fun g4 => ?_)
      ·replace ho1 := cond_t ho1 g4
       refine wpA_seq ?_
       refine wpA_region ?_
       refine Ops_quiet _ rfl rfl (QO.assign rfl rfl) ?_
       refine Ops_nil ?_
       refine thenA_n ?_
       refine wpA_ret ?_
       refine blockA_r ?_
       refine blockA_r ?_
       refine thenA_r ?_
       refine thenA_r ?_
       obtain rfl := Option.some.inj ho1
       obtain rfl := Option.some.inj hk1
       exact ⟨rfl, (Sub.cons rfl Sub.nil), (Le.under (Le.under (Le.refl _) hb1) hb2)⟩
      ·replace ho1 := cond_f ho1 g4
       refine wpA_skip ?_
       refine blockA_n ?_
       refine blockA_n ?_
       refine thenA_n ?_
       refine wpA_region ?_
       refine Ops_quiet _ rfl rfl (QO.move rfl rfl) ?_
       refine Ops_quiet _ rfl rfl (QO.bin rfl rfl rfl rfl) ?_
       refine Ops_quiet _ rfl rfl (QO.assign rfl rfl) ?_
       refine Ops_nil ?_
       obtain rfl := Option.some.inj ho1
       dsimp only at hk1
       exact thenA_n ⟨k1, Nat.lt_succ_self _, _, _, hk1, (Sub.cons rfl (Sub.cons rfl (Sub.cons rfl (Sub.cons rfl Sub.nil)))), (Le.upd_left (Le.upd_left (Le.under (Le.under (Le.refl _) hb1) hb2) ((upd_ne _ _ n_b2_b1.ne.symm).trans (upd_same _ _ _)) (by first | rfl | (simp; done))) (upd_same _ _ _) (by first | rfl | (simp; done)))⟩
     ·replace ho1 := cond_f ho1 g3
      refine wpA_seq ?_
      refine wpA_region ?_
      refine Ops_quiet _ rfl rfl (QO.move rfl rfl) ?_
      have hq := chk ho1; clear ho1; obtain ⟨ck2, ho1⟩ := hq
      refine Ops_quiet _ rfl rfl (QO.idxArr rfl sz25 sz5 rfl rfl (by omega) (by omega)) ?_
      refine Ops_quiet _ rfl rfl (QO.load rfl sz5 rfl rfl (by (refine (rd_own ((upd_ne _ _ n_b2_b1.ne.symm).trans (upd_same _ _ _)) _).trans ?_); exact tabI_get01 (by omega))) ?_
      refine Ops_quiet _ rfl rfl (QO.conv rfl sz5 sz2 rfl) ?_
      refine Ops_quiet _ rfl rfl (QO.move rfl rfl) ?_
      refine Ops_quiet _ rfl rfl (QO.bin rfl rfl rfl rfl) ?_
      refine Ops_quiet _ rfl rfl (QO.move rfl rfl) ?_
      refine Ops_case 34 rfl (fun g5 => ?_) (fun g5 => ?_)
      ·replace ho1 := cond_t ho1 g5
       refine Ops_skip rfl rfl ?_
       refine Ops_skip rfl rfl ?_
       refine Ops_skip rfl rfl ?_
       refine Ops_skip rfl rfl ?_
       refine Ops_skip rfl rfl ?_
       refine Ops_quiet _ rfl rfl (QO.pick_t rfl rfl rfl) ?_
       refine Ops_quiet _ rfl rfl (QO.assign rfl rfl) ?_
       refine Ops_nil ?_
       refine thenA_n ?_
       refine wpA_cond_t rfl ?_
       refine wpA_seq ?_
       refine wpA_region ?_
       refine Ops_quiet _ rfl rfl (QO.assign rfl rfl) ?_
       refine Ops_nil ?_
       refine thenA_n ?_
       refine wpA_ret ?_
       refine blockA_r ?_
       refine blockA_r ?_
       refine thenA_r ?_
       refine thenA_r ?_
       obtain rfl := Option.some.inj ho1
       obtain rfl := Option.some.inj hk1
       exact ⟨rfl, (Sub.cons rfl Sub.nil), (Le.under (Le.under (Le.refl _) hb1) hb2)⟩
      ·replace ho1 := cond_f ho1 g5
       refine Ops_quiet _ rfl rfl (QO.move rfl rfl) ?_
       have hq := chk ho1; clear ho1; obtain ⟨ck3, ho1⟩ := hq
       refine Ops_quiet _ rfl rfl (QO.idxArr rfl sz25 sz5 rfl rfl (by omega) (by omega)) ?_
       refine Ops_quiet _ rfl rfl (QO.load rfl sz5 rfl rfl (by (refine (rd_own ((upd_ne _ _ n_b2_b1.ne.symm).trans (upd_same _ _ _)) _).trans ?_); exact tabI_get01 (by omega))) ?_
       have hq := chk ho1; clear ho1; obtain ⟨ck4, ho1⟩ := hq
       refine Ops_quiet _ rfl rfl (QO.idxArr rfl sz69 sz4 rfl rfl (by omega) (by omega)) ?_
       refine Ops_quiet _ rfl rfl (QO.load rfl sz4 rfl rfl (by (refine (rd_own (upd_same _ _ _) _).trans ?_); exact tabB_get01 (by omega))) ?_
       refine Ops_quiet _ rfl rfl (QO.pick_f rfl rfl rfl) ?_
       refine Ops_quiet _ rfl rfl (QO.assign rfl rfl) ?_
       refine Ops_nil ?_
       refine thenA_n ?_
       refine wpA_cond rfl (fun g6 => ?_) (fun g6 => ?_)
       ·replace ho1 := cond_t ho1 g6
        refine wpA_seq ?_
        refine wpA_region ?_
        refine Ops_quiet _ rfl rfl (QO.assign rfl rfl) ?_
        refine Ops_nil ?_
        refine thenA_n ?_
        refine wpA_ret ?_
        refine blockA_r ?_
        refine blockA_r ?_
        refine thenA_r ?_
        refine thenA_r ?_
        obtain rfl := Option.some.inj ho1
        obtain rfl := Option.some.inj hk1
        exact ⟨rfl, (Sub.cons rfl Sub.nil), (Le.under (Le.under (Le.refl _) hb1) hb2)⟩
       ·replace ho1 := cond_f ho1 g6
        refine wpA_region ?_
        refine Ops_quiet _ rfl rfl (QO.move rfl rfl) ?_
        have hq := chk ho1; clear ho1; obtain ⟨ck5, ho1⟩ := hq
        refine Ops_quiet _ rfl rfl (QO.idxArr rfl sz25 sz5 rfl rfl (by omega) (by omega)) ?_
        refine Ops_quiet _ rfl rfl (QO.load rfl sz5 rfl rfl (by (refine (rd_own ((upd_ne _ _ n_b2_b1.ne.symm).trans (upd_same _ _ _)) _).trans ?_); exact tabI_get01 (by omega))) ?_
        have hq := chk ho1; clear ho1; obtain ⟨ck6, ho1⟩ := hq
        refine Ops_quiet _ rfl rfl (QO.idxArr rfl sz69 sz4 rfl rfl (by omega) (by omega)) ?_
        refine Ops_loud rfl (LO.store' (xs' := tabB (fset x2 ((a0 (x1).toNat)).toNat true) 10) rfl sz4 rfl rfl rfl (upd_same _ _ _) (by first | ((try simp only [sqC_length, tbC_length, tabI_length, tabB_length, ints_length, plsC_length, trC_length, sqsC_length, strsC_length, boolsC_length, tbB_length, List.length_append, List.length_cons, List.length_nil, List.length_set, List.length_replicate, rep_length]); first | omega | decide) | exact Nat.le_of_ble_eq_true rfl) tabB_set01 Chg.here rfl ?_)
        refine Ops_nil ?_
        refine blockA_n ?_
        refine blockA_n ?_
        refine thenA_n ?_
        refine wpA_region ?_
        refine Ops_quiet _ rfl rfl (QO.move rfl rfl) ?_
        refine Ops_quiet _ rfl rfl (QO.bin rfl rfl rfl rfl) ?_
        refine Ops_quiet _ rfl rfl (QO.assign rfl rfl) ?_
        refine Ops_nil ?_
        obtain rfl := Option.some.inj ho1
        dsimp only at hk1
        exact thenA_n ⟨k1, Nat.lt_succ_self _, _, _, hk1, (Sub.cons rfl (Sub.cons rfl (Sub.cons rfl (Sub.cons rfl Sub.nil)))), (Le.upd_left (Le.upd_left (Le.under (Le.under (Le.refl _) hb1) hb2) ((upd_ne _ _ n_b2_b1.ne.symm).trans (upd_same _ _ _)) (by first | rfl | (simp; done))) (upd_same _ _ _) (by first | rfl | (simp; done)))⟩
    ·replace ho1 := cond_f ho1 g2
     refine wpA_exit ?_
     refine thenA_e ?_
     refine thenA_e ?_
     obtain rfl := Option.some.inj ho1
     obtain rfl := Option.some.inj hk1
     exact ⟨rfl, _, _, rfl, (Sub.cons rfl (Sub.cons rfl (Sub.cons rfl (Sub.cons rfl Sub.nil)))), (Le.upd_left (Le.upd_left (Le.under (Le.under (Le.refl _) hb1) hb2) ((upd_ne _ _ n_b2_b1.ne.symm).trans (upd_same _ _ _)) (by first | rfl | (simp; done))) (upd_same _ _ _) (by first | rfl | (simp; done)))⟩
  ·intro e s' h' hq
   cases R1 with
   | next x => exact hq.elim
   | ret r =>
    obtain ⟨rfl, hsub1, hle1⟩ := hq
    try dsimp only at hm
    refine blockA_r ?_
    refine thenA_r ?_
    obtain rfl := Option.some.inj hm
    refine retA_sub hsub1.ok hle1 ?_
    exact retA_r (h2 := h) (Res.one rfl (rfl)) (Le.refl _) ⟨rfl, rfl⟩
   | stop x id =>
    obtain ⟨rfl, x3, x4, rfl, hsub2, hle2⟩ := hq
    try dsimp only at hm
    by_cases hid1 : id = 0
    ·subst hid1
     rw [if_pos rfl] at hm
     refine blockA_s ?_
     refine thenA_n ?_
     refine wpA_weaken hsub2.ok hle2 ?_
     refine wpA_seq ?_
     refine wpA_region ?_
     refine Ops_quiet _ rfl rfl (QO.assign rfl rfl) ?_
     refine Ops_nil ?_
     refine thenA_n ?_
     refine wpA_ret ?_
     obtain rfl := Option.some.inj hm
     exact retA_r (h2 := h) (Res.one rfl (rfl)) (Le.under (Le.under (Le.refl _) hb1) hb2) ⟨rfl, rfl⟩
    rw [if_neg hid1] at hm
    exact absurd hm (by simp)

/-! loop.example/g01195/spec.l01Then -/
theorem c_spec_l01Then {a0 : (Nat → Int)} {a1 : (Nat → Int)} {a2 : Int} {h : Hp} {r : (Nat → Int)} (hm : m_spec_l01Then a0 a1 a2 = some r)  :
    QC Try.prog 32 #[.agg (tabI .u8 a0 10).toArray, .agg (tabI .u8 a1 10).toArray, .int .i64 a2] h (.agg (tabI .u8 r 10).toArray) := by
 unfold m_spec_l01Then at hm
 refine CC.enter Try.func32 rfl Try.ntmps32 rfl ?_
 refine wpA_seq ?_
 refine wpA_region ?_
 refine Ops_loud rfl (LO.boxAgg rfl rfl rfl (fun b1 hb1 => ?_))
 refine Ops_loud rfl (LO.boxAgg rfl rfl rfl (fun b2 hb2 => ?_))
 simp only [upd_noneA] at hb2
 obtain ⟨n_b2_b1, hb2⟩ := hb2
 refine Ops_loud rfl (LO.alloc rfl zr25 rfl (fun b3 hb3 => ?_))
 simp only [upd_noneA] at hb3
 obtain ⟨n_b3_b2, n_b3_b1, hb3⟩ := hb3
 refine Ops_nil ?_
 refine thenA_n ?_
 refine wpA_seq ?_
 refine wpA_region ?_
 refine Ops_quiet _ rfl rfl (QO.build0 rfl bd25) ?_
 refine Ops_loud rfl (LO.alloc rfl zr25 rfl (fun b4 hb4 => ?_))
 simp only [upd_noneA] at hb4
 obtain ⟨n_b4_b3, n_b4_b2, n_b4_b1, hb4⟩ := hb4
 refine Ops_loud rfl (LO.storeAll (cs := tabI .u8 pl0 10) rfl sz25 rfl rfl (tabI_one _ _ _) (tabI_length _ _ _) (upd_same _ _ _) (tabI_length _ _ _) Chg.here rfl ?_)
 refine Ops_nil ?_
 refine thenA_n ?_
 refine wpA_seq ?_
 refine wpA_seq ?_
 refine wpA_region ?_
 refine Ops_quiet _ rfl rfl (QO.assign rfl rfl) ?_
 refine Ops_nil ?_
 refine thenA_n ?_
 refine wpA_block ?_
 obtain ⟨R1, hR, hm⟩ := Option.bind_eq_some_iff.1 hm
 obtain ⟨k1, hk1⟩ := loopV_some hR
 clear hR
 refine wpA_mono (Q := fun e s' h' => match (generalizing := false) R1 with | .stop x id => e = .exit id ∧ ∃ (x1 : Int) (x2 : (Nat → Int)), x = (x1, x2) ∧ Sub s' [(2, .int .i64 a2), (3, .pointer (some ⟨b1, 0, none⟩)), (4, .pointer (some ⟨b2, 0, none⟩)), (6, .pointer (some ⟨b3, 0, none⟩)), (7, .pointer (some ⟨b4, 0, none⟩)), (8, .int .i64 x1)] ∧ Le (upd (upd (upd (upd (h) b1 (.own 25 (tabI .u8 a0 10) 10)) b2 (.own 25 (tabI .u8 a1 10) 10)) b3 (.own 25 (tabI .u8 pl0 10) 10)) b4 (.own 25 (tabI .u8 x2 10) 10)) h' | .ret r => False | .next _ => False) ?_ ?_
 ·refine wpA_loop (fun k s' h' => ∃ (x1 : Int) (x2 : (Nat → Int)), loopW (m_spec_l01Then_l0 a0 a1 a2) k (x1, x2) = some R1 ∧ Sub s' [(2, .int .i64 a2), (3, .pointer (some ⟨b1, 0, none⟩)), (4, .pointer (some ⟨b2, 0, none⟩)), (6, .pointer (some ⟨b3, 0, none⟩)), (7, .pointer (some ⟨b4, 0, none⟩)), (8, .int .i64 x1)] ∧ Le (upd (upd (upd (upd (h) b1 (.own 25 (tabI .u8 a0 10) 10)) b2 (.own 25 (tabI .u8 a1 10) 10)) b3 (.own 25 (tabI .u8 pl0 10) 10)) b4 (.own 25 (tabI .u8 x2 10) 10)) h') (m := k1) ⟨0, pl0, hk1, (Sub.cons rfl (Sub.cons rfl (Sub.cons rfl (Sub.cons rfl (Sub.cons rfl (Sub.cons rfl Sub.nil)))))), (Le.upd_left (Le.upd_left (Le.upd_left (Le.upd_left (Le.under (Le.under (Le.under (Le.under (Le.refl _) hb1) hb2) hb3) hb4) ((upd_ne _ _ n_b4_b1.ne.symm).trans ((upd_ne _ _ n_b3_b1.ne.symm).trans ((upd_ne _ _ n_b2_b1.ne.symm).trans (upd_same _ _ _)))) (by first | rfl | (simp; done))) ((upd_ne _ _ n_b4_b2.ne.symm).trans ((upd_ne _ _ n_b3_b2.ne.symm).trans (upd_same _ _ _))) (by first | rfl | (simp; done))) ((upd_ne _ _ n_b4_b3.ne.symm).trans (upd_same _ _ _)) (by first | rfl | (simp; done))) (upd_same _ _ _) (by first | rfl | (simp; done)))⟩ ?_
  rintro k1 s' h' ⟨x1, x2, hk1, hsub, hle⟩
  refine wpA_weaken hsub.ok hle ?_
  clear hsub hle s' h'
  cases k1 with
  | zero => exact absurd hk1 (by simp [loopW])
  | succ k1 =>
   obtain ⟨o1, ho1, hk1⟩ := loopW_succ hk1
   unfold m_spec_l01Then_l0 at ho1
   try dsimp only at ho1
   refine wpA_seq ?_
   refine wpA_seq ?_
   refine wpA_region ?_
   refine Ops_quiet _ rfl rfl (QO.move rfl rfl) ?_
   refine Ops_quiet _ rfl rfl (QO.move rfl rfl) ?_
   refine Ops_quiet _ rfl rfl (QO.bin rfl rfl rfl rfl) ?_
   refine Ops_nil ?_
   refine thenA_n ?_
   refine wpA_cond rfl (fun g1 => ?_) (fun g1 => ?_)
   ·replace ho1 := cond_t ho1 g1
    refine wpA_skip ?_
    refine thenA_n ?_
    refine wpA_seq ?_
    refine wpA_block ?_
    refine wpA_region ?_
    refine Ops_quiet _ rfl rfl (QO.move rfl rfl) ?_
    refine Ops_quiet _ rfl rfl (QO.move rfl rfl) ?_
    have hq := chk ho1; clear ho1; obtain ⟨ck1, ho1⟩ := hq
    refine Ops_quiet _ rfl rfl (QO.idxArr rfl sz25 sz5 rfl rfl (by omega) (by omega)) ?_
    refine Ops_quiet _ rfl rfl (QO.load rfl sz5 rfl rfl (by (refine (rd_own ((upd_ne _ _ n_b4_b1.ne.symm).trans ((upd_ne _ _ n_b3_b1.ne.symm).trans ((upd_ne _ _ n_b2_b1.ne.symm).trans (upd_same _ _ _)))) _).trans ?_); exact tabI_get01 (by omega))) ?_
    have hq := chk ho1; clear ho1; obtain ⟨ck2, ho1⟩ := hq
    refine Ops_quiet _ rfl rfl (QO.idxArr rfl sz25 sz5 rfl rfl (by omega) (by omega)) ?_
    refine Ops_quiet _ rfl rfl (QO.load rfl sz5 rfl rfl (by (refine (rd_own ((upd_ne _ _ n_b4_b2.ne.symm).trans ((upd_ne _ _ n_b3_b2.ne.symm).trans (upd_same _ _ _))) _).trans ?_); exact tabI_get01 (by omega))) ?_
    have hq := chk ho1; clear ho1; obtain ⟨ck3, ho1⟩ := hq
    refine Ops_quiet _ rfl rfl (QO.idxArr rfl sz25 sz5 rfl rfl (by omega) (by omega)) ?_
    refine Ops_loud rfl (LO.store' (xs' := tabI .u8 (fset x2 (x1).toNat (a1 ((a0 (x1).toNat)).toNat)) 10) rfl sz5 rfl rfl rfl (upd_same _ _ _) (by first | ((try simp only [sqC_length, tbC_length, tabI_length, tabB_length, ints_length, plsC_length, trC_length, sqsC_length, strsC_length, boolsC_length, tbB_length, List.length_append, List.length_cons, List.length_nil, List.length_set, List.length_replicate, rep_length]); first | omega | decide) | exact Nat.le_of_ble_eq_true rfl) tabI_set01 Chg.here rfl ?_)
    refine Ops_nil ?_
    refine blockA_n ?_
    refine thenA_n ?_
    refine wpA_region ?_
    refine Ops_quiet _ rfl rfl (QO.move rfl rfl) ?_
    refine Ops_quiet _ rfl rfl (QO.bin rfl rfl rfl rfl) ?_
    refine Ops_quiet _ rfl rfl (QO.assign rfl rfl) ?_
    refine Ops_nil ?_
    obtain rfl := Option.some.inj ho1
    dsimp only at hk1
    exact thenA_n ⟨k1, Nat.lt_succ_self _, _, _, hk1, (Sub.cons rfl (Sub.cons rfl (Sub.cons rfl (Sub.cons rfl (Sub.cons rfl (Sub.cons rfl Sub.nil)))))), (Le.upd_left (Le.upd_left (Le.upd_left (Le.upd_left (Le.under (Le.under (Le.under (Le.under (Le.refl _) hb1) hb2) hb3) hb4) ((upd_ne _ _ n_b4_b1.ne.symm).trans ((upd_ne _ _ n_b3_b1.ne.symm).trans ((upd_ne _ _ n_b2_b1.ne.symm).trans (upd_same _ _ _)))) (by first | rfl | (simp; done))) ((upd_ne _ _ n_b4_b2.ne.symm).trans ((upd_ne _ _ n_b3_b2.ne.symm).trans (upd_same _ _ _))) (by first | rfl | (simp; done))) ((upd_ne _ _ n_b4_b3.ne.symm).trans (upd_same _ _ _)) (by first | rfl | (simp; done))) (upd_same _ _ _) (by first | rfl | (simp; done)))⟩
   ·replace ho1 := cond_f ho1 g1
    refine wpA_exit ?_
    refine thenA_e ?_
    refine thenA_e ?_
    obtain rfl := Option.some.inj ho1
    obtain rfl := Option.some.inj hk1
    exact ⟨rfl, _, _, rfl, (Sub.cons rfl (Sub.cons rfl (Sub.cons rfl (Sub.cons rfl (Sub.cons rfl (Sub.cons rfl Sub.nil)))))), (Le.upd_left (Le.upd_left (Le.upd_left (Le.upd_left (Le.under (Le.under (Le.under (Le.under (Le.refl _) hb1) hb2) hb3) hb4) ((upd_ne _ _ n_b4_b1.ne.symm).trans ((upd_ne _ _ n_b3_b1.ne.symm).trans ((upd_ne _ _ n_b2_b1.ne.symm).trans (upd_same _ _ _)))) (by first | rfl | (simp; done))) ((upd_ne _ _ n_b4_b2.ne.symm).trans ((upd_ne _ _ n_b3_b2.ne.symm).trans (upd_same _ _ _))) (by first | rfl | (simp; done))) ((upd_ne _ _ n_b4_b3.ne.symm).trans (upd_same _ _ _)) (by first | rfl | (simp; done))) (upd_same _ _ _) (by first | rfl | (simp; done)))⟩
 ·intro e s' h' hq
  cases R1 with
  | next x => exact hq.elim
  | ret r => exact hq.elim
  | stop x id =>
   obtain ⟨rfl, x3, x4, rfl, hsub1, hle1⟩ := hq
   try dsimp only at hm
   by_cases hid1 : id = 0
   ·subst hid1
    rw [if_pos rfl] at hm
    refine blockA_s ?_
    refine thenA_n ?_
    refine wpA_weaken hsub1.ok hle1 ?_
    refine wpA_seq ?_
    refine wpA_region ?_
    refine Ops_quiet _ rfl rfl (QO.loadRow (cs := tabI .u8 x4 10) (hr := (rdAll (upd_same _ _ _))) rfl sz25 rfl rfl (tabI_length _ _ _)) ?_
    refine Ops_loud rfl (LO.storeAll (cs := tabI .u8 x4 10) rfl sz25 rfl rfl (tabI_one _ _ _) (tabI_length _ _ _) ((upd_ne _ _ n_b4_b3.ne.symm).trans (upd_same _ _ _)) (tabI_length _ _ _) (Chg.there n_b4_b3.ne Chg.here) rfl ?_)
    refine Ops_nil ?_
    refine thenA_n ?_
    refine wpA_ret ?_
    obtain rfl := Option.some.inj hm
    exact retA_r (h2 := h) (Res.one rfl (res1.row (cs := tabI .u8 x4 10) (hr := (rdAll ((upd_ne _ _ n_b4_b3.ne.symm).trans (upd_same _ _ _)))) sz25 rfl rfl (tabI_length _ _ _))) (Le.under (Le.under (Le.under (Le.under (Le.refl _) hb1) hb2) hb3) hb4) ⟨rfl, rfl⟩
   rw [if_neg hid1] at hm
   exact absurd hm (by simp)

/-! loop.example/g01195/spec.ThenPlaces -/
theorem c_spec_ThenPlaces {a0 : (Nat → Int)} {a1 : (Nat → Int)} {a2 : Int} {h : Hp} {r : (Nat → Int) × Int} (hm : m_spec_ThenPlaces a0 a1 a2 = some r)  :
    QC Try.prog 7 #[.agg (tabI .u8 a0 10).toArray, .agg (tabI .u8 a1 10).toArray, .int .i64 a2] h (.tuple #[.agg (tabI .u8 r.1 10).toArray, .int .i64 r.2]) := by
 unfold m_spec_ThenPlaces at hm
 refine CC.enter Try.func7 rfl Try.ntmps7 rfl ?_
 refine wpA_seq ?_
 refine wpA_region ?_
 refine Ops_loud rfl (LO.boxAgg rfl rfl rfl (fun b1 hb1 => ?_))
 refine Ops_loud rfl (LO.boxAgg rfl rfl rfl (fun b2 hb2 => ?_))
 simp only [upd_noneA] at hb2
 obtain ⟨n_b2_b1, hb2⟩ := hb2
 refine Ops_loud rfl (LO.alloc rfl zr25 rfl (fun b3 hb3 => ?_))
 simp only [upd_noneA] at hb3
 obtain ⟨n_b3_b2, n_b3_b1, hb3⟩ := hb3
 refine Ops_quiet _ rfl rfl (QO.assign rfl rfl) ?_
 refine Ops_nil ?_
 refine thenA_n ?_
 refine wpA_seq ?_
 refine wpA_seq ?_
 refine wpA_region ?_
 refine Ops_quiet _ rfl rfl (QO.loadRow (cs := tabI .u8 a0 10) (hr := (rdAll ((upd_ne _ _ n_b3_b1.ne.symm).trans ((upd_ne _ _ n_b2_b1.ne.symm).trans (upd_same _ _ _))))) rfl sz25 rfl rfl (tabI_length _ _ _)) ?_
 refine Ops_quiet _ rfl rfl (QO.move rfl rfl) ?_
 have hq := Option.bind_eq_some_iff.1 hm; clear hm; obtain ⟨r1, hr1, hm⟩ := hq
 refine Ops_call _ _ rfl rfl (EO.fn rfl Try.func31 rfl rfl (Evs.cons rfl (Evs.cons rfl Evs.nil))) (QC.cc (c_spec_l01Perm hr1 ) ?_)
 refine Ops_quiet _ rfl rfl (QO.not rfl rfl) ?_
 refine Ops_quiet _ rfl rfl (QO.move rfl rfl) ?_
 refine Ops_case 12 rfl (fun g1 => ?_) (fun g1 => ?_)
 ·replace hm := cond_t hm g1
  refine Ops_skip rfl rfl ?_
  refine Ops_skip rfl rfl ?_
  refine Ops_skip rfl rfl ?_
  refine Ops_skip rfl rfl ?_
  refine Ops_quiet _ rfl rfl (QO.pick_t rfl rfl rfl) ?_
  refine Ops_nil ?_
  refine thenA_n ?_
  refine wpA_cond_t rfl ?_
  refine wpA_seq ?_
  refine wpA_region ?_
  refine Ops_quiet _ rfl rfl (QO.build0 rfl bd25) ?_
  refine Ops_loud rfl (LO.storeAll (cs := tabI .u8 pl0 10) rfl sz25 rfl rfl (tabI_one _ _ _) (tabI_length _ _ _) (upd_same _ _ _) (tabI_length _ _ _) Chg.here rfl ?_)
  refine Ops_quiet _ rfl rfl (QO.assign rfl rfl) ?_
  refine Ops_nil ?_
  refine thenA_n ?_
  refine wpA_ret ?_
  refine thenA_r ?_
  obtain rfl := Option.some.inj hm
  exact retA_r (h2 := h) (Res.two rfl (res1.row (cs := tabI .u8 pl0 10) (hr := (rdAll (upd_same _ _ _))) sz25 rfl rfl (tabI_length _ _ _)) (rfl)) (Le.under (Le.under (Le.under (Le.refl _) hb1) hb2) hb3) ⟨rfl, rfl⟩
 ·replace hm := cond_f hm g1
  refine Ops_quiet _ rfl rfl (QO.loadRow (cs := tabI .u8 a1 10) (hr := (rdAll ((upd_ne _ _ n_b3_b2.ne.symm).trans (upd_same _ _ _)))) rfl sz25 rfl rfl (tabI_length _ _ _)) ?_
  refine Ops_quiet _ rfl rfl (QO.move rfl rfl) ?_
  have hq := Option.bind_eq_some_iff.1 hm; clear hm; obtain ⟨r2, hr2, hm⟩ := hq
  refine Ops_call _ _ rfl rfl (EO.fn rfl Try.func31 rfl rfl (Evs.cons rfl (Evs.cons rfl Evs.nil))) (QC.cc (c_spec_l01Perm hr2 ) ?_)
  refine Ops_quiet _ rfl rfl (QO.not rfl rfl) ?_
  refine Ops_quiet _ rfl rfl (QO.pick_f rfl rfl rfl) ?_
  refine Ops_nil ?_
  refine thenA_n ?_
  refine wpA_cond rfl (fun g2 => ?_) (fun g2 => ?_)
  ·replace hm := cond_t hm g2
   refine wpA_seq ?_
   refine wpA_region ?_
   refine Ops_quiet _ rfl rfl (QO.build0 rfl bd25) ?_
   refine Ops_loud rfl (LO.storeAll (cs := tabI .u8 pl0 10) rfl sz25 rfl rfl (tabI_one _ _ _) (tabI_length _ _ _) (upd_same _ _ _) (tabI_length _ _ _) Chg.here rfl ?_)
   refine Ops_quiet _ rfl rfl (QO.assign rfl rfl) ?_
   refine Ops_nil ?_
   refine thenA_n ?_
   refine wpA_ret ?_
   refine thenA_r ?_
   obtain rfl := Option.some.inj hm
   exact retA_r (h2 := h) (Res.two rfl (res1.row (cs := tabI .u8 pl0 10) (hr := (rdAll (upd_same _ _ _))) sz25 rfl rfl (tabI_length _ _ _)) (rfl)) (Le.under (Le.under (Le.under (Le.refl _) hb1) hb2) hb3) ⟨rfl, rfl⟩
  ·replace hm := cond_f hm g2
   refine wpA_skip ?_
   refine thenA_n ?_
   refine wpA_seq ?_
   refine wpA_region ?_
   refine Ops_quiet _ rfl rfl (QO.loadRow (cs := tabI .u8 a0 10) (hr := (rdAll ((upd_ne _ _ n_b3_b1.ne.symm).trans ((upd_ne _ _ n_b2_b1.ne.symm).trans (upd_same _ _ _))))) rfl sz25 rfl rfl (tabI_length _ _ _)) ?_
   refine Ops_quiet _ rfl rfl (QO.loadRow (cs := tabI .u8 a1 10) (hr := (rdAll ((upd_ne _ _ n_b3_b2.ne.symm).trans (upd_same _ _ _)))) rfl sz25 rfl rfl (tabI_length _ _ _)) ?_
   refine Ops_quiet _ rfl rfl (QO.move rfl rfl) ?_
   have hq := Option.bind_eq_some_iff.1 hm; clear hm; obtain ⟨r3, hr3, hm⟩ := hq
   refine Ops_call _ _ rfl rfl (EO.fn rfl Try.func32 rfl rfl (Evs.cons rfl (Evs.cons rfl (Evs.cons rfl Evs.nil)))) (QC.cc (c_spec_l01Then hr3 ) ?_)
   refine Ops_loud rfl (LO.storeAll (cs := tabI .u8 r3 10) rfl sz25 rfl rfl (tabI_one _ _ _) (tabI_length _ _ _) (upd_same _ _ _) (tabI_length _ _ _) Chg.here rfl ?_)
   refine Ops_quiet _ rfl rfl (QO.assign rfl rfl) ?_
   refine Ops_nil ?_
   refine thenA_n ?_
   refine wpA_ret ?_
   obtain rfl := Option.some.inj hm
   exact retA_r (h2 := h) (Res.two rfl (res1.row (cs := tabI .u8 r3 10) (hr := (rdAll (upd_same _ _ _))) sz25 rfl rfl (tabI_length _ _ _)) (rfl)) (Le.under (Le.under (Le.under (Le.refl _) hb1) hb2) hb3) ⟨rfl, rfl⟩

/-! loop.example/g01195/impl.back -/
theorem c_impl_back {a0 : (Nat → Int)} {a1 : Int} {h : Hp} {r : (Nat → Int)} (hm : m_impl_back a0 a1 = some r)  :
    QC Try.prog 33 #[.agg (tabI .u8 a0 10).toArray, .int .i64 a1] h (.agg (tabI .u8 r 10).toArray) := by
 unfold m_impl_back at hm
 refine CC.enter Try.func33 rfl Try.ntmps33 rfl ?_
 refine wpA_seq ?_
 refine wpA_region ?_
 refine Ops_loud rfl (LO.boxAgg rfl rfl rfl (fun b1 hb1 => ?_))
 refine Ops_loud rfl (LO.alloc rfl zr25 rfl (fun b2 hb2 => ?_))
 simp only [upd_noneA] at hb2
 obtain ⟨n_b2_b1, hb2⟩ := hb2
 refine Ops_nil ?_
 refine thenA_n ?_
 refine wpA_seq ?_
 refine wpA_region ?_
 refine Ops_quiet _ rfl rfl (QO.build0 rfl bd25) ?_
 refine Ops_loud rfl (LO.alloc rfl zr25 rfl (fun b3 hb3 => ?_))
 simp only [upd_noneA] at hb3
 obtain ⟨n_b3_b2, n_b3_b1, hb3⟩ := hb3
 refine Ops_loud rfl (LO.storeAll (cs := tabI .u8 pl0 10) rfl sz25 rfl rfl (tabI_one _ _ _) (tabI_length _ _ _) (upd_same _ _ _) (tabI_length _ _ _) Chg.here rfl ?_)
 refine Ops_nil ?_
 refine thenA_n ?_
 refine wpA_seq ?_
 refine wpA_seq ?_
 refine wpA_region ?_
 refine Ops_quiet _ rfl rfl (QO.move rfl rfl) ?_
 refine Ops_quiet _ rfl rfl (QO.move rfl rfl) ?_
 refine Ops_nil ?_
 refine thenA_n ?_
 refine wpA_block ?_
 obtain ⟨R1, hR, hm⟩ := Option.bind_eq_some_iff.1 hm
 obtain ⟨k1, hk1⟩ := loopV_some hR
 clear hR
 refine wpA_mono (Q := fun e s' h' => match (generalizing := false) R1 with | .stop x id => e = .exit id ∧ ∃ (x1 : Int) (x2 : (Nat → Int)), x = (x1, x2) ∧ Sub s' [(2, .pointer (some ⟨b1, 0, none⟩)), (4, .pointer (some ⟨b2, 0, none⟩)), (5, .pointer (some ⟨b3, 0, none⟩)), (8, .int .i64 a1), (9, .int .i64 x1)] ∧ Le (upd (upd (upd (h) b1 (.own 25 (tabI .u8 a0 10) 10)) b2 (.own 25 (tabI .u8 pl0 10) 10)) b3 (.own 25 (tabI .u8 x2 10) 10)) h' | .ret r => False | .next _ => False) ?_ ?_
 ·refine wpA_loop (fun k s' h' => ∃ (x1 : Int) (x2 : (Nat → Int)), loopW (m_impl_back_l0 a0 a1) k (x1, x2) = some R1 ∧ Sub s' [(2, .pointer (some ⟨b1, 0, none⟩)), (4, .pointer (some ⟨b2, 0, none⟩)), (5, .pointer (some ⟨b3, 0, none⟩)), (8, .int .i64 a1), (9, .int .i64 x1)] ∧ Le (upd (upd (upd (h) b1 (.own 25 (tabI .u8 a0 10) 10)) b2 (.own 25 (tabI .u8 pl0 10) 10)) b3 (.own 25 (tabI .u8 x2 10) 10)) h') (m := k1) ⟨0, pl0, hk1, (Sub.cons rfl (Sub.cons rfl (Sub.cons rfl (Sub.cons rfl (Sub.cons rfl Sub.nil))))), (Le.upd_left (Le.upd_left (Le.upd_left (Le.under (Le.under (Le.under (Le.refl _) hb1) hb2) hb3) ((upd_ne _ _ n_b3_b1.ne.symm).trans ((upd_ne _ _ n_b2_b1.ne.symm).trans (upd_same _ _ _))) (by first | rfl | (simp; done))) ((upd_ne _ _ n_b3_b2.ne.symm).trans (upd_same _ _ _)) (by first | rfl | (simp; done))) (upd_same _ _ _) (by first | rfl | (simp; done)))⟩ ?_
  rintro k1 s' h' ⟨x1, x2, hk1, hsub, hle⟩
  refine wpA_weaken hsub.ok hle ?_
  clear hsub hle s' h'
  cases k1 with
  | zero => exact absurd hk1 (by simp [loopW])
  | succ k1 =>
   obtain ⟨o1, ho1, hk1⟩ := loopW_succ hk1
   unfold m_impl_back_l0 at ho1
   try dsimp only at ho1
   refine wpA_seq ?_
   refine wpA_region ?_
   refine Ops_quiet _ rfl rfl (QO.bin rfl rfl rfl rfl) ?_
   refine Ops_nil ?_
   refine thenA_n ?_
   refine wpA_seq ?_
   refine wpA_cond rfl (fun g1 => ?_) (fun g1 => ?_)
   ·replace ho1 := cond_t ho1 g1
    refine wpA_skip ?_
    refine thenA_n ?_
    refine wpA_seq ?_
    refine wpA_block ?_
    refine wpA_seq ?_
    refine wpA_region ?_
    refine Ops_quiet _ rfl rfl (QO.move rfl rfl) ?_
    refine Ops_quiet _ rfl rfl (QO.assign rfl rfl) ?_
    refine Ops_nil ?_
    refine thenA_n ?_
    refine wpA_region ?_
    refine Ops_quiet _ rfl rfl (QO.move rfl rfl) ?_
    have hq := chk ho1; clear ho1; obtain ⟨ck1, ho1⟩ := hq
    refine Ops_quiet _ rfl rfl (QO.idxArr rfl sz25 sz5 rfl rfl (by omega) (by omega)) ?_
    refine Ops_quiet _ rfl rfl (QO.load rfl sz5 rfl rfl (by (refine (rd_own ((upd_ne _ _ n_b3_b1.ne.symm).trans ((upd_ne _ _ n_b2_b1.ne.symm).trans (upd_same _ _ _))) _).trans ?_); exact tabI_get01 (by omega))) ?_
    refine Ops_quiet _ rfl rfl (QO.move rfl rfl) ?_
    refine Ops_quiet _ rfl rfl (QO.conv rfl sz2 sz5 rfl) ?_
    have hq := chk ho1; clear ho1; obtain ⟨ck2, ho1⟩ := hq
    refine Ops_quiet _ rfl rfl (QO.idxArr rfl sz25 sz5 rfl rfl (by omega) (by omega)) ?_
    refine Ops_loud rfl (LO.store' (xs' := tabI .u8 (fset x2 ((a0 (x1).toNat)).toNat (IntKind.u8.wrap x1)) 10) rfl sz5 rfl rfl rfl (upd_same _ _ _) (by first | ((try simp only [sqC_length, tbC_length, tabI_length, tabB_length, ints_length, plsC_length, trC_length, sqsC_length, strsC_length, boolsC_length, tbB_length, List.length_append, List.length_cons, List.length_nil, List.length_set, List.length_replicate, rep_length]); first | omega | decide) | exact Nat.le_of_ble_eq_true rfl) tabI_set01 Chg.here rfl ?_)
    refine Ops_nil ?_
    refine blockA_n ?_
    refine thenA_n ?_
    refine wpA_region ?_
    refine Ops_quiet _ rfl rfl (QO.bin rfl rfl rfl rfl) ?_
    refine Ops_quiet _ rfl rfl (QO.move rfl rfl) ?_
    refine Ops_nil ?_
    obtain rfl := Option.some.inj ho1
    dsimp only at hk1
    exact thenA_n ⟨k1, Nat.lt_succ_self _, _, _, hk1, (Sub.cons rfl (Sub.cons rfl (Sub.cons rfl (Sub.cons rfl (Sub.cons rfl Sub.nil))))), (Le.upd_left (Le.upd_left (Le.upd_left (Le.under (Le.under (Le.under (Le.refl _) hb1) hb2) hb3) ((upd_ne _ _ n_b3_b1.ne.symm).trans ((upd_ne _ _ n_b2_b1.ne.symm).trans (upd_same _ _ _))) (by first | rfl | (simp; done))) ((upd_ne _ _ n_b3_b2.ne.symm).trans (upd_same _ _ _)) (by first | rfl | (simp; done))) (upd_same _ _ _) (by first | rfl | (simp; done)))⟩
   ·replace ho1 := cond_f ho1 g1
    refine wpA_exit ?_
    refine thenA_e ?_
    refine thenA_e ?_
    obtain rfl := Option.some.inj ho1
    obtain rfl := Option.some.inj hk1
    exact ⟨rfl, _, _, rfl, (Sub.cons rfl (Sub.cons rfl (Sub.cons rfl (Sub.cons rfl (Sub.cons rfl Sub.nil))))), (Le.upd_left (Le.upd_left (Le.upd_left (Le.under (Le.under (Le.under (Le.refl _) hb1) hb2) hb3) ((upd_ne _ _ n_b3_b1.ne.symm).trans ((upd_ne _ _ n_b2_b1.ne.symm).trans (upd_same _ _ _))) (by first | rfl | (simp; done))) ((upd_ne _ _ n_b3_b2.ne.symm).trans (upd_same _ _ _)) (by first | rfl | (simp; done))) (upd_same _ _ _) (by first | rfl | (simp; done)))⟩
 ·intro e s' h' hq
  cases R1 with
  | next x => exact hq.elim
  | ret r => exact hq.elim
  | stop x id =>
   obtain ⟨rfl, x3, x4, rfl, hsub1, hle1⟩ := hq
   try dsimp only at hm
   by_cases hid1 : id = 0
   ·subst hid1
    rw [if_pos rfl] at hm
    refine blockA_s ?_
    refine thenA_n ?_
    refine wpA_weaken hsub1.ok hle1 ?_
    refine wpA_seq ?_
    refine wpA_region ?_
    refine Ops_quiet _ rfl rfl (QO.loadRow (cs := tabI .u8 x4 10) (hr := (rdAll (upd_same _ _ _))) rfl sz25 rfl rfl (tabI_length _ _ _)) ?_
    refine Ops_loud rfl (LO.storeAll (cs := tabI .u8 x4 10) rfl sz25 rfl rfl (tabI_one _ _ _) (tabI_length _ _ _) ((upd_ne _ _ n_b3_b2.ne.symm).trans (upd_same _ _ _)) (tabI_length _ _ _) (Chg.there n_b3_b2.ne Chg.here) rfl ?_)
    refine Ops_nil ?_
    refine thenA_n ?_
    refine wpA_ret ?_
    obtain rfl := Option.some.inj hm
    exact retA_r (h2 := h) (Res.one rfl (res1.row (cs := tabI .u8 x4 10) (hr := (rdAll ((upd_ne _ _ n_b3_b2.ne.symm).trans (upd_same _ _ _)))) sz25 rfl rfl (tabI_length _ _ _))) (Le.under (Le.under (Le.under (Le.refl _) hb1) hb2) hb3) ⟨rfl, rfl⟩
   rw [if_neg hid1] at hm
   exact absurd hm (by simp)

/-! loop.example/g01195/impl.BackPlaces -/
theorem c_impl_BackPlaces {a0 : (Nat → Int)} {a1 : Int} {h : Hp} {r : (Nat → Int) × Int} (hm : m_impl_BackPlaces a0 a1 = some r)  :
    QC Try.prog 8 #[.agg (tabI .u8 a0 10).toArray, .int .i64 a1] h (.tuple #[.agg (tabI .u8 r.1 10).toArray, .int .i64 r.2]) := by
 unfold m_impl_BackPlaces at hm
 refine CC.enter Try.func8 rfl Try.ntmps8 rfl ?_
 refine wpA_seq ?_
 refine wpA_region ?_
 refine Ops_loud rfl (LO.boxAgg rfl rfl rfl (fun b1 hb1 => ?_))
 refine Ops_loud rfl (LO.alloc rfl zr25 rfl (fun b2 hb2 => ?_))
 simp only [upd_noneA] at hb2
 obtain ⟨n_b2_b1, hb2⟩ := hb2
 refine Ops_quiet _ rfl rfl (QO.assign rfl rfl) ?_
 refine Ops_nil ?_
 refine thenA_n ?_
 refine wpA_seq ?_
 refine wpA_seq ?_
 refine wpA_region ?_
 refine Ops_quiet _ rfl rfl (QO.move rfl rfl) ?_
 refine Ops_quiet _ rfl rfl (QO.loadRow (cs := tabI .u8 a0 10) (hr := (rdAll ((upd_ne _ _ n_b2_b1.ne.symm).trans (upd_same _ _ _)))) rfl sz25 rfl rfl (tabI_length _ _ _)) ?_
 refine Ops_loud rfl (LO.slice1 (r := plsC [a0]) rfl sz68 sz25 zr25 (by first | rfl | (simp [sqC_length, tbC_length, tabI_length, tabB_length, ints_length, plsC_length, trC_length, sqsC_length, strsC_length, boolsC_length, tbB_length, List.length_append, List.length_cons, List.length_nil, List.length_set, List.length_replicate, rep_length]; done)) (by decide) (by decide) rfl (by simp [plsC, sqsC, Value.cells]) (by first | rfl | (simp [sqC_length, tbC_length, tabI_length, tabB_length, ints_length, plsC_length, trC_length, sqsC_length, strsC_length, boolsC_length, tbB_length, List.length_append, List.length_cons, List.length_nil, List.length_set, List.length_replicate, rep_length]; done)) rfl (fun b3 hb3 => ?_))
 simp only [upd_noneA] at hb3
 obtain ⟨n_b3_b2, n_b3_b1, hb3⟩ := hb3
 have hq := Option.bind_eq_some_iff.1 hm; clear hm; obtain ⟨r1, hr1, hm⟩ := hq
 refine Ops_call _ _ rfl rfl (EO.fn rfl Try.func29 rfl rfl (Evs.cons rfl (Evs.cons rfl Evs.nil))) (QC.cc (c_impl_arePermutations (l1 := [a0]) (A1 := some ⟨b3, 0, none⟩) (c1 := 1) hr1 (RdS.own (upd_same _ _ _))) ?_)
 refine Ops_quiet _ rfl rfl (QO.not rfl rfl) ?_
 refine Ops_nil ?_
 refine thenA_n ?_
 refine wpA_cond rfl (fun g1 => ?_) (fun g1 => ?_)
 ·replace hm := cond_t hm g1
  refine wpA_seq ?_
  refine wpA_region ?_
  refine Ops_quiet _ rfl rfl (QO.build0 rfl bd25) ?_
  refine Ops_loud rfl (LO.storeAll (cs := tabI .u8 pl0 10) rfl sz25 rfl rfl (tabI_one _ _ _) (tabI_length _ _ _) ((upd_ne _ _ n_b3_b2.ne.symm).trans (upd_same _ _ _)) (tabI_length _ _ _) (Chg.there n_b3_b2.ne Chg.here) rfl ?_)
  refine Ops_quiet _ rfl rfl (QO.assign rfl rfl) ?_
  refine Ops_nil ?_
  refine thenA_n ?_
  refine wpA_ret ?_
  refine thenA_r ?_
  obtain rfl := Option.some.inj hm
  exact retA_r (h2 := h) (Res.two rfl (res1.row (cs := tabI .u8 pl0 10) (hr := (rdAll ((upd_ne _ _ n_b3_b2.ne.symm).trans (upd_same _ _ _)))) sz25 rfl rfl (tabI_length _ _ _)) (rfl)) (Le.under (Le.under (Le.under (Le.refl _) hb1) hb2) hb3) ⟨rfl, rfl⟩
 ·replace hm := cond_f hm g1
  refine wpA_skip ?_
  refine thenA_n ?_
  refine wpA_seq ?_
  refine wpA_region ?_
  refine Ops_quiet _ rfl rfl (QO.loadRow (cs := tabI .u8 a0 10) (hr := (rdAll ((upd_ne _ _ n_b3_b1.ne.symm).trans ((upd_ne _ _ n_b2_b1.ne.symm).trans (upd_same _ _ _))))) rfl sz25 rfl rfl (tabI_length _ _ _)) ?_
  refine Ops_quiet _ rfl rfl (QO.move rfl rfl) ?_
  have hq := Option.bind_eq_some_iff.1 hm; clear hm; obtain ⟨r2, hr2, hm⟩ := hq
  refine Ops_call _ _ rfl rfl (EO.fn rfl Try.func33 rfl rfl (Evs.cons rfl (Evs.cons rfl Evs.nil))) (QC.cc (c_impl_back hr2 ) ?_)
  refine Ops_loud rfl (LO.storeAll (cs := tabI .u8 r2 10) rfl sz25 rfl rfl (tabI_one _ _ _) (tabI_length _ _ _) ((upd_ne _ _ n_b3_b2.ne.symm).trans (upd_same _ _ _)) (tabI_length _ _ _) (Chg.there n_b3_b2.ne Chg.here) rfl ?_)
  refine Ops_quiet _ rfl rfl (QO.assign rfl rfl) ?_
  refine Ops_nil ?_
  refine thenA_n ?_
  refine wpA_ret ?_
  obtain rfl := Option.some.inj hm
  exact retA_r (h2 := h) (Res.two rfl (res1.row (cs := tabI .u8 r2 10) (hr := (rdAll ((upd_ne _ _ n_b3_b2.ne.symm).trans (upd_same _ _ _)))) sz25 rfl rfl (tabI_length _ _ _)) (rfl)) (Le.under (Le.under (Le.under (Le.refl _) hb1) hb2) hb3) ⟨rfl, rfl⟩

/-! loop.example/g01195/spec.l01Back -/
theorem c_spec_l01Back {a0 : (Nat → Int)} {a1 : Int} {h : Hp} {r : (Nat → Int)} (hm : m_spec_l01Back a0 a1 = some r)  :
    QC Try.prog 34 #[.agg (tabI .u8 a0 10).toArray, .int .i64 a1] h (.agg (tabI .u8 r 10).toArray) := by
 unfold m_spec_l01Back at hm
 refine CC.enter Try.func34 rfl Try.ntmps34 rfl ?_
 refine wpA_seq ?_
 refine wpA_region ?_
 refine Ops_loud rfl (LO.boxAgg rfl rfl rfl (fun b1 hb1 => ?_))
 refine Ops_loud rfl (LO.alloc rfl zr25 rfl (fun b2 hb2 => ?_))
 simp only [upd_noneA] at hb2
 obtain ⟨n_b2_b1, hb2⟩ := hb2
 refine Ops_nil ?_
 refine thenA_n ?_
 refine wpA_seq ?_
 refine wpA_region ?_
 refine Ops_quiet _ rfl rfl (QO.build0 rfl bd25) ?_
 refine Ops_loud rfl (LO.alloc rfl zr25 rfl (fun b3 hb3 => ?_))
 simp only [upd_noneA] at hb3
 obtain ⟨n_b3_b2, n_b3_b1, hb3⟩ := hb3
 refine Ops_loud rfl (LO.storeAll (cs := tabI .u8 pl0 10) rfl sz25 rfl rfl (tabI_one _ _ _) (tabI_length _ _ _) (upd_same _ _ _) (tabI_length _ _ _) Chg.here rfl ?_)
 refine Ops_nil ?_
 refine thenA_n ?_
 refine wpA_seq ?_
 refine wpA_seq ?_
 refine wpA_region ?_
 refine Ops_quiet _ rfl rfl (QO.assign rfl rfl) ?_
 refine Ops_nil ?_
 refine thenA_n ?_
 refine wpA_block ?_
 obtain ⟨R1, hR, hm⟩ := Option.bind_eq_some_iff.1 hm
 obtain ⟨k1, hk1⟩ := loopV_some hR
 clear hR
 refine wpA_mono (Q := fun e s' h' => match (generalizing := false) R1 with | .stop x id => e = .exit id ∧ ∃ (x1 : Int) (x2 : (Nat → Int)), x = (x1, x2) ∧ Sub s' [(1, .int .i64 a1), (2, .pointer (some ⟨b1, 0, none⟩)), (4, .pointer (some ⟨b2, 0, none⟩)), (5, .pointer (some ⟨b3, 0, none⟩)), (6, .int .i64 x1)] ∧ Le (upd (upd (upd (h) b1 (.own 25 (tabI .u8 a0 10) 10)) b2 (.own 25 (tabI .u8 pl0 10) 10)) b3 (.own 25 (tabI .u8 x2 10) 10)) h' | .ret r => False | .next _ => False) ?_ ?_
 ·refine wpA_loop (fun k s' h' => ∃ (x1 : Int) (x2 : (Nat → Int)), loopW (m_spec_l01Back_l0 a0 a1) k (x1, x2) = some R1 ∧ Sub s' [(1, .int .i64 a1), (2, .pointer (some ⟨b1, 0, none⟩)), (4, .pointer (some ⟨b2, 0, none⟩)), (5, .pointer (some ⟨b3, 0, none⟩)), (6, .int .i64 x1)] ∧ Le (upd (upd (upd (h) b1 (.own 25 (tabI .u8 a0 10) 10)) b2 (.own 25 (tabI .u8 pl0 10) 10)) b3 (.own 25 (tabI .u8 x2 10) 10)) h') (m := k1) ⟨0, pl0, hk1, (Sub.cons rfl (Sub.cons rfl (Sub.cons rfl (Sub.cons rfl (Sub.cons rfl Sub.nil))))), (Le.upd_left (Le.upd_left (Le.upd_left (Le.under (Le.under (Le.under (Le.refl _) hb1) hb2) hb3) ((upd_ne _ _ n_b3_b1.ne.symm).trans ((upd_ne _ _ n_b2_b1.ne.symm).trans (upd_same _ _ _))) (by first | rfl | (simp; done))) ((upd_ne _ _ n_b3_b2.ne.symm).trans (upd_same _ _ _)) (by first | rfl | (simp; done))) (upd_same _ _ _) (by first | rfl | (simp; done)))⟩ ?_
  rintro k1 s' h' ⟨x1, x2, hk1, hsub, hle⟩
  refine wpA_weaken hsub.ok hle ?_
  clear hsub hle s' h'
  cases k1 with
  | zero => exact absurd hk1 (by simp [loopW])
  | succ k1 =>
   obtain ⟨o1, ho1, hk1⟩ := loopW_succ hk1
   unfold m_spec_l01Back_l0 at ho1
   try dsimp only at ho1
   refine wpA_seq ?_
   refine wpA_seq ?_
   refine wpA_region ?_
   refine Ops_quiet _ rfl rfl (QO.move rfl rfl) ?_
   refine Ops_quiet _ rfl rfl (QO.move rfl rfl) ?_
   refine Ops_quiet _ rfl rfl (QO.bin rfl rfl rfl rfl) ?_
   refine Ops_nil ?_
   refine thenA_n ?_
   refine wpA_cond rfl (fun g1 => ?_) (fun g1 => ?_)
   ·replace ho1 := cond_t ho1 g1
    refine wpA_skip ?_
    refine thenA_n ?_
    refine wpA_seq ?_
    refine wpA_block ?_
    refine wpA_region ?_
    refine Ops_quiet _ rfl rfl (QO.move rfl rfl) ?_
    have hq := chk ho1; clear ho1; obtain ⟨ck1, ho1⟩ := hq
    refine Ops_quiet _ rfl rfl (QO.idxArr rfl sz25 sz5 rfl rfl (by omega) (by omega)) ?_
    refine Ops_quiet _ rfl rfl (QO.load rfl sz5 rfl rfl (by (refine (rd_own ((upd_ne _ _ n_b3_b1.ne.symm).trans ((upd_ne _ _ n_b2_b1.ne.symm).trans (upd_same _ _ _))) _).trans ?_); exact tabI_get01 (by omega))) ?_
    refine Ops_quiet _ rfl rfl (QO.move rfl rfl) ?_
    refine Ops_quiet _ rfl rfl (QO.conv rfl sz2 sz5 rfl) ?_
    have hq := chk ho1; clear ho1; obtain ⟨ck2, ho1⟩ := hq
    refine Ops_quiet _ rfl rfl (QO.idxArr rfl sz25 sz5 rfl rfl (by omega) (by omega)) ?_
    refine Ops_loud rfl (LO.store' (xs' := tabI .u8 (fset x2 ((a0 (x1).toNat)).toNat (IntKind.u8.wrap x1)) 10) rfl sz5 rfl rfl rfl (upd_same _ _ _) (by first | ((try simp only [sqC_length, tbC_length, tabI_length, tabB_length, ints_length, plsC_length, trC_length, sqsC_length, strsC_length, boolsC_length, tbB_length, List.length_append, List.length_cons, List.length_nil, List.length_set, List.length_replicate, rep_length]); first | omega | decide) | exact Nat.le_of_ble_eq_true rfl) tabI_set01 Chg.here rfl ?_)
    refine Ops_nil ?_
    refine blockA_n ?_
    refine thenA_n ?_
    refine wpA_region ?_
    refine Ops_quiet _ rfl rfl (QO.move rfl rfl) ?_
    refine Ops_quiet _ rfl rfl (QO.bin rfl rfl rfl rfl) ?_
    refine Ops_quiet _ rfl rfl (QO.assign rfl rfl) ?_
    refine Ops_nil ?_
    obtain rfl := Option.some.inj ho1
    dsimp only at hk1
    exact thenA_n ⟨k1, Nat.lt_succ_self _, _, _, hk1, (Sub.cons rfl (Sub.cons rfl (Sub.cons rfl (Sub.cons rfl (Sub.cons rfl Sub.nil))))), (Le.upd_left (Le.upd_left (Le.upd_left (Le.under (Le.under (Le.under (Le.refl _) hb1) hb2) hb3) ((upd_ne _ _ n_b3_b1.ne.symm).trans ((upd_ne _ _ n_b2_b1.ne.symm).trans (upd_same _ _ _))) (by first | rfl | (simp; done))) ((upd_ne _ _ n_b3_b2.ne.symm).trans (upd_same _ _ _)) (by first | rfl | (simp; done))) (upd_same _ _ _) (by first | rfl | (simp; done)))⟩
   ·replace ho1 := cond_f ho1 g1
    refine wpA_exit ?_
    refine thenA_e ?_
    refine thenA_e ?_
    obtain rfl := Option.some.inj ho1
    obtain rfl := Option.some.inj hk1
    exact ⟨rfl, _, _, rfl, (Sub.cons rfl (Sub.cons rfl (Sub.cons rfl (Sub.cons rfl (Sub.cons rfl Sub.nil))))), (Le.upd_left (Le.upd_left (Le.upd_left (Le.under (Le.under (Le.under (Le.refl _) hb1) hb2) hb3) ((upd_ne _ _ n_b3_b1.ne.symm).trans ((upd_ne _ _ n_b2_b1.ne.symm).trans (upd_same _ _ _))) (by first | rfl | (simp; done))) ((upd_ne _ _ n_b3_b2.ne.symm).trans (upd_same _ _ _)) (by first | rfl | (simp; done))) (upd_same _ _ _) (by first | rfl | (simp; done)))⟩
 ·intro e s' h' hq
  cases R1 with
  | next x => exact hq.elim
  | ret r => exact hq.elim
  | stop x id =>
   obtain ⟨rfl, x3, x4, rfl, hsub1, hle1⟩ := hq
   try dsimp only at hm
   by_cases hid1 : id = 0
   ·subst hid1
    rw [if_pos rfl] at hm
    refine blockA_s ?_
    refine thenA_n ?_
    refine wpA_weaken hsub1.ok hle1 ?_
    refine wpA_seq ?_
    refine wpA_region ?_
    refine Ops_quiet _ rfl rfl (QO.loadRow (cs := tabI .u8 x4 10) (hr := (rdAll (upd_same _ _ _))) rfl sz25 rfl rfl (tabI_length _ _ _)) ?_
    refine Ops_loud rfl (LO.storeAll (cs := tabI .u8 x4 10) rfl sz25 rfl rfl (tabI_one _ _ _) (tabI_length _ _ _) ((upd_ne _ _ n_b3_b2.ne.symm).trans (upd_same _ _ _)) (tabI_length _ _ _) (Chg.there n_b3_b2.ne Chg.here) rfl ?_)
    refine Ops_nil ?_
    refine thenA_n ?_
    refine wpA_ret ?_
    obtain rfl := Option.some.inj hm
    exact retA_r (h2 := h) (Res.one rfl (res1.row (cs := tabI .u8 x4 10) (hr := (rdAll ((upd_ne _ _ n_b3_b2.ne.symm).trans (upd_same _ _ _)))) sz25 rfl rfl (tabI_length _ _ _))) (Le.under (Le.under (Le.under (Le.refl _) hb1) hb2) hb3) ⟨rfl, rfl⟩
   rw [if_neg hid1] at hm
   exact absurd hm (by simp)

/-! loop.example/g01195/spec.BackPlaces -/
theorem c_spec_BackPlaces {a0 : (Nat → Int)} {a1 : Int} {h : Hp} {r : (Nat → Int) × Int} (hm : m_spec_BackPlaces a0 a1 = some r)  :
    QC Try.prog 9 #[.agg (tabI .u8 a0 10).toArray, .int .i64 a1] h (.tuple #[.agg (tabI .u8 r.1 10).toArray, .int .i64 r.2]) := by
 unfold m_spec_BackPlaces at hm
 refine CC.enter Try.func9 rfl Try.ntmps9 rfl ?_
 refine wpA_seq ?_
 refine wpA_region ?_
 refine Ops_loud rfl (LO.boxAgg rfl rfl rfl (fun b1 hb1 => ?_))
 refine Ops_loud rfl (LO.alloc rfl zr25 rfl (fun b2 hb2 => ?_))
 simp only [upd_noneA] at hb2
 obtain ⟨n_b2_b1, hb2⟩ := hb2
 refine Ops_quiet _ rfl rfl (QO.assign rfl rfl) ?_
 refine Ops_nil ?_
 refine thenA_n ?_
 refine wpA_seq ?_
 refine wpA_seq ?_
 refine wpA_region ?_
 refine Ops_quiet _ rfl rfl (QO.loadRow (cs := tabI .u8 a0 10) (hr := (rdAll ((upd_ne _ _ n_b2_b1.ne.symm).trans (upd_same _ _ _)))) rfl sz25 rfl rfl (tabI_length _ _ _)) ?_
 refine Ops_quiet _ rfl rfl (QO.move rfl rfl) ?_
 have hq := Option.bind_eq_some_iff.1 hm; clear hm; obtain ⟨r1, hr1, hm⟩ := hq
 refine Ops_call _ _ rfl rfl (EO.fn rfl Try.func31 rfl rfl (Evs.cons rfl (Evs.cons rfl Evs.nil))) (QC.cc (c_spec_l01Perm hr1 ) ?_)
 refine Ops_quiet _ rfl rfl (QO.not rfl rfl) ?_
 refine Ops_nil ?_
 refine thenA_n ?_
 refine wpA_cond rfl (fun g1 => ?_) (fun g1 => ?_)
 ·replace hm := cond_t hm g1
  refine wpA_seq ?_
  refine wpA_region ?_
  refine Ops_quiet _ rfl rfl (QO.build0 rfl bd25) ?_
  refine Ops_loud rfl (LO.storeAll (cs := tabI .u8 pl0 10) rfl sz25 rfl rfl (tabI_one _ _ _) (tabI_length _ _ _) (upd_same _ _ _) (tabI_length _ _ _) Chg.here rfl ?_)
  refine Ops_quiet _ rfl rfl (QO.assign rfl rfl) ?_
  refine Ops_nil ?_
  refine thenA_n ?_
  refine wpA_ret ?_
  refine thenA_r ?_
  obtain rfl := Option.some.inj hm
  exact retA_r (h2 := h) (Res.two rfl (res1.row (cs := tabI .u8 pl0 10) (hr := (rdAll (upd_same _ _ _))) sz25 rfl rfl (tabI_length _ _ _)) (rfl)) (Le.under (Le.under (Le.refl _) hb1) hb2) ⟨rfl, rfl⟩
 ·replace hm := cond_f hm g1
  refine wpA_skip ?_
  refine thenA_n ?_
  refine wpA_seq ?_
  refine wpA_region ?_
  refine Ops_quiet _ rfl rfl (QO.loadRow (cs := tabI .u8 a0 10) (hr := (rdAll ((upd_ne _ _ n_b2_b1.ne.symm).trans (upd_same _ _ _)))) rfl sz25 rfl rfl (tabI_length _ _ _)) ?_
  refine Ops_quiet _ rfl rfl (QO.move rfl rfl) ?_
  have hq := Option.bind_eq_some_iff.1 hm; clear hm; obtain ⟨r2, hr2, hm⟩ := hq
  refine Ops_call _ _ rfl rfl (EO.fn rfl Try.func34 rfl rfl (Evs.cons rfl (Evs.cons rfl Evs.nil))) (QC.cc (c_spec_l01Back hr2 ) ?_)
  refine Ops_loud rfl (LO.storeAll (cs := tabI .u8 r2 10) rfl sz25 rfl rfl (tabI_one _ _ _) (tabI_length _ _ _) (upd_same _ _ _) (tabI_length _ _ _) Chg.here rfl ?_)
  refine Ops_quiet _ rfl rfl (QO.assign rfl rfl) ?_
  refine Ops_nil ?_
  refine thenA_n ?_
  refine wpA_ret ?_
  obtain rfl := Option.some.inj hm
  exact retA_r (h2 := h) (Res.two rfl (res1.row (cs := tabI .u8 r2 10) (hr := (rdAll (upd_same _ _ _))) sz25 rfl rfl (tabI_length _ _ _)) (rfl)) (Le.under (Le.under (Le.refl _) hb1) hb2) ⟨rfl, rfl⟩

/-! loop.example/g01195/impl.sign -/
theorem c_impl_sign {a0 : (Nat → Int)} {a1 : Int} {h : Hp} {r : Int} (hm : m_impl_sign a0 a1 = some r)  :
    QC Try.prog 35 #[.agg (tabI .u8 a0 10).toArray, .int .i64 a1] h (.int .i64 r) := by
 unfold m_impl_sign at hm
 refine CC.enter Try.func35 rfl Try.ntmps35 rfl ?_
 refine wpA_seq ?_
 refine wpA_region ?_
 refine Ops_loud rfl (LO.boxAgg rfl rfl rfl (fun b1 hb1 => ?_))
 refine Ops_quiet _ rfl rfl (QO.assign rfl rfl) ?_
 refine Ops_nil ?_
 refine thenA_n ?_
 refine wpA_seq ?_
 refine wpA_region ?_
 refine Ops_quiet _ rfl rfl (QO.assign rfl rfl) ?_
 refine Ops_nil ?_
 refine thenA_n ?_
 refine wpA_seq ?_
 refine wpA_seq ?_
 refine wpA_region ?_
 refine Ops_quiet _ rfl rfl (QO.move rfl rfl) ?_
 refine Ops_quiet _ rfl rfl (QO.move rfl rfl) ?_
 refine Ops_nil ?_
 refine thenA_n ?_
 refine wpA_block ?_
 obtain ⟨R1, hR, hm⟩ := Option.bind_eq_some_iff.1 hm
 obtain ⟨k1, hk1⟩ := loopV_some hR
 clear hR
 refine wpA_mono (Q := fun e s' h' => match (generalizing := false) R1 with | .stop x id => e = .exit id ∧ ∃ (x1 : Int) (x2 : Int), x = (x1, x2) ∧ Sub s' [(2, .pointer (some ⟨b1, 0, none⟩)), (5, .int .i64 x1), (8, .int .i64 a1), (9, .int .i64 x2)] ∧ Le (upd (h) b1 (.own 25 (tabI .u8 a0 10) 10)) h' | .ret r => False | .next _ => False) ?_ ?_
 ·refine wpA_loop (fun k s' h' => ∃ (x1 : Int) (x2 : Int), loopW (m_impl_sign_l0 a0 a1) k (x1, x2) = some R1 ∧ Sub s' [(2, .pointer (some ⟨b1, 0, none⟩)), (5, .int .i64 x1), (8, .int .i64 a1), (9, .int .i64 x2)] ∧ Le (upd (h) b1 (.own 25 (tabI .u8 a0 10) 10)) h') (m := k1) ⟨1, 0, hk1, (Sub.cons rfl (Sub.cons rfl (Sub.cons rfl (Sub.cons rfl Sub.nil)))), (Le.upd_left (Le.under (Le.refl _) hb1) (upd_same _ _ _) (by first | rfl | (simp; done)))⟩ ?_
  rintro k1 s' h' ⟨x1, x2, hk1, hsub, hle⟩
  refine wpA_weaken hsub.ok hle ?_
  clear hsub hle s' h'
  cases k1 with
  | zero => exact absurd hk1 (by simp [loopW])
  | succ k1 =>
   obtain ⟨o1, ho1, hk1⟩ := loopW_succ hk1
   unfold m_impl_sign_l0 at ho1
   try dsimp only at ho1
   refine wpA_seq ?_
   refine wpA_region ?_
   refine Ops_quiet _ rfl rfl (QO.bin rfl rfl rfl rfl) ?_
   refine Ops_nil ?_
   refine thenA_n ?_
   refine wpA_seq ?_
   refine wpA_cond rfl (fun g1 => ?_) (fun g1 => ?_)
   ·replace ho1 := cond_t ho1 g1
    refine wpA_skip ?_
    refine thenA_n ?_
    refine wpA_seq ?_
    refine wpA_block ?_
    refine wpA_seq ?_
    refine wpA_region ?_
    refine Ops_quiet _ rfl rfl (QO.move rfl rfl) ?_
    refine Ops_quiet _ rfl rfl (QO.assign rfl rfl) ?_
    refine Ops_nil ?_
    refine thenA_n ?_
    refine wpA_seq ?_
    refine wpA_region ?_
    refine Ops_quiet _ rfl rfl (QO.move rfl rfl) ?_
    refine Ops_quiet _ rfl rfl (QO.move rfl rfl) ?_
    refine Ops_nil ?_
    refine thenA_n ?_
    refine wpA_block ?_
    obtain ⟨R2, hR, ho1⟩ := Option.bind_eq_some_iff.1 ho1
    obtain ⟨k2, hk2⟩ := loopV_some hR
    clear hR
    refine wpA_mono (Q := fun e s' h' => match (generalizing := false) R2 with | .stop x id => e = .exit id ∧ ∃ (x3 : Int) (x4 : Int), x = (x3, x4) ∧ Sub s' [(2, .pointer (some ⟨b1, 0, none⟩)), (5, .int .i64 x3), (6, .int .i64 x2), (8, .int .i64 a1), (9, .int .i64 x2), (12, .int .i64 x2), (13, .int .i64 x4)] ∧ Le (upd (h) b1 (.own 25 (tabI .u8 a0 10) 10)) h' | .ret r => False | .next _ => False) ?_ ?_
    ·refine wpA_loop (fun k s' h' => ∃ (x3 : Int) (x4 : Int), loopW (m_impl_sign_l1 a0 x2) k (x3, x4) = some R2 ∧ Sub s' [(2, .pointer (some ⟨b1, 0, none⟩)), (5, .int .i64 x3), (6, .int .i64 x2), (8, .int .i64 a1), (9, .int .i64 x2), (12, .int .i64 x2), (13, .int .i64 x4)] ∧ Le (upd (h) b1 (.own 25 (tabI .u8 a0 10) 10)) h') (m := k2) ⟨x1, 0, hk2, (Sub.cons rfl (Sub.cons rfl (Sub.cons rfl (Sub.cons rfl (Sub.cons rfl (Sub.cons rfl (Sub.cons rfl Sub.nil))))))), (Le.upd_left (Le.under (Le.refl _) hb1) (upd_same _ _ _) (by first | rfl | (simp; done)))⟩ ?_
     rintro k2 s' h' ⟨x3, x4, hk2, hsub, hle⟩
     refine wpA_weaken hsub.ok hle ?_
     clear hsub hle s' h'
     cases k2 with
     | zero => exact absurd hk2 (by simp [loopW])
     | succ k2 =>
      obtain ⟨o2, ho2, hk2⟩ := loopW_succ hk2
      unfold m_impl_sign_l1 at ho2
      try dsimp only at ho2
      refine wpA_seq ?_
      refine wpA_region ?_
      refine Ops_quiet _ rfl rfl (QO.bin rfl rfl rfl rfl) ?_
      refine Ops_nil ?_
      refine thenA_n ?_
      refine wpA_seq ?_
      refine wpA_cond rfl (fun g2 => ?_) (fun g2 => ?_)
      ·replace ho2 := cond_t ho2 g2
       refine wpA_skip ?_
       refine thenA_n ?_
       refine wpA_seq ?_
       refine wpA_block ?_
       refine wpA_seq ?_
       refine wpA_region ?_
       refine Ops_quiet _ rfl rfl (QO.move rfl rfl) ?_
       refine Ops_quiet _ rfl rfl (QO.assign rfl rfl) ?_
       refine Ops_nil ?_
       refine thenA_n ?_
       refine wpA_seq ?_
       refine wpA_drawn (by kernel_rfl) (by kernel_rfl) ?_
       refine QOps.quiet _ rfl rfl (QO.move rfl rfl) ?_
       have hq := chk ho2; clear ho2; obtain ⟨ck1, ho2⟩ := hq
       refine QOps.quiet _ rfl rfl (QO.idxArr rfl sz25 sz5 rfl rfl (by omega) (by omega)) ?_
       refine QOps.quiet _ rfl rfl (QO.load rfl sz5 rfl rfl (by (refine (rd_own (upd_same _ _ _) _).trans ?_); exact tabI_get01 (by omega))) ?_
       refine QOps.quiet _ rfl rfl (QO.move rfl rfl) ?_
       have hq := chk ho2; clear ho2; obtain ⟨ck2, ho2⟩ := hq
       refine QOps.quiet _ rfl rfl (QO.idxArr rfl sz25 sz5 rfl rfl (by omega) (by omega)) ?_
       refine QOps.quiet _ rfl rfl (QO.load rfl sz5 rfl rfl (by (refine (rd_own (upd_same _ _ _) _).trans ?_); exact tabI_get01 (by omega))) ?_
       refine QOps.quiet _ rfl rfl (QO.bin rfl rfl rfl rfl) ?_
       refine QOps.nil ?_
       refine thenA_n ?_
       refine wpA_cond rfl (fun g3 => ?_) (fun g3 => ?_)
       ·replace ho2 := cond_t ho2 g3
        refine wpA_region ?_
        refine Ops_quiet _ rfl rfl (QO.move rfl rfl) ?_
        refine Ops_quiet _ rfl rfl (QO.neg rfl rfl) ?_
        refine Ops_quiet _ rfl rfl (QO.assign rfl rfl) ?_
        refine Ops_nil ?_
        refine blockA_n ?_
        refine thenA_n ?_
        refine wpA_region ?_
        refine Ops_quiet _ rfl rfl (QO.bin rfl rfl rfl rfl) ?_
        refine Ops_quiet _ rfl rfl (QO.move rfl rfl) ?_
        refine Ops_nil ?_
        obtain rfl := Option.some.inj ho2
        dsimp only at hk2
        exact thenA_n ⟨k2, Nat.lt_succ_self _, _, _, hk2, (Sub.cons rfl (Sub.cons rfl (Sub.cons rfl (Sub.cons rfl (Sub.cons rfl (Sub.cons rfl (Sub.cons rfl Sub.nil))))))), (Le.upd_left (Le.under (Le.refl _) hb1) (upd_same _ _ _) (by first | rfl | (simp; done)))⟩
       ·replace ho2 := cond_f ho2 g3
        refine wpA_skip ?_
        refine blockA_n ?_
        refine thenA_n ?_
        refine wpA_region ?_
        refine Ops_quiet _ rfl rfl (QO.bin rfl rfl rfl rfl) ?_
        refine Ops_quiet _ rfl rfl (QO.move rfl rfl) ?_
        refine Ops_nil ?_
        obtain rfl := Option.some.inj ho2
        dsimp only at hk2
        exact thenA_n ⟨k2, Nat.lt_succ_self _, _, _, hk2, (Sub.cons rfl (Sub.cons rfl (Sub.cons rfl (Sub.cons rfl (Sub.cons rfl (Sub.cons rfl (Sub.cons rfl Sub.nil))))))), (Le.upd_left (Le.under (Le.refl _) hb1) (upd_same _ _ _) (by first | rfl | (simp; done)))⟩
      ·replace ho2 := cond_f ho2 g2
       refine wpA_exit ?_
       refine thenA_e ?_
       refine thenA_e ?_
       obtain rfl := Option.some.inj ho2
       obtain rfl := Option.some.inj hk2
       exact ⟨rfl, _, _, rfl, (Sub.cons rfl (Sub.cons rfl (Sub.cons rfl (Sub.cons rfl (Sub.cons rfl (Sub.cons rfl (Sub.cons rfl Sub.nil))))))), (Le.upd_left (Le.under (Le.refl _) hb1) (upd_same _ _ _) (by first | rfl | (simp; done)))⟩
    ·intro e s' h' hq
     cases R2 with
     | next x => exact hq.elim
     | ret r => exact hq.elim
     | stop x id =>
      obtain ⟨rfl, x5, x6, rfl, hsub1, hle1⟩ := hq
      try dsimp only at ho1
      by_cases hid1 : id = 2
      ·subst hid1
       rw [if_pos rfl] at ho1
       refine blockA_s ?_
       refine blockA_n ?_
       refine thenA_n ?_
       refine wpA_weaken hsub1.ok hle1 ?_
       refine wpA_region ?_
       refine Ops_quiet _ rfl rfl (QO.bin rfl rfl rfl rfl) ?_
       refine Ops_quiet _ rfl rfl (QO.move rfl rfl) ?_
       refine Ops_nil ?_
       obtain rfl := Option.some.inj ho1
       dsimp only at hk1
       exact thenA_n ⟨k1, Nat.lt_succ_self _, _, _, hk1, (Sub.cons rfl (Sub.cons rfl (Sub.cons rfl (Sub.cons rfl Sub.nil)))), (Le.upd_left (Le.under (Le.refl _) hb1) (upd_same _ _ _) (by first | rfl | (simp; done)))⟩
      rw [if_neg hid1] at ho1
      exact absurd ho1 (by simp)
   ·replace ho1 := cond_f ho1 g1
    refine wpA_exit ?_
    refine thenA_e ?_
    refine thenA_e ?_
    obtain rfl := Option.some.inj ho1
    obtain rfl := Option.some.inj hk1
    exact ⟨rfl, _, _, rfl, (Sub.cons rfl (Sub.cons rfl (Sub.cons rfl (Sub.cons rfl Sub.nil)))), (Le.upd_left (Le.under (Le.refl _) hb1) (upd_same _ _ _) (by first | rfl | (simp; done)))⟩
 ·intro e s' h' hq
  cases R1 with
  | next x => exact hq.elim
  | ret r => exact hq.elim
  | stop x id =>
   obtain ⟨rfl, x7, x8, rfl, hsub2, hle2⟩ := hq
   try dsimp only at hm
   by_cases hid2 : id = 0
   ·subst hid2
    rw [if_pos rfl] at hm
    refine blockA_s ?_
    refine thenA_n ?_
    refine wpA_weaken hsub2.ok hle2 ?_
    refine wpA_seq ?_
    refine wpA_region ?_
    refine Ops_quiet _ rfl rfl (QO.move rfl rfl) ?_
    refine Ops_quiet _ rfl rfl (QO.assign rfl rfl) ?_
    refine Ops_nil ?_
    refine thenA_n ?_
    refine wpA_ret ?_
    obtain rfl := Option.some.inj hm
    exact retA_r (h2 := h) (Res.one rfl (rfl)) (Le.under (Le.refl _) hb1) ⟨rfl, rfl⟩
   rw [if_neg hid2] at hm
   exact absurd hm (by simp)

/-! loop.example/g01195/impl.SignOfPlaces -/
theorem c_impl_SignOfPlaces {a0 : (Nat → Int)} {a1 : Int} {h : Hp} {r : Int × Int} (hm : m_impl_SignOfPlaces a0 a1 = some r)  :
    QC Try.prog 10 #[.agg (tabI .u8 a0 10).toArray, .int .i64 a1] h (.tuple #[.int .i64 r.1, .int .i64 r.2]) := by
 unfold m_impl_SignOfPlaces at hm
 refine CC.enter Try.func10 rfl Try.ntmps10 rfl ?_
 refine wpA_seq ?_
 refine wpA_region ?_
 refine Ops_loud rfl (LO.boxAgg rfl rfl rfl (fun b1 hb1 => ?_))
 refine Ops_quiet _ rfl rfl (QO.assign rfl rfl) ?_
 refine Ops_quiet _ rfl rfl (QO.assign rfl rfl) ?_
 refine Ops_nil ?_
 refine thenA_n ?_
 refine wpA_seq ?_
 refine wpA_seq ?_
 refine wpA_region ?_
 refine Ops_quiet _ rfl rfl (QO.move rfl rfl) ?_
 refine Ops_quiet _ rfl rfl (QO.loadRow (cs := tabI .u8 a0 10) (hr := (rdAll (upd_same _ _ _))) rfl sz25 rfl rfl (tabI_length _ _ _)) ?_
 refine Ops_loud rfl (LO.slice1 (r := plsC [a0]) rfl sz68 sz25 zr25 (by first | rfl | (simp [sqC_length, tbC_length, tabI_length, tabB_length, ints_length, plsC_length, trC_length, sqsC_length, strsC_length, boolsC_length, tbB_length, List.length_append, List.length_cons, List.length_nil, List.length_set, List.length_replicate, rep_length]; done)) (by decide) (by decide) rfl (by simp [plsC, sqsC, Value.cells]) (by first | rfl | (simp [sqC_length, tbC_length, tabI_length, tabB_length, ints_length, plsC_length, trC_length, sqsC_length, strsC_length, boolsC_length, tbB_length, List.length_append, List.length_cons, List.length_nil, List.length_set, List.length_replicate, rep_length]; done)) rfl (fun b2 hb2 => ?_))
 simp only [upd_noneA] at hb2
 obtain ⟨n_b2_b1, hb2⟩ := hb2
 have hq := Option.bind_eq_some_iff.1 hm; clear hm; obtain ⟨r1, hr1, hm⟩ := hq
 refine Ops_call _ _ rfl rfl (EO.fn rfl Try.func29 rfl rfl (Evs.cons rfl (Evs.cons rfl Evs.nil))) (QC.cc (c_impl_arePermutations (l1 := [a0]) (A1 := some ⟨b2, 0, none⟩) (c1 := 1) hr1 (RdS.own (upd_same _ _ _))) ?_)
 refine Ops_quiet _ rfl rfl (QO.not rfl rfl) ?_
 refine Ops_nil ?_
 refine thenA_n ?_
 refine wpA_cond rfl (fun g1 => ?_) (fun g1 => ?_)
 ·replace hm := cond_t hm g1
  refine wpA_seq ?_
  refine wpA_region ?_
  refine Ops_quiet _ rfl rfl (QO.assign rfl rfl) ?_
  refine Ops_quiet _ rfl rfl (QO.assign rfl rfl) ?_
  refine Ops_nil ?_
  refine thenA_n ?_
  refine wpA_ret ?_
  refine thenA_r ?_
  obtain rfl := Option.some.inj hm
  exact retA_r (h2 := h) (Res.two rfl (rfl) (rfl)) (Le.under (Le.under (Le.refl _) hb1) hb2) ⟨rfl, rfl⟩
 ·replace hm := cond_f hm g1
  refine wpA_skip ?_
  refine thenA_n ?_
  refine wpA_seq ?_
  refine wpA_region ?_
  refine Ops_quiet _ rfl rfl (QO.loadRow (cs := tabI .u8 a0 10) (hr := (rdAll ((upd_ne _ _ n_b2_b1.ne.symm).trans (upd_same _ _ _)))) rfl sz25 rfl rfl (tabI_length _ _ _)) ?_
  refine Ops_quiet _ rfl rfl (QO.move rfl rfl) ?_
  have hq := Option.bind_eq_some_iff.1 hm; clear hm; obtain ⟨r2, hr2, hm⟩ := hq
  refine Ops_call _ _ rfl rfl (EO.fn rfl Try.func35 rfl rfl (Evs.cons rfl (Evs.cons rfl Evs.nil))) (QC.cc (c_impl_sign hr2 ) ?_)
  refine Ops_quiet _ rfl rfl (QO.assign rfl rfl) ?_
  refine Ops_quiet _ rfl rfl (QO.assign rfl rfl) ?_
  refine Ops_nil ?_
  refine thenA_n ?_
  refine wpA_ret ?_
  obtain rfl := Option.some.inj hm
  exact retA_r (h2 := h) (Res.two rfl (rfl) (rfl)) (Le.under (Le.under (Le.refl _) hb1) hb2) ⟨rfl, rfl⟩

/-! loop.example/g01195/spec.SignOfPlaces -/
theorem c_spec_SignOfPlaces {a0 : (Nat → Int)} {a1 : Int} {h : Hp} {r : Int × Int} (hm : m_spec_SignOfPlaces a0 a1 = some r)  :
    QC Try.prog 11 #[.agg (tabI .u8 a0 10).toArray, .int .i64 a1] h (.tuple #[.int .i64 r.1, .int .i64 r.2]) := by
 unfold m_spec_SignOfPlaces at hm
 refine CC.enter Try.func11 rfl Try.ntmps11 rfl ?_
 refine wpA_seq ?_
 refine wpA_region ?_
 refine Ops_loud rfl (LO.boxAgg rfl rfl rfl (fun b1 hb1 => ?_))
 refine Ops_quiet _ rfl rfl (QO.assign rfl rfl) ?_
 refine Ops_quiet _ rfl rfl (QO.assign rfl rfl) ?_
 refine Ops_nil ?_
 refine thenA_n ?_
 refine wpA_seq ?_
 refine wpA_seq ?_
 refine wpA_region ?_
 refine Ops_quiet _ rfl rfl (QO.loadRow (cs := tabI .u8 a0 10) (hr := (rdAll (upd_same _ _ _))) rfl sz25 rfl rfl (tabI_length _ _ _)) ?_
 refine Ops_quiet _ rfl rfl (QO.move rfl rfl) ?_
 have hq := Option.bind_eq_some_iff.1 hm; clear hm; obtain ⟨r1, hr1, hm⟩ := hq
 refine Ops_call _ _ rfl rfl (EO.fn rfl Try.func31 rfl rfl (Evs.cons rfl (Evs.cons rfl Evs.nil))) (QC.cc (c_spec_l01Perm hr1 ) ?_)
 refine Ops_quiet _ rfl rfl (QO.not rfl rfl) ?_
 refine Ops_nil ?_
 refine thenA_n ?_
 refine wpA_cond rfl (fun g1 => ?_) (fun g1 => ?_)
 ·replace hm := cond_t hm g1
  refine wpA_seq ?_
  refine wpA_region ?_
  refine Ops_quiet _ rfl rfl (QO.assign rfl rfl) ?_
  refine Ops_quiet _ rfl rfl (QO.assign rfl rfl) ?_
  refine Ops_nil ?_
  refine thenA_n ?_
  refine wpA_ret ?_
  refine thenA_r ?_
  obtain rfl := Option.some.inj hm
  exact retA_r (h2 := h) (Res.two rfl (rfl) (rfl)) (Le.under (Le.refl _) hb1) ⟨rfl, rfl⟩
 ·replace hm := cond_f hm g1
  refine wpA_skip ?_
  refine thenA_n ?_
  refine wpA_seq ?_
  refine wpA_region ?_
  refine Ops_quiet _ rfl rfl (QO.assign rfl rfl) ?_
  refine Ops_nil ?_
  refine thenA_n ?_
  refine wpA_seq ?_
  refine wpA_seq ?_
  refine wpA_region ?_
  refine Ops_quiet _ rfl rfl (QO.assign rfl rfl) ?_
  refine Ops_nil ?_
  refine thenA_n ?_
  refine wpA_block ?_
  obtain ⟨R1, hR, hm⟩ := Option.bind_eq_some_iff.1 hm
  obtain ⟨k1, hk1⟩ := loopV_some hR
  clear hR
  refine wpA_mono (Q := fun e s' h' => match (generalizing := false) R1 with | .stop x id => e = .exit id ∧ ∃ (x1 : Int) (x2 : Int), x = (x1, x2) ∧ Sub s' [(1, .int .i64 a1), (2, .pointer (some ⟨b1, 0, none⟩)), (6, .int .i64 x1), (7, .int .i64 x2)] ∧ Le (upd (h) b1 (.own 25 (tabI .u8 a0 10) 10)) h' | .ret r => False | .next _ => False) ?_ ?_
  ·refine wpA_loop (fun k s' h' => ∃ (x1 : Int) (x2 : Int), loopW (m_spec_SignOfPlaces_l0 a0 a1) k (x1, x2) = some R1 ∧ Sub s' [(1, .int .i64 a1), (2, .pointer (some ⟨b1, 0, none⟩)), (6, .int .i64 x1), (7, .int .i64 x2)] ∧ Le (upd (h) b1 (.own 25 (tabI .u8 a0 10) 10)) h') (m := k1) ⟨1, 0, hk1, (Sub.cons rfl (Sub.cons rfl (Sub.cons rfl (Sub.cons rfl Sub.nil)))), (Le.upd_left (Le.under (Le.refl _) hb1) (upd_same _ _ _) (by first | rfl | (simp; done)))⟩ ?_
   rintro k1 s' h' ⟨x1, x2, hk1, hsub, hle⟩
   refine wpA_weaken hsub.ok hle ?_
   clear hsub hle s' h'
   cases k1 with
   | zero => exact absurd hk1 (by simp [loopW])
   | succ k1 =>
    obtain ⟨o1, ho1, hk1⟩ := loopW_succ hk1
    unfold m_spec_SignOfPlaces_l0 at ho1
    try dsimp only at ho1
    refine wpA_seq ?_
    refine wpA_seq ?_
    refine wpA_region ?_
    refine Ops_quiet _ rfl rfl (QO.move rfl rfl) ?_
    refine Ops_quiet _ rfl rfl (QO.move rfl rfl) ?_
    refine Ops_quiet _ rfl rfl (QO.bin rfl rfl rfl rfl) ?_
    refine Ops_nil ?_
    refine thenA_n ?_
    refine wpA_cond rfl (fun g2 => ?_) (fun g2 => ?_)
    ·replace ho1 := cond_t ho1 g2
     refine wpA_skip ?_
     refine thenA_n ?_
     refine wpA_seq ?_
     refine wpA_block ?_
     refine wpA_seq ?_
     refine wpA_region ?_
     refine Ops_quiet _ rfl rfl (QO.assign rfl rfl) ?_
     refine Ops_nil ?_
     refine thenA_n ?_
     refine wpA_block ?_
     obtain ⟨R2, hR, ho1⟩ := Option.bind_eq_some_iff.1 ho1
     obtain ⟨k2, hk2⟩ := loopV_some hR
     clear hR
     refine wpA_mono (Q := fun e s' h' => match (generalizing := false) R2 with | .stop x id => e = .exit id ∧ ∃ (x3 : Int) (x4 : Int), x = (x3, x4) ∧ Sub s' [(1, .int .i64 a1), (2, .pointer (some ⟨b1, 0, none⟩)), (6, .int .i64 x3), (7, .int .i64 x2), (8, .int .i64 x4)] ∧ Le (upd (h) b1 (.own 25 (tabI .u8 a0 10) 10)) h' | .ret r => False | .next _ => False) ?_ ?_
     ·refine wpA_loop (fun k s' h' => ∃ (x3 : Int) (x4 : Int), loopW (m_spec_SignOfPlaces_l1 a0 x2) k (x3, x4) = some R2 ∧ Sub s' [(1, .int .i64 a1), (2, .pointer (some ⟨b1, 0, none⟩)), (6, .int .i64 x3), (7, .int .i64 x2), (8, .int .i64 x4)] ∧ Le (upd (h) b1 (.own 25 (tabI .u8 a0 10) 10)) h') (m := k2) ⟨x1, 0, hk2, (Sub.cons rfl (Sub.cons rfl (Sub.cons rfl (Sub.cons rfl (Sub.cons rfl Sub.nil))))), (Le.upd_left (Le.under (Le.refl _) hb1) (upd_same _ _ _) (by first | rfl | (simp; done)))⟩ ?_
      rintro k2 s' h' ⟨x3, x4, hk2, hsub, hle⟩
      refine wpA_weaken hsub.ok hle ?_
      clear hsub hle s' h'
      cases k2 with
      | zero => exact absurd hk2 (by simp [loopW])
      | succ k2 =>
       obtain ⟨o2, ho2, hk2⟩ := loopW_succ hk2
       unfold m_spec_SignOfPlaces_l1 at ho2
       try dsimp only at ho2
       refine wpA_seq ?_
       refine wpA_seq ?_
       refine wpA_region ?_
       refine Ops_quiet _ rfl rfl (QO.move rfl rfl) ?_
       refine Ops_quiet _ rfl rfl (QO.move rfl rfl) ?_
       refine Ops_quiet _ rfl rfl (QO.bin rfl rfl rfl rfl) ?_
       refine Ops_nil ?_
       refine thenA_n ?_
       refine wpA_cond rfl (fun g3 => ?_) (fun g3 => ?_)
       ·replace ho2 := cond_t ho2 g3
        refine wpA_skip ?_
        refine thenA_n ?_
        refine wpA_seq ?_
        refine wpA_block ?_
        refine wpA_seq ?_
        refine wpA_drawn (by kernel_rfl) (by kernel_rfl) ?_
        refine QOps.quiet _ rfl rfl (QO.move rfl rfl) ?_
        have hq := chk ho2; clear ho2; obtain ⟨ck1, ho2⟩ := hq
        refine QOps.quiet _ rfl rfl (QO.idxArr rfl sz25 sz5 rfl rfl (by omega) (by omega)) ?_
        refine QOps.quiet _ rfl rfl (QO.load rfl sz5 rfl rfl (by (refine (rd_own (upd_same _ _ _) _).trans ?_); exact tabI_get01 (by omega))) ?_
        refine QOps.quiet _ rfl rfl (QO.move rfl rfl) ?_
        have hq := chk ho2; clear ho2; obtain ⟨ck2, ho2⟩ := hq
        refine QOps.quiet _ rfl rfl (QO.idxArr rfl sz25 sz5 rfl rfl (by omega) (by omega)) ?_
        refine QOps.quiet _ rfl rfl (QO.load rfl sz5 rfl rfl (by (refine (rd_own (upd_same _ _ _) _).trans ?_); exact tabI_get01 (by omega))) ?_
        refine QOps.quiet _ rfl rfl (QO.bin rfl rfl rfl rfl) ?_
        refine QOps.nil ?_
        refine thenA_n ?_
        refine wpA_cond rfl (fun g4 => ?_) (fun g4 => ?_)
        ·replace ho2 := cond_t ho2 g4
         refine wpA_region ?_
         refine Ops_quiet _ rfl rfl (QO.move rfl rfl) ?_
         refine Ops_quiet _ rfl rfl (QO.neg rfl rfl) ?_
         refine Ops_quiet _ rfl rfl (QO.assign rfl rfl) ?_
         refine Ops_nil ?_
         refine blockA_n ?_
         refine thenA_n ?_
         refine wpA_region ?_
         refine Ops_quiet _ rfl rfl (QO.move rfl rfl) ?_
         refine Ops_quiet _ rfl rfl (QO.bin rfl rfl rfl rfl) ?_
         refine Ops_quiet _ rfl rfl (QO.assign rfl rfl) ?_
         refine Ops_nil ?_
         obtain rfl := Option.some.inj ho2
         dsimp only at hk2
         exact thenA_n ⟨k2, Nat.lt_succ_self _, _, _, hk2, (Sub.cons rfl (Sub.cons rfl (Sub.cons rfl (Sub.cons rfl (Sub.cons rfl Sub.nil))))), (Le.upd_left (Le.under (Le.refl _) hb1) (upd_same _ _ _) (by first | rfl | (simp; done)))⟩
        ·replace ho2 := cond_f ho2 g4
         refine wpA_skip ?_
         refine blockA_n ?_
         refine thenA_n ?_
         refine wpA_region ?_
         refine Ops_quiet _ rfl rfl (QO.move rfl rfl) ?_
         refine Ops_quiet _ rfl rfl (QO.bin rfl rfl rfl rfl) ?_
         refine Ops_quiet _ rfl rfl (QO.assign rfl rfl) ?_
         refine Ops_nil ?_
         obtain rfl := Option.some.inj ho2
         dsimp only at hk2
         exact thenA_n ⟨k2, Nat.lt_succ_self _, _, _, hk2, (Sub.cons rfl (Sub.cons rfl (Sub.cons rfl (Sub.cons rfl (Sub.cons rfl Sub.nil))))), (Le.upd_left (Le.under (Le.refl _) hb1) (upd_same _ _ _) (by first | rfl | (simp; done)))⟩
       ·replace ho2 := cond_f ho2 g3
        refine wpA_exit ?_
        refine thenA_e ?_
        refine thenA_e ?_
        obtain rfl := Option.some.inj ho2
        obtain rfl := Option.some.inj hk2
        exact ⟨rfl, _, _, rfl, (Sub.cons rfl (Sub.cons rfl (Sub.cons rfl (Sub.cons rfl (Sub.cons rfl Sub.nil))))), (Le.upd_left (Le.under (Le.refl _) hb1) (upd_same _ _ _) (by first | rfl | (simp; done)))⟩
     ·intro e s' h' hq
      cases R2 with
      | next x => exact hq.elim
      | ret r => exact hq.elim
      | stop x id =>
       obtain ⟨rfl, x5, x6, rfl, hsub1, hle1⟩ := hq
       try dsimp only at ho1
       by_cases hid1 : id = 2
       ·subst hid1
        rw [if_pos rfl] at ho1
        refine blockA_s ?_
        refine blockA_n ?_
        refine thenA_n ?_
        refine wpA_weaken hsub1.ok hle1 ?_
        refine wpA_region ?_
        refine Ops_quiet _ rfl rfl (QO.move rfl rfl) ?_
        refine Ops_quiet _ rfl rfl (QO.bin rfl rfl rfl rfl) ?_
        refine Ops_quiet _ rfl rfl (QO.assign rfl rfl) ?_
        refine Ops_nil ?_
        obtain rfl := Option.some.inj ho1
        dsimp only at hk1
        exact thenA_n ⟨k1, Nat.lt_succ_self _, _, _, hk1, (Sub.cons rfl (Sub.cons rfl (Sub.cons rfl (Sub.cons rfl Sub.nil)))), (Le.upd_left (Le.under (Le.refl _) hb1) (upd_same _ _ _) (by first | rfl | (simp; done)))⟩
       rw [if_neg hid1] at ho1
       exact absurd ho1 (by simp)
    ·replace ho1 := cond_f ho1 g2
     refine wpA_exit ?_
     refine thenA_e ?_
     refine thenA_e ?_
     obtain rfl := Option.some.inj ho1
     obtain rfl := Option.some.inj hk1
     exact ⟨rfl, _, _, rfl, (Sub.cons rfl (Sub.cons rfl (Sub.cons rfl (Sub.cons rfl Sub.nil)))), (Le.upd_left (Le.under (Le.refl _) hb1) (upd_same _ _ _) (by first | rfl | (simp; done)))⟩
  ·intro e s' h' hq
   cases R1 with
   | next x => exact hq.elim
   | ret r => exact hq.elim
   | stop x id =>
    obtain ⟨rfl, x7, x8, rfl, hsub2, hle2⟩ := hq
    try dsimp only at hm
    by_cases hid2 : id = 0
    ·subst hid2
     rw [if_pos rfl] at hm
     refine blockA_s ?_
     refine thenA_n ?_
     refine wpA_weaken hsub2.ok hle2 ?_
     refine wpA_seq ?_
     refine wpA_region ?_
     refine Ops_quiet _ rfl rfl (QO.move rfl rfl) ?_
     refine Ops_quiet _ rfl rfl (QO.assign rfl rfl) ?_
     refine Ops_quiet _ rfl rfl (QO.assign rfl rfl) ?_
     refine Ops_nil ?_
     refine thenA_n ?_
     refine wpA_ret ?_
     obtain rfl := Option.some.inj hm
     exact retA_r (h2 := h) (Res.two rfl (rfl) (rfl)) (Le.under (Le.refl _) hb1) ⟨rfl, rfl⟩
    rw [if_neg hid2] at hm
    exact absurd hm (by simp)

/-! loop.example/g01195/spec.IsPermutation -/
theorem c_spec_IsPermutation {a0 : (Nat → Int)} {a1 : Int} {h : Hp} {r : Bool} (hm : m_spec_IsPermutation a0 a1 = some r)  :
    QC Try.prog 13 #[.agg (tabI .u8 a0 10).toArray, .int .i64 a1] h (.bool r) := by
 unfold m_spec_IsPermutation at hm
 refine CC.enter Try.func13 rfl Try.ntmps13 rfl ?_
 refine wpA_seq ?_
 refine wpA_region ?_
 refine Ops_loud rfl (LO.boxAgg rfl rfl rfl (fun b1 hb1 => ?_))
 refine Ops_quiet _ rfl rfl (QO.assign rfl rfl) ?_
 refine Ops_nil ?_
 refine thenA_n ?_
 refine wpA_seq ?_
 refine wpA_region ?_
 refine Ops_quiet _ rfl rfl (QO.loadRow (cs := tabI .u8 a0 10) (hr := (rdAll (upd_same _ _ _))) rfl sz25 rfl rfl (tabI_length _ _ _)) ?_
 refine Ops_quiet _ rfl rfl (QO.move rfl rfl) ?_
 have hq := Option.bind_eq_some_iff.1 hm; clear hm; obtain ⟨r1, hr1, hm⟩ := hq
 refine Ops_call _ _ rfl rfl (EO.fn rfl Try.func31 rfl rfl (Evs.cons rfl (Evs.cons rfl Evs.nil))) (QC.cc (c_spec_l01Perm hr1 ) ?_)
 refine Ops_quiet _ rfl rfl (QO.assign rfl rfl) ?_
 refine Ops_nil ?_
 refine thenA_n ?_
 refine wpA_ret ?_
 obtain rfl := Option.some.inj hm
 exact retA_r (h2 := h) (Res.one rfl (rfl)) (Le.under (Le.refl _) hb1) ⟨rfl, rfl⟩

/-! loop.example/g01195/spec.l01Split -/
theorem c_spec_l01Split {a0 : ByteArray} {a1 : Int} {h : Hp} {r : (List ByteArray)} (hm : m_spec_l01Split a0 a1 = some r)  :
    CC Try.prog 69 #[.string a0, .int .u8 a1] h (NewSl 9 1 (strsC r) r.length h) := by
 unfold m_spec_l01Split at hm
 refine CC.enter Try.func69 rfl Try.ntmps69 rfl ?_
 refine wpA_seq ?_
 refine wpA_region ?_
 refine Ops_quiet _ rfl rfl (QO.assign rfl rfl) ?_
 refine Ops_nil ?_
 refine thenA_n ?_
 refine wpA_seq ?_
 refine wpA_region ?_
 refine Ops_loud rfl (LO.sliceNil rfl sz78 sz9 rfl (fun b1 hb1 => ?_))
 refine Ops_quiet _ rfl rfl (QO.assign rfl rfl) ?_
 refine Ops_nil ?_
 refine thenA_n ?_
 refine wpA_seq ?_
 refine wpA_region ?_
 refine Ops_quiet _ rfl rfl (QO.assign rfl rfl) ?_
 refine Ops_nil ?_
 refine thenA_n ?_
 refine wpA_seq ?_
 refine wpA_seq ?_
 refine wpA_region ?_
 refine Ops_quiet _ rfl rfl (QO.assign rfl rfl) ?_
 refine Ops_nil ?_
 refine thenA_n ?_
 refine wpA_block ?_
 obtain ⟨R1, hR, hm⟩ := Option.bind_eq_some_iff.1 hm
 obtain ⟨k1, hk1⟩ := loopV_some hR
 clear hR
 refine wpA_mono (Q := fun e s' h' => match (generalizing := false) R1 with | .stop x id => e = .exit id ∧ ∃ (x1 : (List ByteArray)) (x2 : Int) (x3 : Int) (b2 cap_b2 : Nat), x = (x1, x2, x3) ∧ (h) b2 = none ∧ x1.length ≤ cap_b2 ∧ cap_b2 ≤ maxLen ∧ Sub s' [(0, .string a0), (1, .int .u8 a1), (5, .slice (some ⟨b2, 0, none⟩) x1.length cap_b2), (6, .int .i64 x2), (7, .int .i64 x3)] ∧ Le (upd (h) b2 (.own 9 (strsC x1) (cap_b2 * 1))) h' | .ret r => False | .next _ => False) ?_ ?_
 ·refine wpA_loop (fun k s' h' => ∃ (x1 : (List ByteArray)) (x2 : Int) (x3 : Int) (b2 cap_b2 : Nat), loopW (m_spec_l01Split_l0 a0 a1) k (x1, x2, x3) = some R1 ∧ (h) b2 = none ∧ x1.length ≤ cap_b2 ∧ cap_b2 ≤ maxLen ∧ Sub s' [(0, .string a0), (1, .int .u8 a1), (5, .slice (some ⟨b2, 0, none⟩) x1.length cap_b2), (6, .int .i64 x2), (7, .int .i64 x3)] ∧ Le (upd (h) b2 (.own 9 (strsC x1) (cap_b2 * 1))) h') (m := k1) ⟨[], 0, 0, b1, 0, hk1, hb1, (by first | assumption | (simp; done) | omega), (by first | assumption | (simp only [maxLen]; omega)), (Sub.cons rfl (Sub.cons rfl (Sub.cons rfl (Sub.cons rfl (Sub.cons rfl Sub.nil))))), (Le.upd_left (Le.under (Le.refl _) hb1) (upd_same _ _ _) (by first | rfl | (simp; done)))⟩ ?_
  rintro k1 s' h' ⟨x1, x2, x3, b2, cap_b2, hk1, hb2, hk_b2, hc_b2, hsub, hle⟩
  refine wpA_weaken hsub.ok hle ?_
  clear hsub hle s' h'
  cases k1 with
  | zero => exact absurd hk1 (by simp [loopW])
  | succ k1 =>
   obtain ⟨o1, ho1, hk1⟩ := loopW_succ hk1
   unfold m_spec_l01Split_l0 at ho1
   try dsimp only at ho1
   refine wpA_seq ?_
   refine wpA_seq ?_
   refine wpA_region ?_
   refine Ops_quiet _ rfl rfl (QO.move rfl rfl) ?_
   refine Ops_quiet _ rfl rfl (QO.move rfl rfl) ?_
   refine Ops_quiet _ rfl rfl (QO.lenStr rfl sz9 rfl) ?_
   refine Ops_quiet _ rfl rfl (QO.bin rfl rfl rfl rfl) ?_
   refine Ops_nil ?_
   refine thenA_n ?_
   refine wpA_cond rfl (fun g1 => ?_) (fun g1 => ?_)
   ·replace ho1 := cond_t ho1 g1
    refine wpA_skip ?_
    refine thenA_n ?_
    refine wpA_seq ?_
    refine wpA_block ?_
    refine wpA_seq ?_
    refine wpA_region ?_
    refine Ops_quiet _ rfl rfl (QO.move rfl rfl) ?_
    refine Ops_quiet _ rfl rfl (QO.move rfl rfl) ?_
    have hq := chk ho1; clear ho1; obtain ⟨ck1, ho1⟩ := hq
    refine Ops_quiet _ rfl rfl (QO.idxStr rfl sz9 rfl rfl (by omega) (bt_some (by omega))) ?_
    refine Ops_quiet _ rfl rfl (QO.move rfl rfl) ?_
    refine Ops_quiet _ rfl rfl (QO.bin rfl rfl rfl rfl) ?_
    refine Ops_nil ?_
    refine thenA_n ?_
    refine wpA_cond rfl (fun g2 => ?_) (fun g2 => ?_)
    ·replace ho1 := cond_t ho1 g2
     refine wpA_seq ?_
     refine wpA_region ?_
     refine Ops_quiet _ rfl rfl (QO.move rfl rfl) ?_
     refine Ops_quiet _ rfl rfl (QO.move rfl rfl) ?_
     refine Ops_quiet _ rfl rfl (QO.move rfl rfl) ?_
     refine Ops_quiet _ rfl rfl (QO.move rfl rfl) ?_
     have hq := chk ho1; clear ho1; obtain ⟨ck2, ho1⟩ := hq
     refine Ops_quiet _ rfl rfl (QO.strSlice rfl sz9 rfl rfl rfl (by omega) (by omega) (by omega)) ?_
     refine Ops_loud rfl (LO.slice1 (r := strsC [(a0.extract (x2).toNat (x3).toNat)]) rfl sz78 sz9 zr9 (by first | rfl | (simp [sqC_length, tbC_length, tabI_length, tabB_length, ints_length, plsC_length, trC_length, sqsC_length, strsC_length, boolsC_length, tbB_length, List.length_append, List.length_cons, List.length_nil, List.length_set, List.length_replicate, rep_length]; done)) (by decide) (by decide) rfl rfl (by first | rfl | (simp [sqC_length, tbC_length, tabI_length, tabB_length, ints_length, plsC_length, trC_length, sqsC_length, strsC_length, boolsC_length, tbB_length, List.length_append, List.length_cons, List.length_nil, List.length_set, List.length_replicate, rep_length]; done)) rfl (fun b3 hb3 => ?_))
     simp only [upd_noneA] at hb3
     obtain ⟨n_b3_b2, hb3⟩ := hb3
     have hq := chk ho1; clear ho1; obtain ⟨ck3, ho1⟩ := hq
     refine Ops_loud rfl (LO.append2 (ys := strsC [(a0.extract (x2).toNat (x3).toNat)]) (k' := (x1 ++ [(a0.extract (x2).toNat (x3).toNat)]).length) (xs' := strsC (x1 ++ [(a0.extract (x2).toNat (x3).toNat)])) rfl sz78 el9 rfl rfl (Del.drop n_b3_b2.ne hb3 (Del.here hb2)) (by first | assumption | omega) (by first | assumption | (simp only [maxLen]; omega)) (by first | rfl | (simp [sqC_length, tbC_length, tabI_length, tabB_length, ints_length, plsC_length, trC_length, sqsC_length, strsC_length, boolsC_length, tbB_length, List.length_append, List.length_cons, List.length_nil, List.length_set, List.length_replicate, rep_length]; done) | (simp [sqC_length, tbC_length, tabI_length, tabB_length, ints_length, plsC_length, trC_length, sqsC_length, strsC_length, boolsC_length, tbB_length, List.length_append, List.length_cons, List.length_nil, List.length_set, List.length_replicate, rep_length]; omega)) (by first | rfl | (simp [sqC_length, tbC_length, tabI_length, tabB_length, ints_length, plsC_length, trC_length, sqsC_length, strsC_length, boolsC_length, tbB_length, List.length_append, List.length_cons, List.length_nil, List.length_set, List.length_replicate, rep_length]; done) | (simp [sqC_length, tbC_length, tabI_length, tabB_length, ints_length, plsC_length, trC_length, sqsC_length, strsC_length, boolsC_length, tbB_length, List.length_append, List.length_cons, List.length_nil, List.length_set, List.length_replicate, rep_length]; omega)) (RdS.own (upd_same _ _ _)) (by first | assumption | exact tabI_one _ _ _ | exact tbC_one _ | exact sqC_one _ | exact tabB_one _ _ | exact ints_one _ _ | exact plsC_one _ | exact strsC_one _ | exact srcC_one _ _ _ _ | (intro v hv; simp at hv; subst hv; rfl)) (by decide) (by omega) (by decide) (by decide) rfl (by first | rfl | (simp [sqC_length, tbC_length, tabI_length, tabB_length, ints_length, plsC_length, trC_length, sqsC_length, strsC_length, boolsC_length, tbB_length, List.length_append, List.length_cons, List.length_nil, List.length_set, List.length_replicate, rep_length]; done) | (simp [sqC_length, tbC_length, tabI_length, tabB_length, ints_length, plsC_length, trC_length, sqsC_length, strsC_length, boolsC_length, tbB_length, List.length_append, List.length_cons, List.length_nil, List.length_set, List.length_replicate, rep_length]; omega)) (by first | rfl | (simp [ints, plsC, sqsC, boolsC, strsC]; done)) (fun b4 cap_b4 hb4 hk_b4 hc_b4 => ?_))
     refine Ops_quiet _ rfl rfl (QO.assign rfl rfl) ?_
     refine Ops_nil ?_
     refine thenA_n ?_
     refine wpA_region ?_
     refine Ops_quiet _ rfl rfl (QO.move rfl rfl) ?_
     refine Ops_quiet _ rfl rfl (QO.bin rfl rfl rfl rfl) ?_
     refine Ops_quiet _ rfl rfl (QO.assign rfl rfl) ?_
     refine Ops_nil ?_
     refine blockA_n ?_
     refine thenA_n ?_
     refine wpA_region ?_
     refine Ops_quiet _ rfl rfl (QO.move rfl rfl) ?_
     refine Ops_quiet _ rfl rfl (QO.bin rfl rfl rfl rfl) ?_
     refine Ops_quiet _ rfl rfl (QO.assign rfl rfl) ?_
     refine Ops_nil ?_
     obtain rfl := Option.some.inj ho1
     dsimp only at hk1
     exact thenA_n ⟨k1, Nat.lt_succ_self _, _, _, _, b4, cap_b4, hk1, hb4, (by first | assumption | (simp; done) | omega), (by first | assumption | (simp only [maxLen]; omega)), (Sub.cons rfl (Sub.cons rfl (Sub.cons rfl (Sub.cons rfl (Sub.cons rfl Sub.nil))))), (Le.upd_left (Le.under (Le.refl _) hb4) (upd_same _ _ _) (by first | rfl | (simp; done)))⟩
    ·replace ho1 := cond_f ho1 g2
     refine wpA_skip ?_
     refine blockA_n ?_
     refine thenA_n ?_
     refine wpA_region ?_
     refine Ops_quiet _ rfl rfl (QO.move rfl rfl) ?_
     refine Ops_quiet _ rfl rfl (QO.bin rfl rfl rfl rfl) ?_
     refine Ops_quiet _ rfl rfl (QO.assign rfl rfl) ?_
     refine Ops_nil ?_
     obtain rfl := Option.some.inj ho1
     dsimp only at hk1
     exact thenA_n ⟨k1, Nat.lt_succ_self _, _, _, _, b2, cap_b2, hk1, hb2, (by first | assumption | (simp; done) | omega), (by first | assumption | (simp only [maxLen]; omega)), (Sub.cons rfl (Sub.cons rfl (Sub.cons rfl (Sub.cons rfl (Sub.cons rfl Sub.nil))))), (Le.upd_left (Le.under (Le.refl _) hb2) (upd_same _ _ _) (by first | rfl | (simp; done)))⟩
   ·replace ho1 := cond_f ho1 g1
    refine wpA_exit ?_
    refine thenA_e ?_
    refine thenA_e ?_
    obtain rfl := Option.some.inj ho1
    obtain rfl := Option.some.inj hk1
    exact ⟨rfl, _, _, _, b2, cap_b2, rfl, hb2, (by first | assumption | (simp; done) | omega), (by first | assumption | (simp only [maxLen]; omega)), (Sub.cons rfl (Sub.cons rfl (Sub.cons rfl (Sub.cons rfl (Sub.cons rfl Sub.nil))))), (Le.upd_left (Le.under (Le.refl _) hb2) (upd_same _ _ _) (by first | rfl | (simp; done)))⟩
 ·intro e s' h' hq
  cases R1 with
  | next x => exact hq.elim
  | ret r => exact hq.elim
  | stop x id =>
   obtain ⟨rfl, x4, x5, x6, b5, cap_b5, rfl, hb5, hk_b5, hc_b5, hsub1, hle1⟩ := hq
   try dsimp only at hm
   by_cases hid1 : id = 0
   ·subst hid1
    rw [if_pos rfl] at hm
    refine blockA_s ?_
    refine thenA_n ?_
    refine wpA_weaken hsub1.ok hle1 ?_
    refine wpA_seq ?_
    refine wpA_region ?_
    refine Ops_quiet _ rfl rfl (QO.move rfl rfl) ?_
    refine Ops_quiet _ rfl rfl (QO.move rfl rfl) ?_
    refine Ops_quiet _ rfl rfl (QO.move rfl rfl) ?_
    have hq := chk hm; clear hm; obtain ⟨ck4, hm⟩ := hq
    refine Ops_quiet _ rfl rfl (QO.strFrom rfl sz9 rfl rfl (by omega) (by omega)) ?_
    refine Ops_loud rfl (LO.slice1 (r := strsC [(a0.extract (x5).toNat a0.size)]) rfl sz78 sz9 zr9 (by first | rfl | (simp [sqC_length, tbC_length, tabI_length, tabB_length, ints_length, plsC_length, trC_length, sqsC_length, strsC_length, boolsC_length, tbB_length, List.length_append, List.length_cons, List.length_nil, List.length_set, List.length_replicate, rep_length]; done)) (by decide) (by decide) rfl rfl (by first | rfl | (simp [sqC_length, tbC_length, tabI_length, tabB_length, ints_length, plsC_length, trC_length, sqsC_length, strsC_length, boolsC_length, tbB_length, List.length_append, List.length_cons, List.length_nil, List.length_set, List.length_replicate, rep_length]; done)) rfl (fun b6 hb6 => ?_))
    simp only [upd_noneA] at hb6
    obtain ⟨n_b6_b5, hb6⟩ := hb6
    have hq := chk hm; clear hm; obtain ⟨ck5, hm⟩ := hq
    refine Ops_loud rfl (LO.append2 (ys := strsC [(a0.extract (x5).toNat a0.size)]) (k' := (x4 ++ [(a0.extract (x5).toNat a0.size)]).length) (xs' := strsC (x4 ++ [(a0.extract (x5).toNat a0.size)])) rfl sz78 el9 rfl rfl (Del.drop n_b6_b5.ne hb6 (Del.here hb5)) (by first | assumption | omega) (by first | assumption | (simp only [maxLen]; omega)) (by first | rfl | (simp [sqC_length, tbC_length, tabI_length, tabB_length, ints_length, plsC_length, trC_length, sqsC_length, strsC_length, boolsC_length, tbB_length, List.length_append, List.length_cons, List.length_nil, List.length_set, List.length_replicate, rep_length]; done) | (simp [sqC_length, tbC_length, tabI_length, tabB_length, ints_length, plsC_length, trC_length, sqsC_length, strsC_length, boolsC_length, tbB_length, List.length_append, List.length_cons, List.length_nil, List.length_set, List.length_replicate, rep_length]; omega)) (by first | rfl | (simp [sqC_length, tbC_length, tabI_length, tabB_length, ints_length, plsC_length, trC_length, sqsC_length, strsC_length, boolsC_length, tbB_length, List.length_append, List.length_cons, List.length_nil, List.length_set, List.length_replicate, rep_length]; done) | (simp [sqC_length, tbC_length, tabI_length, tabB_length, ints_length, plsC_length, trC_length, sqsC_length, strsC_length, boolsC_length, tbB_length, List.length_append, List.length_cons, List.length_nil, List.length_set, List.length_replicate, rep_length]; omega)) (RdS.own (upd_same _ _ _)) (by first | assumption | exact tabI_one _ _ _ | exact tbC_one _ | exact sqC_one _ | exact tabB_one _ _ | exact ints_one _ _ | exact plsC_one _ | exact strsC_one _ | exact srcC_one _ _ _ _ | (intro v hv; simp at hv; subst hv; rfl)) (by decide) (by omega) (by decide) (by decide) rfl (by first | rfl | (simp [sqC_length, tbC_length, tabI_length, tabB_length, ints_length, plsC_length, trC_length, sqsC_length, strsC_length, boolsC_length, tbB_length, List.length_append, List.length_cons, List.length_nil, List.length_set, List.length_replicate, rep_length]; done) | (simp [sqC_length, tbC_length, tabI_length, tabB_length, ints_length, plsC_length, trC_length, sqsC_length, strsC_length, boolsC_length, tbB_length, List.length_append, List.length_cons, List.length_nil, List.length_set, List.length_replicate, rep_length]; omega)) (by first | rfl | (simp [ints, plsC, sqsC, boolsC, strsC]; done)) (fun b7 cap_b7 hb7 hk_b7 hc_b7 => ?_))
    refine Ops_quiet _ rfl rfl (QO.assign rfl rfl) ?_
    refine Ops_nil ?_
    refine thenA_n ?_
    refine wpA_ret ?_
    obtain rfl := Option.some.inj hm
    exact retA_r (h2 := upd h b7 (.own 9 (strsC (x4 ++ [(a0.extract (x5).toNat a0.size)])) (cap_b7 * 1))) (Res.one rfl (rfl)) (Le.upd_left (Le.under (Le.refl _) hb7) (upd_same _ _ _) (by first | rfl | (simp; done))) ⟨b7, cap_b7, (by first | rfl | (simp [*]; done)), (by assumption), (by first | assumption | omega), (by first | assumption | (simp only [maxLen]; omega)), rfl⟩
   rw [if_neg hid1] at hm
   exact absurd hm (by simp)

/-! loop.example/g01195/spec.l01Rows -/
theorem c_spec_l01Rows {a0 : (Nat → Nat → Int)} {a1 : Int} {h : Hp} {r : Bool} (hm : m_spec_l01Rows a0 a1 = some r)  :
    QC Try.prog 56 #[.agg (tbC a0).toArray, .int .i64 a1] h (.bool r) := by
 unfold m_spec_l01Rows at hm
 refine CC.enter Try.func56 rfl Try.ntmps56 rfl ?_
 refine wpA_seq ?_
 refine wpA_region ?_
 refine Ops_loud rfl (LO.boxAgg rfl rfl rfl (fun b1 hb1 => ?_))
 refine Ops_quiet _ rfl rfl (QO.assign rfl rfl) ?_
 refine Ops_nil ?_
 refine thenA_n ?_
 refine wpA_seq ?_
 refine wpA_seq ?_
 refine wpA_region ?_
 refine Ops_quiet _ rfl rfl (QO.assign rfl rfl) ?_
 refine Ops_nil ?_
 refine thenA_n ?_
 refine wpA_block ?_
 obtain ⟨R1, hR, hm⟩ := Option.bind_eq_some_iff.1 hm
 obtain ⟨k1, hk1⟩ := loopV_some hR
 clear hR
 refine wpA_mono (Q := fun e s' h' => match (generalizing := false) R1 with | .stop x id => e = .exit id ∧ ∃ (x1 : Int), x = x1 ∧ Sub s' [(1, .int .i64 a1), (2, .pointer (some ⟨b1, 0, none⟩)), (5, .int .i64 x1)] ∧ Le (upd (h) b1 (.own 35 (tbC a0) 100)) h' | .ret r => e = .ret ∧ Sub s' [(4, .bool r)] ∧ Le (h) h' | .next _ => False) ?_ ?_
 ·refine wpA_loop (fun k s' h' => ∃ (x1 : Int), loopW (m_spec_l01Rows_l0 a0 a1) k x1 = some R1 ∧ Sub s' [(1, .int .i64 a1), (2, .pointer (some ⟨b1, 0, none⟩)), (5, .int .i64 x1)] ∧ Le (upd (h) b1 (.own 35 (tbC a0) 100)) h') (m := k1) ⟨0, hk1, (Sub.cons rfl (Sub.cons rfl (Sub.cons rfl Sub.nil))), (Le.upd_left (Le.under (Le.refl _) hb1) (upd_same _ _ _) (by first | rfl | (simp; done)))⟩ ?_
  rintro k1 s' h' ⟨x1, hk1, hsub, hle⟩
  refine wpA_weaken hsub.ok hle ?_
  clear hsub hle s' h'
  cases k1 with
  | zero => exact absurd hk1 (by simp [loopW])
  | succ k1 =>
   obtain ⟨o1, ho1, hk1⟩ := loopW_succ hk1
   unfold m_spec_l01Rows_l0 at ho1
   try dsimp only at ho1
   refine wpA_seq ?_
   refine wpA_seq ?_
   refine wpA_region ?_
   refine Ops_quiet _ rfl rfl (QO.move rfl rfl) ?_
   refine Ops_quiet _ rfl rfl (QO.bin rfl rfl rfl rfl) ?_
   refine Ops_nil ?_
   refine thenA_n ?_
   refine wpA_cond rfl (fun g1 => ?_) (fun g1 => ?_)
   ·replace ho1 := cond_t ho1 g1
    refine wpA_skip ?_
    refine thenA_n ?_
    refine wpA_seq ?_
    refine wpA_block ?_
    refine wpA_seq ?_
    refine wpA_region ?_
    refine Ops_quiet _ rfl rfl (QO.move rfl rfl) ?_
    refine Ops_quiet _ rfl rfl (QO.move rfl rfl) ?_
    refine Ops_quiet _ rfl rfl (QO.bin rfl rfl rfl rfl) ?_
    refine Ops_quiet _ rfl rfl (QO.move rfl rfl) ?_
    refine Ops_case 13 rfl (fun g2 => ?_) (fun g2 => ?_)
    ·replace ho1 := cond_t ho1 g2
     refine Ops_quiet _ rfl rfl (QO.move rfl rfl) ?_
     have hq := chk ho1; clear ho1; obtain ⟨ck1, ho1⟩ := hq
     refine Ops_quiet _ rfl rfl (QO.idxArr rfl sz35 sz24 rfl rfl (by omega) (by omega)) ?_
     refine Ops_quiet _ rfl rfl (QO.loadRow (cs := tabI .u8 (a0 (x1).toNat) 10) (hr := (rdTbRow (upd_same _ _ _) (by omega))) rfl sz24 rfl rfl (tabI_length _ _ _)) ?_
     refine Ops_quiet _ rfl rfl (QO.move rfl rfl) ?_
     have hq := Option.bind_eq_some_iff.1 ho1; clear ho1; obtain ⟨r1, hr1, ho1⟩ := hq
     refine Ops_call _ _ rfl rfl (EO.fn rfl Try.func31 rfl rfl (Evs.cons rfl (Evs.cons rfl Evs.nil))) (QC.cc (c_spec_l01Perm hr1 ) ?_)
     refine Ops_quiet _ rfl rfl (QO.not rfl rfl) ?_
     refine Ops_quiet _ rfl rfl (QO.pick_t rfl rfl rfl) ?_
     refine Ops_quiet _ rfl rfl (QO.move rfl rfl) ?_
     refine Ops_case 21 rfl (fun g3 => ?_) (fun g3 => ?_)
     ·replace ho1 := cond_t ho1 g3
      refine Ops_skip rfl rfl ?_
      refine Ops_skip rfl rfl ?_
      refine Ops_skip rfl rfl ?_
      refine Ops_skip rfl rfl ?_
      refine Ops_skip rfl rfl ?_
      refine Ops_skip rfl rfl ?_
      refine Ops_skip rfl rfl ?_
      refine Ops_skip rfl rfl ?_
      refine Ops_skip rfl rfl ?_
      refine Ops_skip rfl rfl ?_
      refine Ops_quiet _ rfl rfl (QO.pick_t rfl rfl rfl) ?_
      refine Ops_nil ?_
      refine thenA_n ?_
      refine wpA_cond_t rfl ?_
      refine wpA_seq ?_
      refine wpA_region ?_
      refine Ops_quiet _ rfl rfl (QO.assign rfl rfl) ?_
      refine Ops_nil ?_
      refine thenA_n ?_
      refine wpA_ret ?_
      refine blockA_r ?_
      refine thenA_r ?_
      refine thenA_r ?_
      obtain rfl := Option.some.inj ho1
      obtain rfl := Option.some.inj hk1
      exact ⟨rfl, (Sub.cons rfl Sub.nil), (Le.under (Le.refl _) hb1)⟩
     ·replace ho1 := cond_f ho1 g3
      refine Ops_quiet _ rfl rfl (QO.move rfl rfl) ?_
      refine Ops_quiet _ rfl rfl (QO.move rfl rfl) ?_
      refine Ops_quiet _ rfl rfl (QO.bin rfl rfl rfl rfl) ?_
      refine Ops_quiet _ rfl rfl (QO.move rfl rfl) ?_
      refine Ops_case 25 rfl (fun g4 => ?_) (fun g4 => ?_)
      ·replace ho1 := cond_t ho1 g4
       refine Ops_quiet _ rfl rfl (QO.move rfl rfl) ?_
       have hq := chk ho1; clear ho1; obtain ⟨ck2, ho1⟩ := hq
       refine Ops_quiet _ rfl rfl (QO.idxArr rfl sz35 sz24 rfl rfl (by omega) (by omega)) ?_
       refine Ops_quiet _ rfl rfl (QO.loadRow (cs := tabI .u8 (a0 (x1).toNat) 10) (hr := (rdTbRow (upd_same _ _ _) (by omega))) rfl sz24 rfl rfl (tabI_length _ _ _)) ?_
       refine Ops_quiet _ rfl rfl (QO.build0 rfl bd24) ?_
       refine Ops_quiet _ rfl rfl (QO.agg_neq rfl rfl rfl eg24 (eqv24 _ _) rfl) ?_
       refine Ops_quiet _ rfl rfl (QO.pick_t rfl rfl rfl) ?_
       refine Ops_quiet _ rfl rfl (QO.pick_f rfl rfl rfl) ?_
       refine Ops_nil ?_
       refine thenA_n ?_
       refine wpA_cond rfl (fun g5 => ?_) (fun g5 => ?_)
       ·replace ho1 := cond_t ho1 g5
        refine wpA_seq ?_
        refine wpA_region ?_
        refine Ops_quiet _ rfl rfl (QO.assign rfl rfl) ?_
        refine Ops_nil ?_
        refine thenA_n ?_
        refine wpA_ret ?_
        refine blockA_r ?_
        refine thenA_r ?_
        refine thenA_r ?_
        obtain rfl := Option.some.inj ho1
        obtain rfl := Option.some.inj hk1
        exact ⟨rfl, (Sub.cons rfl Sub.nil), (Le.under (Le.refl _) hb1)⟩
       ·replace ho1 := cond_f ho1 g5
        refine wpA_skip ?_
        refine blockA_n ?_
        refine thenA_n ?_
        refine wpA_region ?_
        refine Ops_quiet _ rfl rfl (QO.move rfl rfl) ?_
        refine Ops_quiet _ rfl rfl (QO.bin rfl rfl rfl rfl) ?_
        refine Ops_quiet _ rfl rfl (QO.assign rfl rfl) ?_
        refine Ops_nil ?_
        obtain rfl := Option.some.inj ho1
        dsimp only at hk1
        exact thenA_n ⟨k1, Nat.lt_succ_self _, _, hk1, (Sub.cons rfl (Sub.cons rfl (Sub.cons rfl Sub.nil))), (Le.upd_left (Le.under (Le.refl _) hb1) (upd_same _ _ _) (by first | rfl | (simp; done)))⟩
      ·replace ho1 := cond_f ho1 g4
       refine Ops_skip rfl rfl ?_
       refine Ops_skip rfl rfl ?_
       refine Ops_skip rfl rfl ?_
       refine Ops_skip rfl rfl ?_
       refine Ops_skip rfl rfl ?_
       refine Ops_quiet _ rfl rfl (QO.pick_f rfl rfl rfl) ?_
       refine Ops_quiet _ rfl rfl (QO.pick_f rfl rfl rfl) ?_
       refine Ops_nil ?_
       refine thenA_n ?_
       refine wpA_cond_f rfl ?_
       refine wpA_skip ?_
       refine blockA_n ?_
       refine thenA_n ?_
       refine wpA_region ?_
       refine Ops_quiet _ rfl rfl (QO.move rfl rfl) ?_
       refine Ops_quiet _ rfl rfl (QO.bin rfl rfl rfl rfl) ?_
       refine Ops_quiet _ rfl rfl (QO.assign rfl rfl) ?_
       refine Ops_nil ?_
       obtain rfl := Option.some.inj ho1
       dsimp only at hk1
       exact thenA_n ⟨k1, Nat.lt_succ_self _, _, hk1, (Sub.cons rfl (Sub.cons rfl (Sub.cons rfl Sub.nil))), (Le.upd_left (Le.under (Le.refl _) hb1) (upd_same _ _ _) (by first | rfl | (simp; done)))⟩
    ·replace ho1 := cond_f ho1 g2
     refine Ops_skip rfl rfl ?_
     refine Ops_skip rfl rfl ?_
     refine Ops_skip rfl rfl ?_
     refine Ops_skip rfl rfl ?_
     refine Ops_skip rfl rfl ?_
     refine Ops_skip rfl rfl ?_
     refine Ops_quiet _ rfl rfl (QO.pick_f rfl rfl rfl) ?_
     refine Ops_quiet _ rfl rfl (QO.move rfl rfl) ?_
     refine Ops_quiet _ rfl rfl (QO.move rfl rfl) ?_
     refine Ops_quiet _ rfl rfl (QO.move rfl rfl) ?_
     refine Ops_quiet _ rfl rfl (QO.bin rfl rfl rfl rfl) ?_
     refine Ops_quiet _ rfl rfl (QO.move rfl rfl) ?_
     refine Ops_case 25 rfl (fun g6 => ?_) (fun g6 => ?_)
     ·replace ho1 := cond_t ho1 g6
      refine Ops_quiet _ rfl rfl (QO.move rfl rfl) ?_
      have hq := chk ho1; clear ho1; obtain ⟨ck3, ho1⟩ := hq
      refine Ops_quiet _ rfl rfl (QO.idxArr rfl sz35 sz24 rfl rfl (by omega) (by omega)) ?_
      refine Ops_quiet _ rfl rfl (QO.loadRow (cs := tabI .u8 (a0 (x1).toNat) 10) (hr := (rdTbRow (upd_same _ _ _) (by omega))) rfl sz24 rfl rfl (tabI_length _ _ _)) ?_
      refine Ops_quiet _ rfl rfl (QO.build0 rfl bd24) ?_
      refine Ops_quiet _ rfl rfl (QO.agg_neq rfl rfl rfl eg24 (eqv24 _ _) rfl) ?_
      refine Ops_quiet _ rfl rfl (QO.pick_t rfl rfl rfl) ?_
      refine Ops_quiet _ rfl rfl (QO.pick_f rfl rfl rfl) ?_
      refine Ops_nil ?_
      refine thenA_n ?_
      refine wpA_cond rfl (fun g7 => ?_) (fun g7 => ?_)
      ·replace ho1 := cond_t ho1 g7
       refine wpA_seq ?_
       refine wpA_region ?_
       refine Ops_quiet _ rfl rfl (QO.assign rfl rfl) ?_
       refine Ops_nil ?_
       refine thenA_n ?_
       refine wpA_ret ?_
       refine blockA_r ?_
       refine thenA_r ?_
       refine thenA_r ?_
       obtain rfl := Option.some.inj ho1
       obtain rfl := Option.some.inj hk1
       exact ⟨rfl, (Sub.cons rfl Sub.nil), (Le.under (Le.refl _) hb1)⟩
      ·replace ho1 := cond_f ho1 g7
       refine wpA_skip ?_
       refine blockA_n ?_
       refine thenA_n ?_
       refine wpA_region ?_
       refine Ops_quiet _ rfl rfl (QO.move rfl rfl) ?_
       refine Ops_quiet _ rfl rfl (QO.bin rfl rfl rfl rfl) ?_
       refine Ops_quiet _ rfl rfl (QO.assign rfl rfl) ?_
       refine Ops_nil ?_
       obtain rfl := Option.some.inj ho1
       dsimp only at hk1
       exact thenA_n ⟨k1, Nat.lt_succ_self _, _, hk1, (Sub.cons rfl (Sub.cons rfl (Sub.cons rfl Sub.nil))), (Le.upd_left (Le.under (Le.refl _) hb1) (upd_same _ _ _) (by first | rfl | (simp; done)))⟩
     ·replace ho1 := cond_f ho1 g6
      refine Ops_skip rfl rfl ?_
      refine Ops_skip rfl rfl ?_
      refine Ops_skip rfl rfl ?_
      refine Ops_skip rfl rfl ?_
      refine Ops_skip rfl rfl ?_
      refine Ops_quiet _ rfl rfl (QO.pick_f rfl rfl rfl) ?_
      refine Ops_quiet _ rfl rfl (QO.pick_f rfl rfl rfl) ?_
      refine Ops_nil ?_
      refine thenA_n ?_
      refine wpA_cond_f rfl ?_
      refine wpA_skip ?_
      refine blockA_n ?_
      refine thenA_n ?_
      refine wpA_region ?_
      refine Ops_quiet _ rfl rfl (QO.move rfl rfl) ?_
      refine Ops_quiet _ rfl rfl (QO.bin rfl rfl rfl rfl) ?_
      refine Ops_quiet _ rfl rfl (QO.assign rfl rfl) ?_
      refine Ops_nil ?_
      obtain rfl := Option.some.inj ho1
      dsimp only at hk1
      exact thenA_n ⟨k1, Nat.lt_succ_self _, _, hk1, (Sub.cons rfl (Sub.cons rfl (Sub.cons rfl Sub.nil))), (Le.upd_left (Le.under (Le.refl _) hb1) (upd_same _ _ _) (by first | rfl | (simp; done)))⟩
   ·replace ho1 := cond_f ho1 g1
    refine wpA_exit ?_
    refine thenA_e ?_
    refine thenA_e ?_
    obtain rfl := Option.some.inj ho1
    obtain rfl := Option.some.inj hk1
    exact ⟨rfl, _, rfl, (Sub.cons rfl (Sub.cons rfl (Sub.cons rfl Sub.nil))), (Le.upd_left (Le.under (Le.refl _) hb1) (upd_same _ _ _) (by first | rfl | (simp; done)))⟩
 ·intro e s' h' hq
  cases R1 with
  | next x => exact hq.elim
  | ret r =>
   obtain ⟨rfl, hsub1, hle1⟩ := hq
   try dsimp only at hm
   refine blockA_r ?_
   refine thenA_r ?_
   obtain rfl := Option.some.inj hm
   refine retA_sub hsub1.ok hle1 ?_
   exact retA_r (h2 := h) (Res.one rfl (rfl)) (Le.refl _) ⟨rfl, rfl⟩
  | stop x id =>
   obtain ⟨rfl, x2, rfl, hsub2, hle2⟩ := hq
   try dsimp only at hm
   by_cases hid1 : id = 0
   ·subst hid1
    rw [if_pos rfl] at hm
    refine blockA_s ?_
    refine thenA_n ?_
    refine wpA_weaken hsub2.ok hle2 ?_
    refine wpA_seq ?_
    refine wpA_region ?_
    refine Ops_quiet _ rfl rfl (QO.assign rfl rfl) ?_
    refine Ops_nil ?_
    refine thenA_n ?_
    refine wpA_ret ?_
    obtain rfl := Option.some.inj hm
    exact retA_r (h2 := h) (Res.one rfl (rfl)) (Le.under (Le.refl _) hb1) ⟨rfl, rfl⟩
   rw [if_neg hid1] at hm
   exact absurd hm (by simp)

/-! loop.example/g01195/spec.l01Turned -/
theorem c_spec_l01Turned {a0 : (Nat → Nat → Int)} {h : Hp} {r : (Nat → Nat → Int)} (hm : m_spec_l01Turned a0 = some r)  :
    QC Try.prog 57 #[.agg (tbC a0).toArray] h (.agg (tbC r).toArray) := by
 unfold m_spec_l01Turned at hm
 refine CC.enter Try.func57 rfl Try.ntmps57 rfl ?_
 refine wpA_seq ?_
 refine wpA_region ?_
 refine Ops_loud rfl (LO.boxAgg rfl rfl rfl (fun b1 hb1 => ?_))
 refine Ops_loud rfl (LO.alloc rfl zr35 rfl (fun b2 hb2 => ?_))
 simp only [upd_noneA] at hb2
 obtain ⟨n_b2_b1, hb2⟩ := hb2
 refine Ops_nil ?_
 refine thenA_n ?_
 refine wpA_seq ?_
 refine wpA_region ?_
 refine Ops_quiet _ rfl rfl (QO.build0 rfl bd35) ?_
 refine Ops_loud rfl (LO.alloc rfl zr35 rfl (fun b3 hb3 => ?_))
 simp only [upd_noneA] at hb3
 obtain ⟨n_b3_b2, n_b3_b1, hb3⟩ := hb3
 refine Ops_loud rfl (LO.storeAll (cs := tbC tb0) rfl sz35 rfl rfl (tbC_one _) (tbC_length _) (upd_same _ _ _) (tbC_length _) Chg.here rfl ?_)
 refine Ops_nil ?_
 refine thenA_n ?_
 refine wpA_seq ?_
 refine wpA_seq ?_
 refine wpA_region ?_
 refine Ops_quiet _ rfl rfl (QO.assign rfl rfl) ?_
 refine Ops_nil ?_
 refine thenA_n ?_
 refine wpA_block ?_
 obtain ⟨R1, hR, hm⟩ := Option.bind_eq_some_iff.1 hm
 obtain ⟨k1, hk1⟩ := loopV_some hR
 clear hR
 refine wpA_mono (Q := fun e s' h' => match (generalizing := false) R1 with | .stop x id => e = .exit id ∧ ∃ (x1 : Int) (x2 : (Nat → Nat → Int)), x = (x1, x2) ∧ Sub s' [(1, .pointer (some ⟨b1, 0, none⟩)), (2, .pointer (some ⟨b2, 0, none⟩)), (3, .pointer (some ⟨b3, 0, none⟩)), (4, .int .i64 x1)] ∧ Le (upd (upd (upd (h) b1 (.own 35 (tbC a0) 100)) b2 (.own 35 (tbC tb0) 100)) b3 (.own 35 (tbC x2) 100)) h' | .ret r => False | .next _ => False) ?_ ?_
 ·refine wpA_loop (fun k s' h' => ∃ (x1 : Int) (x2 : (Nat → Nat → Int)), loopW (m_spec_l01Turned_l0 a0) k (x1, x2) = some R1 ∧ Sub s' [(1, .pointer (some ⟨b1, 0, none⟩)), (2, .pointer (some ⟨b2, 0, none⟩)), (3, .pointer (some ⟨b3, 0, none⟩)), (4, .int .i64 x1)] ∧ Le (upd (upd (upd (h) b1 (.own 35 (tbC a0) 100)) b2 (.own 35 (tbC tb0) 100)) b3 (.own 35 (tbC x2) 100)) h') (m := k1) ⟨0, tb0, hk1, (Sub.cons rfl (Sub.cons rfl (Sub.cons rfl (Sub.cons rfl Sub.nil)))), (Le.upd_left (Le.upd_left (Le.upd_left (Le.under (Le.under (Le.under (Le.refl _) hb1) hb2) hb3) ((upd_ne _ _ n_b3_b1.ne.symm).trans ((upd_ne _ _ n_b2_b1.ne.symm).trans (upd_same _ _ _))) (by first | rfl | (simp; done))) ((upd_ne _ _ n_b3_b2.ne.symm).trans (upd_same _ _ _)) (by first | rfl | (simp; done))) (upd_same _ _ _) (by first | rfl | (simp; done)))⟩ ?_
  rintro k1 s' h' ⟨x1, x2, hk1, hsub, hle⟩
  refine wpA_weaken hsub.ok hle ?_
  clear hsub hle s' h'
  cases k1 with
  | zero => exact absurd hk1 (by simp [loopW])
  | succ k1 =>
   obtain ⟨o1, ho1, hk1⟩ := loopW_succ hk1
   unfold m_spec_l01Turned_l0 at ho1
   try dsimp only at ho1
   refine wpA_seq ?_
   refine wpA_seq ?_
   refine wpA_region ?_
   refine Ops_quiet _ rfl rfl (QO.move rfl rfl) ?_
   refine Ops_quiet _ rfl rfl (QO.bin rfl rfl rfl rfl) ?_
   refine Ops_nil ?_
   refine thenA_n ?_
   refine wpA_cond rfl (fun g1 => ?_) (fun g1 => ?_)
   ·replace ho1 := cond_t ho1 g1
    refine wpA_skip ?_
    refine thenA_n ?_
    refine wpA_seq ?_
    refine wpA_block ?_
    refine wpA_seq ?_
    refine wpA_region ?_
    refine Ops_quiet _ rfl rfl (QO.assign rfl rfl) ?_
    refine Ops_nil ?_
    refine thenA_n ?_
    refine wpA_block ?_
    obtain ⟨R2, hR, ho1⟩ := Option.bind_eq_some_iff.1 ho1
    obtain ⟨k2, hk2⟩ := loopV_some hR
    clear hR
    refine wpA_mono (Q := fun e s' h' => match (generalizing := false) R2 with | .stop x id => e = .exit id ∧ ∃ (x3 : Int) (x4 : (Nat → Nat → Int)), x = (x3, x4) ∧ Sub s' [(1, .pointer (some ⟨b1, 0, none⟩)), (2, .pointer (some ⟨b2, 0, none⟩)), (3, .pointer (some ⟨b3, 0, none⟩)), (4, .int .i64 x1), (5, .int .i64 x3)] ∧ Le (upd (upd (upd (h) b1 (.own 35 (tbC a0) 100)) b2 (.own 35 (tbC tb0) 100)) b3 (.own 35 (tbC x4) 100)) h' | .ret r => False | .next _ => False) ?_ ?_
    ·refine wpA_loop (fun k s' h' => ∃ (x3 : Int) (x4 : (Nat → Nat → Int)), loopW (m_spec_l01Turned_l1 a0 x1) k (x3, x4) = some R2 ∧ Sub s' [(1, .pointer (some ⟨b1, 0, none⟩)), (2, .pointer (some ⟨b2, 0, none⟩)), (3, .pointer (some ⟨b3, 0, none⟩)), (4, .int .i64 x1), (5, .int .i64 x3)] ∧ Le (upd (upd (upd (h) b1 (.own 35 (tbC a0) 100)) b2 (.own 35 (tbC tb0) 100)) b3 (.own 35 (tbC x4) 100)) h') (m := k2) ⟨0, x2, hk2, (Sub.cons rfl (Sub.cons rfl (Sub.cons rfl (Sub.cons rfl (Sub.cons rfl Sub.nil))))), (Le.upd_left (Le.upd_left (Le.upd_left (Le.under (Le.under (Le.under (Le.refl _) hb1) hb2) hb3) ((upd_ne _ _ n_b3_b1.ne.symm).trans ((upd_ne _ _ n_b2_b1.ne.symm).trans (upd_same _ _ _))) (by first | rfl | (simp; done))) ((upd_ne _ _ n_b3_b2.ne.symm).trans (upd_same _ _ _)) (by first | rfl | (simp; done))) (upd_same _ _ _) (by first | rfl | (simp; done)))⟩ ?_
     rintro k2 s' h' ⟨x3, x4, hk2, hsub, hle⟩
     refine wpA_weaken hsub.ok hle ?_
     clear hsub hle s' h'
     cases k2 with
     | zero => exact absurd hk2 (by simp [loopW])
     | succ k2 =>
      obtain ⟨o2, ho2, hk2⟩ := loopW_succ hk2
      unfold m_spec_l01Turned_l1 at ho2
      try dsimp only at ho2
      refine wpA_seq ?_
      refine wpA_seq ?_
      refine wpA_region ?_
      refine Ops_quiet _ rfl rfl (QO.move rfl rfl) ?_
      refine Ops_quiet _ rfl rfl (QO.bin rfl rfl rfl rfl) ?_
      refine Ops_nil ?_
      refine thenA_n ?_
      refine wpA_cond rfl (fun g2 => ?_) (fun g2 => ?_)
      ·replace ho2 := cond_t ho2 g2
       refine wpA_skip ?_
       refine thenA_n ?_
       refine wpA_seq ?_
       refine wpA_block ?_
       refine wpA_any (upd (upd (upd (h) b1 (.own 35 (tbC a0) 100)) b2 (.own 35 (tbC tb0) 100)) b3 (.own 35 (tbC x4) 100)) [9] [9] (by kernel_rfl) (by kernel_rfl) (DW.start ?_)
       refine DW.pure' 0 _ rfl (by kernel_rfl) rfl (fun _ => QO.move rfl rfl) ?_
       refine DW.pure' 1 _ rfl (by kernel_rfl) rfl (fun _ => QO.move rfl rfl) ?_
       refine DW.pure' 2 _ rfl (by kernel_rfl) rfl (fun _ => QO.move rfl rfl) ?_
       refine DW.pure' 3 _ rfl (by kernel_rfl) rfl (fun _ => QO.move rfl rfl) ?_
       have hq := chk ho2; clear ho2; obtain ⟨ck1, ho2⟩ := hq
       refine DW.pure' 4 _ rfl (by kernel_rfl) rfl (fun _ => QO.idxArr rfl sz35 sz24 rfl rfl (by omega) (by omega)) ?_
       have hq := chk ho2; clear ho2; obtain ⟨ck2, ho2⟩ := hq
       refine DW.pure' 5 _ rfl (by kernel_rfl) rfl (fun _ => QO.idxArr rfl sz24 sz5 rfl rfl (by omega) (by omega)) ?_
       refine DW.read' 6 _ rfl (by kernel_rfl) rfl (QO.load rfl sz5 rfl rfl (by (refine (rd_own ((upd_ne _ _ n_b3_b1.ne.symm).trans ((upd_ne _ _ n_b2_b1.ne.symm).trans (upd_same _ _ _))) _).trans ?_); exact tbC_get (by omega) (by omega))) ?_
       have hq := chk ho2; clear ho2; obtain ⟨ck3, ho2⟩ := hq
       refine DW.pure' 7 _ rfl (by kernel_rfl) rfl (fun _ => QO.idxArr rfl sz35 sz24 rfl rfl (by omega) (by omega)) ?_
       have hq := chk ho2; clear ho2; obtain ⟨ck4, ho2⟩ := hq
       refine DW.pure' 8 _ rfl (by kernel_rfl) rfl (fun _ => QO.idxArr rfl sz24 sz5 rfl rfl (by omega) (by omega)) ?_
       refine DW.loud 9 rfl (by kernel_rfl) rfl rfl (LO.store' (xs' := tbC (tset x4 (x3).toNat (x1).toNat (a0 (x1).toNat (x3).toNat))) rfl sz5 rfl rfl rfl (upd_same _ _ _) (by first | ((try simp only [sqC_length, tbC_length, tabI_length, tabB_length, ints_length, plsC_length, trC_length, sqsC_length, strsC_length, boolsC_length, tbB_length, List.length_append, List.length_cons, List.length_nil, List.length_set, List.length_replicate, rep_length]); first | omega | decide) | exact Nat.le_of_ble_eq_true rfl) (tbC_set (by omega) (by omega)) Chg.here rfl ?_)
       refine ⟨(fun e => absurd e (by decide)), ?_⟩
       refine DW.done (by kernel_rfl) ?_ _
       refine blockA_n ?_
       refine thenA_n ?_
       refine wpA_region ?_
       refine Ops_quiet _ rfl rfl (QO.move rfl rfl) ?_
       refine Ops_quiet _ rfl rfl (QO.bin rfl rfl rfl rfl) ?_
       refine Ops_quiet _ rfl rfl (QO.assign rfl rfl) ?_
       refine Ops_nil ?_
       obtain rfl := Option.some.inj ho2
       dsimp only at hk2
       exact thenA_n ⟨k2, Nat.lt_succ_self _, _, _, hk2, (Sub.cons rfl (Sub.cons rfl (Sub.cons rfl (Sub.cons rfl (Sub.cons rfl Sub.nil))))), (Le.upd_left (Le.upd_left (Le.upd_left (Le.under (Le.under (Le.under (Le.refl _) hb1) hb2) hb3) ((upd_ne _ _ n_b3_b1.ne.symm).trans ((upd_ne _ _ n_b2_b1.ne.symm).trans (upd_same _ _ _))) (by first | rfl | (simp; done))) ((upd_ne _ _ n_b3_b2.ne.symm).trans (upd_same _ _ _)) (by first | rfl | (simp; done))) (upd_same _ _ _) (by first | rfl | (simp; done)))⟩
      ·replace ho2 := cond_f ho2 g2
       refine wpA_exit ?_
       refine thenA_e ?_
       refine thenA_e ?_
       obtain rfl := Option.some.inj ho2
       obtain rfl := Option.some.inj hk2
       exact ⟨rfl, _, _, rfl, (Sub.cons rfl (Sub.cons rfl (Sub.cons rfl (Sub.cons rfl (Sub.cons rfl Sub.nil))))), (Le.upd_left (Le.upd_left (Le.upd_left (Le.under (Le.under (Le.under (Le.refl _) hb1) hb2) hb3) ((upd_ne _ _ n_b3_b1.ne.symm).trans ((upd_ne _ _ n_b2_b1.ne.symm).trans (upd_same _ _ _))) (by first | rfl | (simp; done))) ((upd_ne _ _ n_b3_b2.ne.symm).trans (upd_same _ _ _)) (by first | rfl | (simp; done))) (upd_same _ _ _) (by first | rfl | (simp; done)))⟩
    ·intro e s' h' hq
     cases R2 with
     | next x => exact hq.elim
     | ret r => exact hq.elim
     | stop x id =>
      obtain ⟨rfl, x5, x6, rfl, hsub1, hle1⟩ := hq
      try dsimp only at ho1
      by_cases hid1 : id = 2
      ·subst hid1
       rw [if_pos rfl] at ho1
       refine blockA_s ?_
       refine blockA_n ?_
       refine thenA_n ?_
       refine wpA_weaken hsub1.ok hle1 ?_
       refine wpA_region ?_
       refine Ops_quiet _ rfl rfl (QO.move rfl rfl) ?_
       refine Ops_quiet _ rfl rfl (QO.bin rfl rfl rfl rfl) ?_
       refine Ops_quiet _ rfl rfl (QO.assign rfl rfl) ?_
       refine Ops_nil ?_
       obtain rfl := Option.some.inj ho1
       dsimp only at hk1
       exact thenA_n ⟨k1, Nat.lt_succ_self _, _, _, hk1, (Sub.cons rfl (Sub.cons rfl (Sub.cons rfl (Sub.cons rfl Sub.nil)))), (Le.upd_left (Le.upd_left (Le.upd_left (Le.under (Le.under (Le.under (Le.refl _) hb1) hb2) hb3) ((upd_ne _ _ n_b3_b1.ne.symm).trans ((upd_ne _ _ n_b2_b1.ne.symm).trans (upd_same _ _ _))) (by first | rfl | (simp; done))) ((upd_ne _ _ n_b3_b2.ne.symm).trans (upd_same _ _ _)) (by first | rfl | (simp; done))) (upd_same _ _ _) (by first | rfl | (simp; done)))⟩
      rw [if_neg hid1] at ho1
      exact absurd ho1 (by simp)
   ·replace ho1 := cond_f ho1 g1
    refine wpA_exit ?_
    refine thenA_e ?_
    refine thenA_e ?_
    obtain rfl := Option.some.inj ho1
    obtain rfl := Option.some.inj hk1
    exact ⟨rfl, _, _, rfl, (Sub.cons rfl (Sub.cons rfl (Sub.cons rfl (Sub.cons rfl Sub.nil)))), (Le.upd_left (Le.upd_left (Le.upd_left (Le.under (Le.under (Le.under (Le.refl _) hb1) hb2) hb3) ((upd_ne _ _ n_b3_b1.ne.symm).trans ((upd_ne _ _ n_b2_b1.ne.symm).trans (upd_same _ _ _))) (by first | rfl | (simp; done))) ((upd_ne _ _ n_b3_b2.ne.symm).trans (upd_same _ _ _)) (by first | rfl | (simp; done))) (upd_same _ _ _) (by first | rfl | (simp; done)))⟩
 ·intro e s' h' hq
  cases R1 with
  | next x => exact hq.elim
  | ret r => exact hq.elim
  | stop x id =>
   obtain ⟨rfl, x7, x8, rfl, hsub2, hle2⟩ := hq
   try dsimp only at hm
   by_cases hid2 : id = 0
   ·subst hid2
    rw [if_pos rfl] at hm
    refine blockA_s ?_
    refine thenA_n ?_
    refine wpA_weaken hsub2.ok hle2 ?_
    refine wpA_seq ?_
    refine wpA_region ?_
    refine Ops_quiet _ rfl rfl (QO.loadRow (cs := tbC x8) (hr := (rdAll (upd_same _ _ _))) rfl sz35 rfl rfl (tbC_length _)) ?_
    refine Ops_loud rfl (LO.storeAll (cs := tbC x8) rfl sz35 rfl rfl (tbC_one _) (tbC_length _) ((upd_ne _ _ n_b3_b2.ne.symm).trans (upd_same _ _ _)) (tbC_length _) (Chg.there n_b3_b2.ne Chg.here) rfl ?_)
    refine Ops_nil ?_
    refine thenA_n ?_
    refine wpA_ret ?_
    obtain rfl := Option.some.inj hm
    exact retA_r (h2 := h) (Res.one rfl (res1.row (cs := tbC x8) (hr := (rdAll ((upd_ne _ _ n_b3_b2.ne.symm).trans (upd_same _ _ _)))) sz35 rfl rfl (tbC_length _))) (Le.under (Le.under (Le.under (Le.refl _) hb1) hb2) hb3) ⟨rfl, rfl⟩
   rw [if_neg hid2] at hm
   exact absurd hm (by simp)

/-! loop.example/g01195/spec.l01Is -/
theorem c_spec_l01Is {a0 : Sq} {h : Hp} {r : Bool} (hm : m_spec_l01Is a0 = some r)  :
    QC Try.prog 42 #[.agg (sqC a0).toArray] h (.bool r) := by
 unfold m_spec_l01Is at hm
 refine CC.enter Try.func42 rfl Try.ntmps42 rfl ?_
 refine wpA_seq ?_
 refine wpA_region ?_
 refine Ops_loud rfl (LO.boxAgg rfl rfl rfl (fun b1 hb1 => ?_))
 refine Ops_quiet _ rfl rfl (QO.assign rfl rfl) ?_
 refine Ops_nil ?_
 refine thenA_n ?_
 refine wpA_seq ?_
 refine wpA_drawn (by kernel_rfl) (by kernel_rfl) ?_
 refine QOps.quiet _ rfl rfl (QO.fieldAt (fo := 0) rfl sz37 rfl rfl sz2 rfl rfl) ?_
 refine QOps.quiet _ rfl rfl (QO.load rfl sz2 rfl rfl (by (refine (rd_own (upd_same _ _ _) _).trans ?_); exact rfl)) ?_
 have hq := Option.bind_eq_some_iff.1 hm; clear hm; obtain ⟨r1, hr1, hm⟩ := hq
 refine QOps.call _ _ _ rfl rfl (EO.fn rfl Try.func48 rfl rfl (Evs.cons rfl (Evs.cons rfl (Evs.cons rfl Evs.nil)))) (c_spec_l01In hr1 ) ?_
 refine QOps.quiet _ rfl rfl (QO.move rfl rfl) ?_
 refine QOps.split 6 rfl (fun g1 => ?_) (fun g1 => ?_)
 ·replace hm := cond_t hm g1
  refine QOps.quiet _ rfl rfl (QO.fieldAt (fo := 1) rfl sz37 rfl rfl sz35 rfl rfl) ?_
  refine QOps.quiet _ rfl rfl (QO.loadRow (cs := tbC a0.t) (hr := (rdSqTab (upd_same _ _ _))) rfl sz35 rfl rfl (tbC_length _)) ?_
  refine QOps.quiet _ rfl rfl (QO.fieldAt (fo := 0) rfl sz37 rfl rfl sz2 rfl rfl) ?_
  refine QOps.quiet _ rfl rfl (QO.load rfl sz2 rfl rfl (by (refine (rd_own (upd_same _ _ _) _).trans ?_); exact rfl)) ?_
  have hq := Option.bind_eq_some_iff.1 hm; clear hm; obtain ⟨r2, hr2, hm⟩ := hq
  refine QOps.call _ _ _ rfl rfl (EO.fn rfl Try.func56 rfl rfl (Evs.cons rfl (Evs.cons rfl Evs.nil))) (c_spec_l01Rows hr2 ) ?_
  refine QOps.quiet _ rfl rfl (QO.pick_t rfl rfl rfl) ?_
  refine QOps.quiet _ rfl rfl (QO.move rfl rfl) ?_
  refine QOps.split 13 rfl (fun g2 => ?_) (fun g2 => ?_)
  ·replace hm := cond_t hm g2
   refine QOps.quiet _ rfl rfl (QO.fieldAt (fo := 1) rfl sz37 rfl rfl sz35 rfl rfl) ?_
   refine QOps.quiet _ rfl rfl (QO.loadRow (cs := tbC a0.t) (hr := (rdSqTab (upd_same _ _ _))) rfl sz35 rfl rfl (tbC_length _)) ?_
   have hq := Option.bind_eq_some_iff.1 hm; clear hm; obtain ⟨r3, hr3, hm⟩ := hq
   refine QOps.call _ _ _ rfl rfl (EO.fn rfl Try.func57 rfl rfl (Evs.cons rfl Evs.nil)) (c_spec_l01Turned hr3 ) ?_
   refine QOps.quiet _ rfl rfl (QO.fieldAt (fo := 0) rfl sz37 rfl rfl sz2 rfl rfl) ?_
   refine QOps.quiet _ rfl rfl (QO.load rfl sz2 rfl rfl (by (refine (rd_own (upd_same _ _ _) _).trans ?_); exact rfl)) ?_
   have hq := Option.bind_eq_some_iff.1 hm; clear hm; obtain ⟨r4, hr4, hm⟩ := hq
   refine QOps.call _ _ _ rfl rfl (EO.fn rfl Try.func56 rfl rfl (Evs.cons rfl (Evs.cons rfl Evs.nil))) (c_spec_l01Rows hr4 ) ?_
   refine QOps.quiet _ rfl rfl (QO.pick_t rfl rfl rfl) ?_
   refine QOps.quiet _ rfl rfl (QO.assign rfl rfl) ?_
   refine QOps.nil ?_
   refine thenA_n ?_
   refine wpA_ret ?_
   obtain rfl := Option.some.inj hm
   exact retA_r (h2 := h) (Res.one rfl (rfl)) (Le.under (Le.refl _) hb1) ⟨rfl, rfl⟩
  ·replace hm := cond_f hm g2
   refine QOps.skip rfl rfl ?_
   refine QOps.skip rfl rfl ?_
   refine QOps.skip rfl rfl ?_
   refine QOps.skip rfl rfl ?_
   refine QOps.skip rfl rfl ?_
   refine QOps.skip rfl rfl ?_
   refine QOps.quiet _ rfl rfl (QO.pick_f rfl rfl rfl) ?_
   refine QOps.quiet _ rfl rfl (QO.assign rfl rfl) ?_
   refine QOps.nil ?_
   refine thenA_n ?_
   refine wpA_ret ?_
   obtain rfl := Option.some.inj hm
   exact retA_r (h2 := h) (Res.one rfl (rfl)) (Le.under (Le.refl _) hb1) ⟨rfl, rfl⟩
 ·replace hm := cond_f hm g1
  refine QOps.skip rfl rfl ?_
  refine QOps.skip rfl rfl ?_
  refine QOps.skip rfl rfl ?_
  refine QOps.skip rfl rfl ?_
  refine QOps.skip rfl rfl ?_
  refine QOps.quiet _ rfl rfl (QO.pick_f rfl rfl rfl) ?_
  refine QOps.quiet _ rfl rfl (QO.move rfl rfl) ?_
  refine QOps.skip rfl rfl ?_
  refine QOps.skip rfl rfl ?_
  refine QOps.skip rfl rfl ?_
  refine QOps.skip rfl rfl ?_
  refine QOps.skip rfl rfl ?_
  refine QOps.skip rfl rfl ?_
  refine QOps.quiet _ rfl rfl (QO.pick_f rfl rfl rfl) ?_
  refine QOps.quiet _ rfl rfl (QO.assign rfl rfl) ?_
  refine QOps.nil ?_
  refine thenA_n ?_
  refine wpA_ret ?_
  obtain rfl := Option.some.inj hm
  exact retA_r (h2 := h) (Res.one rfl (rfl)) (Le.under (Le.refl _) hb1) ⟨rfl, rfl⟩

/-! loop.example/g01195/spec.l01Read -/
theorem c_spec_l01Read {a0 : ByteArray} {h : Hp} {r : Sq × Bool} (hm : m_spec_l01Read a0 = some r)  :
    QC Try.prog 66 #[.string a0] h (.tuple #[.agg (sqC r.1).toArray, .bool r.2]) := by
 unfold m_spec_l01Read at hm
 refine CC.enter Try.func66 rfl Try.ntmps66 rfl ?_
 refine wpA_seq ?_
 refine wpA_region ?_
 refine Ops_loud rfl (LO.alloc rfl zr37 rfl (fun b1 hb1 => ?_))
 refine Ops_quiet _ rfl rfl (QO.assign rfl rfl) ?_
 refine Ops_nil ?_
 refine thenA_n ?_
 refine wpA_seq ?_
 refine wpA_region ?_
 refine Ops_quiet _ rfl rfl (QO.move rfl rfl) ?_
 have hq := Option.bind_eq_some_iff.1 hm; clear hm; obtain ⟨r1, hr1, hm⟩ := hq
 refine Ops_call _ _ rfl rfl (EO.fn rfl Try.func69 rfl rfl (Evs.cons rfl (Evs.cons rfl Evs.nil))) (CC.mono (c_spec_l01Split hr1 ) ?_)
 rintro _ _ ⟨b2, cap_b2, rfl, hb2, hk_b2, hc_b2, rfl⟩
 simp only [upd_noneA] at hb2
 obtain ⟨n_b2_b1, hb2⟩ := hb2
 refine Ops_quiet _ rfl rfl (QO.assign rfl rfl) ?_
 refine Ops_nil ?_
 refine thenA_n ?_
 refine wpA_seq ?_
 refine wpA_region ?_
 refine Ops_quiet _ rfl rfl (QO.move rfl rfl) ?_
 refine Ops_quiet _ rfl rfl (QO.lenSl rfl sz78 rfl) ?_
 refine Ops_quiet _ rfl rfl (QO.assign rfl rfl) ?_
 refine Ops_nil ?_
 refine thenA_n ?_
 refine wpA_seq ?_
 refine wpA_seq ?_
 refine wpA_region ?_
 refine Ops_quiet _ rfl rfl (QO.move rfl rfl) ?_
 refine Ops_quiet _ rfl rfl (QO.bin rfl rfl rfl rfl) ?_
 refine Ops_nil ?_
 refine thenA_n ?_
 refine wpA_cond rfl (fun g1 => ?_) (fun g1 => ?_)
 ·replace hm := cond_t hm g1
  refine wpA_seq ?_
  refine wpA_region ?_
  refine Ops_quiet _ rfl rfl (QO.build0 rfl bd37) ?_
  refine Ops_loud rfl (LO.storeAll (cs := sqC sq0) rfl sz37 rfl rfl (sqC_one _) (sqC_length _) ((upd_ne _ _ n_b2_b1.ne.symm).trans (upd_same _ _ _)) (sqC_length _) (Chg.there n_b2_b1.ne Chg.here) rfl ?_)
  refine Ops_quiet _ rfl rfl (QO.assign rfl rfl) ?_
  refine Ops_nil ?_
  refine thenA_n ?_
  refine wpA_ret ?_
  refine thenA_r ?_
  obtain rfl := Option.some.inj hm
  exact retA_r (h2 := h) (Res.two rfl (res1.row (cs := sqC sq0) (hr := (rdAll ((upd_ne _ _ n_b2_b1.ne.symm).trans (upd_same _ _ _)))) sz37 rfl rfl (sqC_length _)) (rfl)) (Le.under (Le.under (Le.refl _) hb1) hb2) ⟨rfl, rfl⟩
 ·replace hm := cond_f hm g1
  refine wpA_skip ?_
  refine thenA_n ?_
  refine wpA_seq ?_
  refine wpA_region ?_
  refine Ops_quiet _ rfl rfl (QO.move rfl rfl) ?_
  refine Ops_quiet _ rfl rfl (QO.build1 rfl rfl (bd37_0 ((r1.length : Nat) : Int))) ?_
  refine Ops_loud rfl (LO.alloc rfl zr37 rfl (fun b3 hb3 => ?_))
  simp only [upd_noneA] at hb3
  obtain ⟨n_b3_b2, n_b3_b1, hb3⟩ := hb3
  refine Ops_loud rfl (LO.storeAll (cs := sqC (⟨((r1.length : Nat) : Int), tb0⟩ : Sq)) rfl sz37 rfl rfl (sqC_one _) (sqC_length _) (upd_same _ _ _) (sqC_length _) Chg.here rfl ?_)
  refine Ops_nil ?_
  refine thenA_n ?_
  refine wpA_seq ?_
  refine wpA_seq ?_
  refine wpA_region ?_
  refine Ops_quiet _ rfl rfl (QO.assign rfl rfl) ?_
  refine Ops_nil ?_
  refine thenA_n ?_
  refine wpA_block ?_
  obtain ⟨R1, hR, hm⟩ := Option.bind_eq_some_iff.1 hm
  obtain ⟨k1, hk1⟩ := loopV_some hR
  clear hR
  refine wpA_mono (Q := fun e s' h' => match (generalizing := false) R1 with | .stop x id => e = .exit id ∧ ∃ (x1 : Int) (x2 : Sq) (x3 : Sq), x = (x1, x2, x3) ∧ Sub s' [(2, .pointer (some ⟨b1, 0, none⟩)), (4, .slice (some ⟨b2, 0, none⟩) r1.length cap_b2), (5, .int .i64 ((r1.length : Nat) : Int)), (6, .pointer (some ⟨b3, 0, none⟩)), (7, .int .i64 x1)] ∧ Le (upd (upd (upd (h) b1 (.own 37 (sqC x2) 101)) b2 (.own 9 (strsC r1) (cap_b2 * 1))) b3 (.own 37 (sqC x3) 101)) h' | .ret r => e = .ret ∧ Sub s' [(2, .pointer (some ⟨b1, 0, none⟩)), (3, .bool r.2)] ∧ Le (upd (h) b1 (.own 37 (sqC r.1) 101)) h' | .next _ => False) ?_ ?_
  ·refine wpA_loop (fun k s' h' => ∃ (x1 : Int) (x2 : Sq) (x3 : Sq), loopW (m_spec_l01Read_l0 r1) k (x1, x2, x3) = some R1 ∧ Sub s' [(2, .pointer (some ⟨b1, 0, none⟩)), (4, .slice (some ⟨b2, 0, none⟩) r1.length cap_b2), (5, .int .i64 ((r1.length : Nat) : Int)), (6, .pointer (some ⟨b3, 0, none⟩)), (7, .int .i64 x1)] ∧ Le (upd (upd (upd (h) b1 (.own 37 (sqC x2) 101)) b2 (.own 9 (strsC r1) (cap_b2 * 1))) b3 (.own 37 (sqC x3) 101)) h') (m := k1) ⟨0, sq0, (⟨((r1.length : Nat) : Int), tb0⟩ : Sq), hk1, (Sub.cons rfl (Sub.cons rfl (Sub.cons rfl (Sub.cons rfl (Sub.cons rfl Sub.nil))))), (Le.upd_left (Le.upd_left (Le.upd_left (Le.under (Le.under (Le.under (Le.refl _) hb1) hb2) hb3) ((upd_ne _ _ n_b3_b1.ne.symm).trans ((upd_ne _ _ n_b2_b1.ne.symm).trans (upd_same _ _ _))) (by first | rfl | (simp; done))) ((upd_ne _ _ n_b3_b2.ne.symm).trans (upd_same _ _ _)) (by first | rfl | (simp; done))) (upd_same _ _ _) (by first | rfl | (simp; done)))⟩ ?_
   rintro k1 s' h' ⟨x1, x2, x3, hk1, hsub, hle⟩
   refine wpA_weaken hsub.ok hle ?_
   clear hsub hle s' h'
   cases k1 with
   | zero => exact absurd hk1 (by simp [loopW])
   | succ k1 =>
    obtain ⟨o1, ho1, hk1⟩ := loopW_succ hk1
    unfold m_spec_l01Read_l0 at ho1
    try dsimp only at ho1
    refine wpA_seq ?_
    refine wpA_seq ?_
    refine wpA_region ?_
    refine Ops_quiet _ rfl rfl (QO.move rfl rfl) ?_
    refine Ops_quiet _ rfl rfl (QO.move rfl rfl) ?_
    refine Ops_quiet _ rfl rfl (QO.bin rfl rfl rfl rfl) ?_
    refine Ops_nil ?_
    refine thenA_n ?_
    refine wpA_cond rfl (fun g2 => ?_) (fun g2 => ?_)
    ·replace ho1 := cond_t ho1 g2
     refine wpA_skip ?_
     refine thenA_n ?_
     refine wpA_seq ?_
     refine wpA_block ?_
     refine wpA_seq ?_
     refine wpA_seq ?_
     refine wpA_region ?_
     refine Ops_quiet _ rfl rfl (QO.move rfl rfl) ?_
     refine Ops_quiet _ rfl rfl (QO.move rfl rfl) ?_
     have hq := chk ho1; clear ho1; obtain ⟨ck1, ho1⟩ := hq
     refine Ops_quiet _ rfl rfl (QO.idxSl rfl sz78 sz9 rfl rfl (by omega) (by omega)) ?_
     refine Ops_quiet _ rfl rfl (QO.load rfl sz9 rfl rfl (by (refine (rd_own ((upd_ne _ _ n_b3_b2.ne.symm).trans (upd_same _ _ _)) _).trans ?_); exact strsC_get01 (by first | omega | (simp only [List.length_cons, List.length_nil]; omega)))) ?_
     refine Ops_quiet _ rfl rfl (QO.lenStr rfl sz9 rfl) ?_
     refine Ops_quiet _ rfl rfl (QO.move rfl rfl) ?_
     refine Ops_quiet _ rfl rfl (QO.bin rfl rfl rfl rfl) ?_
     refine Ops_nil ?_
     refine thenA_n ?_
     refine wpA_cond rfl (fun g3 => ?_) (fun g3 => ?_)
     ·replace ho1 := cond_t ho1 g3
      refine wpA_seq ?_
      refine wpA_region ?_
      refine Ops_quiet _ rfl rfl (QO.build0 rfl bd37) ?_
      refine Ops_loud rfl (LO.storeAll (cs := sqC sq0) rfl sz37 rfl rfl (sqC_one _) (sqC_length _) ((upd_ne _ _ n_b3_b1.ne.symm).trans ((upd_ne _ _ n_b2_b1.ne.symm).trans (upd_same _ _ _))) (sqC_length _) (Chg.there n_b3_b1.ne (Chg.there n_b2_b1.ne Chg.here)) rfl ?_)
      refine Ops_quiet _ rfl rfl (QO.assign rfl rfl) ?_
      refine Ops_nil ?_
      refine thenA_n ?_
      refine wpA_ret ?_
      refine thenA_r ?_
      refine blockA_r ?_
      refine thenA_r ?_
      refine thenA_r ?_
      obtain rfl := Option.some.inj ho1
      obtain rfl := Option.some.inj hk1
      exact ⟨rfl, (Sub.cons rfl (Sub.cons rfl Sub.nil)), (Le.upd_left (Le.under (Le.under (Le.under (Le.refl _) hb1) hb2) hb3) ((upd_ne _ _ n_b3_b1.ne.symm).trans ((upd_ne _ _ n_b2_b1.ne.symm).trans (upd_same _ _ _))) (by first | rfl | (simp; done)))⟩
     ·replace ho1 := cond_f ho1 g3
      refine wpA_skip ?_
      refine thenA_n ?_
      refine wpA_seq ?_
      refine wpA_region ?_
      refine Ops_quiet _ rfl rfl (QO.assign rfl rfl) ?_
      refine Ops_nil ?_
      refine thenA_n ?_
      refine wpA_block ?_
      obtain ⟨R2, hR, ho1⟩ := Option.bind_eq_some_iff.1 ho1
      obtain ⟨k2, hk2⟩ := loopV_some hR
      clear hR
      refine wpA_mono (Q := fun e s' h' => match (generalizing := false) R2 with | .stop x id => e = .exit id ∧ ∃ (x4 : Int) (x5 : Sq) (x6 : Sq), x = (x4, x5, x6) ∧ Sub s' [(2, .pointer (some ⟨b1, 0, none⟩)), (4, .slice (some ⟨b2, 0, none⟩) r1.length cap_b2), (5, .int .i64 ((r1.length : Nat) : Int)), (6, .pointer (some ⟨b3, 0, none⟩)), (7, .int .i64 x1), (8, .int .i64 x4)] ∧ Le (upd (upd (upd (h) b1 (.own 37 (sqC x5) 101)) b2 (.own 9 (strsC r1) (cap_b2 * 1))) b3 (.own 37 (sqC x6) 101)) h' | .ret r => e = .ret ∧ Sub s' [(2, .pointer (some ⟨b1, 0, none⟩)), (3, .bool r.2)] ∧ Le (upd (h) b1 (.own 37 (sqC r.1) 101)) h' | .next _ => False) ?_ ?_
      ·refine wpA_loop (fun k s' h' => ∃ (x4 : Int) (x5 : Sq) (x6 : Sq), loopW (m_spec_l01Read_l1 r1 x1) k (x4, x5, x6) = some R2 ∧ Sub s' [(2, .pointer (some ⟨b1, 0, none⟩)), (4, .slice (some ⟨b2, 0, none⟩) r1.length cap_b2), (5, .int .i64 ((r1.length : Nat) : Int)), (6, .pointer (some ⟨b3, 0, none⟩)), (7, .int .i64 x1), (8, .int .i64 x4)] ∧ Le (upd (upd (upd (h) b1 (.own 37 (sqC x5) 101)) b2 (.own 9 (strsC r1) (cap_b2 * 1))) b3 (.own 37 (sqC x6) 101)) h') (m := k2) ⟨0, x2, x3, hk2, (Sub.cons rfl (Sub.cons rfl (Sub.cons rfl (Sub.cons rfl (Sub.cons rfl (Sub.cons rfl Sub.nil)))))), (Le.upd_left (Le.upd_left (Le.upd_left (Le.under (Le.under (Le.under (Le.refl _) hb1) hb2) hb3) ((upd_ne _ _ n_b3_b1.ne.symm).trans ((upd_ne _ _ n_b2_b1.ne.symm).trans (upd_same _ _ _))) (by first | rfl | (simp; done))) ((upd_ne _ _ n_b3_b2.ne.symm).trans (upd_same _ _ _)) (by first | rfl | (simp; done))) (upd_same _ _ _) (by first | rfl | (simp; done)))⟩ ?_
       rintro k2 s' h' ⟨x4, x5, x6, hk2, hsub, hle⟩
       refine wpA_weaken hsub.ok hle ?_
       clear hsub hle s' h'
       cases k2 with
       | zero => exact absurd hk2 (by simp [loopW])
       | succ k2 =>
        obtain ⟨o2, ho2, hk2⟩ := loopW_succ hk2
        unfold m_spec_l01Read_l1 at ho2
        try dsimp only at ho2
        refine wpA_seq ?_
        refine wpA_seq ?_
        refine wpA_region ?_
        refine Ops_quiet _ rfl rfl (QO.move rfl rfl) ?_
        refine Ops_quiet _ rfl rfl (QO.move rfl rfl) ?_
        refine Ops_quiet _ rfl rfl (QO.bin rfl rfl rfl rfl) ?_
        refine Ops_nil ?_
        refine thenA_n ?_
        refine wpA_cond rfl (fun g4 => ?_) (fun g4 => ?_)
        ·replace ho2 := cond_t ho2 g4
         refine wpA_skip ?_
         refine thenA_n ?_
         refine wpA_seq ?_
         refine wpA_block ?_
         refine wpA_seq ?_
         refine wpA_seq ?_
         refine wpA_region ?_
         refine Ops_quiet _ rfl rfl (QO.move rfl rfl) ?_
         refine Ops_quiet _ rfl rfl (QO.move rfl rfl) ?_
         have hq := chk ho2; clear ho2; obtain ⟨ck2, ho2⟩ := hq
         refine Ops_quiet _ rfl rfl (QO.idxSl rfl sz78 sz9 rfl rfl (by omega) (by omega)) ?_
         refine Ops_quiet _ rfl rfl (QO.load rfl sz9 rfl rfl (by (refine (rd_own ((upd_ne _ _ n_b3_b2.ne.symm).trans (upd_same _ _ _)) _).trans ?_); exact strsC_get01 (by first | omega | (simp only [List.length_cons, List.length_nil]; omega)))) ?_
         refine Ops_quiet _ rfl rfl (QO.move rfl rfl) ?_
         have hq := chk ho2; clear ho2; obtain ⟨ck3, ho2⟩ := hq
         refine Ops_quiet _ rfl rfl (QO.idxStr rfl sz9 rfl rfl (by omega) (bt_some (by omega))) ?_
         refine Ops_quiet _ rfl rfl (QO.bin rfl rfl rfl rfl) ?_
         refine Ops_quiet _ rfl rfl (QO.move rfl rfl) ?_
         refine Ops_case 43 rfl (fun g5 => ?_) (fun g5 => ?_)
         ·replace ho2 := cond_t ho2 g5
          refine Ops_skip rfl rfl ?_
          refine Ops_skip rfl rfl ?_
          refine Ops_skip rfl rfl ?_
          refine Ops_skip rfl rfl ?_
          refine Ops_skip rfl rfl ?_
          refine Ops_skip rfl rfl ?_
          refine Ops_skip rfl rfl ?_
          refine Ops_quiet _ rfl rfl (QO.pick_t rfl rfl rfl) ?_
          refine Ops_nil ?_
          refine thenA_n ?_
          refine wpA_cond_t rfl ?_
          refine wpA_seq ?_
          refine wpA_region ?_
          refine Ops_quiet _ rfl rfl (QO.build0 rfl bd37) ?_
          refine Ops_loud rfl (LO.storeAll (cs := sqC sq0) rfl sz37 rfl rfl (sqC_one _) (sqC_length _) ((upd_ne _ _ n_b3_b1.ne.symm).trans ((upd_ne _ _ n_b2_b1.ne.symm).trans (upd_same _ _ _))) (sqC_length _) (Chg.there n_b3_b1.ne (Chg.there n_b2_b1.ne Chg.here)) rfl ?_)
          refine Ops_quiet _ rfl rfl (QO.assign rfl rfl) ?_
          refine Ops_nil ?_
          refine thenA_n ?_
          refine wpA_ret ?_
          refine thenA_r ?_
          refine blockA_r ?_
          refine thenA_r ?_
          refine thenA_r ?_
          obtain rfl := Option.some.inj ho2
          obtain rfl := Option.some.inj hk2
          exact ⟨rfl, (Sub.cons rfl (Sub.cons rfl Sub.nil)), (Le.upd_left (Le.under (Le.under (Le.under (Le.refl _) hb1) hb2) hb3) ((upd_ne _ _ n_b3_b1.ne.symm).trans ((upd_ne _ _ n_b2_b1.ne.symm).trans (upd_same _ _ _))) (by first | rfl | (simp; done)))⟩
         ·replace ho2 := cond_f ho2 g5
          refine Ops_quiet _ rfl rfl (QO.move rfl rfl) ?_
          refine Ops_quiet _ rfl rfl (QO.move rfl rfl) ?_
          have hq := chk ho2; clear ho2; obtain ⟨ck4, ho2⟩ := hq
          refine Ops_quiet _ rfl rfl (QO.idxSl rfl sz78 sz9 rfl rfl (by omega) (by omega)) ?_
          refine Ops_quiet _ rfl rfl (QO.load rfl sz9 rfl rfl (by (refine (rd_own ((upd_ne _ _ n_b3_b2.ne.symm).trans (upd_same _ _ _)) _).trans ?_); exact strsC_get01 (by first | omega | (simp only [List.length_cons, List.length_nil]; omega)))) ?_
          refine Ops_quiet _ rfl rfl (QO.move rfl rfl) ?_
          have hq := chk ho2; clear ho2; obtain ⟨ck5, ho2⟩ := hq
          refine Ops_quiet _ rfl rfl (QO.idxStr rfl sz9 rfl rfl (by omega) (bt_some (by omega))) ?_
          refine Ops_quiet _ rfl rfl (QO.bin rfl rfl rfl rfl) ?_
          refine Ops_quiet _ rfl rfl (QO.pick_f rfl rfl rfl) ?_
          refine Ops_nil ?_
          refine thenA_n ?_
          refine wpA_cond rfl (fun g6 => ?_) (fun g6 => ?_)
          ·replace ho2 := cond_t ho2 g6
           refine wpA_seq ?_
           refine wpA_region ?_
           refine Ops_quiet _ rfl rfl (QO.build0 rfl bd37) ?_
           refine Ops_loud rfl (LO.storeAll (cs := sqC sq0) rfl sz37 rfl rfl (sqC_one _) (sqC_length _) ((upd_ne _ _ n_b3_b1.ne.symm).trans ((upd_ne _ _ n_b2_b1.ne.symm).trans (upd_same _ _ _))) (sqC_length _) (Chg.there n_b3_b1.ne (Chg.there n_b2_b1.ne Chg.here)) rfl ?_)
           refine Ops_quiet _ rfl rfl (QO.assign rfl rfl) ?_
           refine Ops_nil ?_
           refine thenA_n ?_
           refine wpA_ret ?_
           refine thenA_r ?_
           refine blockA_r ?_
           refine thenA_r ?_
           refine thenA_r ?_
           obtain rfl := Option.some.inj ho2
           obtain rfl := Option.some.inj hk2
           exact ⟨rfl, (Sub.cons rfl (Sub.cons rfl Sub.nil)), (Le.upd_left (Le.under (Le.under (Le.under (Le.refl _) hb1) hb2) hb3) ((upd_ne _ _ n_b3_b1.ne.symm).trans ((upd_ne _ _ n_b2_b1.ne.symm).trans (upd_same _ _ _))) (by first | rfl | (simp; done)))⟩
          ·replace ho2 := cond_f ho2 g6
           refine wpA_skip ?_
           refine thenA_n ?_
           refine wpA_any (upd (upd (upd (h) b1 (.own 37 (sqC x5) 101)) b2 (.own 9 (strsC r1) (cap_b2 * 1))) b3 (.own 37 (sqC x6) 101)) [12] [12] (by kernel_rfl) (by kernel_rfl) (DW.start ?_)
           refine DW.pure' 0 _ rfl (by kernel_rfl) rfl (fun _ => QO.move rfl rfl) ?_
           refine DW.pure' 1 _ rfl (by kernel_rfl) rfl (fun _ => QO.move rfl rfl) ?_
           refine DW.pure' 2 _ rfl (by kernel_rfl) rfl (fun _ => QO.move rfl rfl) ?_
           refine DW.pure' 3 _ rfl (by kernel_rfl) rfl (fun _ => QO.move rfl rfl) ?_
           have hq := chk ho2; clear ho2; obtain ⟨ck6, ho2⟩ := hq
           refine DW.pure' 4 _ rfl (by kernel_rfl) rfl (fun _ => QO.idxSl rfl sz78 sz9 rfl rfl (by omega) (by omega)) ?_
           refine DW.read' 5 _ rfl (by kernel_rfl) rfl (QO.load rfl sz9 rfl rfl (by (refine (rd_own ((upd_ne _ _ n_b3_b2.ne.symm).trans (upd_same _ _ _)) _).trans ?_); exact strsC_get01 (by first | omega | (simp only [List.length_cons, List.length_nil]; omega)))) ?_
           refine DW.pure' 6 _ rfl (by kernel_rfl) rfl (fun _ => QO.move rfl rfl) ?_
           have hq := chk ho2; clear ho2; obtain ⟨ck7, ho2⟩ := hq
           refine DW.pure' 7 _ rfl (by kernel_rfl) rfl (fun _ => QO.idxStr rfl sz9 rfl rfl (by omega) (bt_some (by omega))) ?_
           refine DW.pure' 8 _ rfl (by kernel_rfl) rfl (fun _ => QO.bin rfl rfl rfl rfl) ?_
           refine DW.pure' 9 _ rfl (by kernel_rfl) rfl (fun _ => QO.fieldAt (fo := 1) rfl sz37 rfl rfl sz35 rfl rfl) ?_
           have hq := chk ho2; clear ho2; obtain ⟨ck8, ho2⟩ := hq
           refine DW.pure' 10 _ rfl (by kernel_rfl) rfl (fun _ => QO.idxArr rfl sz35 sz24 rfl rfl (by omega) (by omega)) ?_
           have hq := chk ho2; clear ho2; obtain ⟨ck9, ho2⟩ := hq
           refine DW.pure' 11 _ rfl (by kernel_rfl) rfl (fun _ => QO.idxArr rfl sz24 sz5 rfl rfl (by omega) (by omega)) ?_
           refine DW.loud 12 rfl (by kernel_rfl) rfl rfl (LO.store' (xs' := sqC (⟨x6.order, (tset x6.t (x1).toNat (x4).toNat (IntKind.u8.wrap ((bt (r1.getD (x1).toNat ⟨#[]⟩) (x4).toNat) - 48)))⟩ : Sq)) rfl sz5 rfl rfl rfl (upd_same _ _ _) (by first | ((try simp only [sqC_length, tbC_length, tabI_length, tabB_length, ints_length, plsC_length, trC_length, sqsC_length, strsC_length, boolsC_length, tbB_length, List.length_append, List.length_cons, List.length_nil, List.length_set, List.length_replicate, rep_length]); first | omega | decide) | exact Nat.le_of_ble_eq_true rfl) (sqC_set (by omega) (by omega)) Chg.here rfl ?_)
           refine ⟨(fun e => absurd e (by decide)), ?_⟩
           refine DW.done (by kernel_rfl) ?_ _
           refine blockA_n ?_
           refine thenA_n ?_
           refine wpA_region ?_
           refine Ops_quiet _ rfl rfl (QO.move rfl rfl) ?_
           refine Ops_quiet _ rfl rfl (QO.bin rfl rfl rfl rfl) ?_
           refine Ops_quiet _ rfl rfl (QO.assign rfl rfl) ?_
           refine Ops_nil ?_
           obtain rfl := Option.some.inj ho2
           dsimp only at hk2
           exact thenA_n ⟨k2, Nat.lt_succ_self _, _, _, _, hk2, (Sub.cons rfl (Sub.cons rfl (Sub.cons rfl (Sub.cons rfl (Sub.cons rfl (Sub.cons rfl Sub.nil)))))), (Le.upd_left (Le.upd_left (Le.upd_left (Le.under (Le.under (Le.under (Le.refl _) hb1) hb2) hb3) ((upd_ne _ _ n_b3_b1.ne.symm).trans ((upd_ne _ _ n_b2_b1.ne.symm).trans (upd_same _ _ _))) (by first | rfl | (simp; done))) ((upd_ne _ _ n_b3_b2.ne.symm).trans (upd_same _ _ _)) (by first | rfl | (simp; done))) (upd_same _ _ _) (by first | rfl | (simp; done)))⟩
        ·replace ho2 := cond_f ho2 g4
         refine wpA_exit ?_
         refine thenA_e ?_
         refine thenA_e ?_
         obtain rfl := Option.some.inj ho2
         obtain rfl := Option.some.inj hk2
         exact ⟨rfl, _, _, _, rfl, (Sub.cons rfl (Sub.cons rfl (Sub.cons rfl (Sub.cons rfl (Sub.cons rfl (Sub.cons rfl Sub.nil)))))), (Le.upd_left (Le.upd_left (Le.upd_left (Le.under (Le.under (Le.under (Le.refl _) hb1) hb2) hb3) ((upd_ne _ _ n_b3_b1.ne.symm).trans ((upd_ne _ _ n_b2_b1.ne.symm).trans (upd_same _ _ _))) (by first | rfl | (simp; done))) ((upd_ne _ _ n_b3_b2.ne.symm).trans (upd_same _ _ _)) (by first | rfl | (simp; done))) (upd_same _ _ _) (by first | rfl | (simp; done)))⟩
      ·intro e s' h' hq
       cases R2 with
       | next x => exact hq.elim
       | ret r =>
        obtain ⟨rfl, hsub1, hle1⟩ := hq
        try dsimp only at ho1
        refine blockA_r ?_
        refine blockA_r ?_
        refine thenA_r ?_
        refine thenA_r ?_
        obtain rfl := Option.some.inj ho1
        obtain rfl := Option.some.inj hk1
        exact ⟨rfl, (Sub.trans hsub1 (Sub.cons rfl (Sub.cons rfl Sub.nil))), (Le.trans (Le.upd_left (Le.under (Le.refl _) hb1) (upd_same _ _ _) (by first | rfl | (simp; done))) hle1)⟩
       | stop x id =>
        obtain ⟨rfl, x7, x8, x9, rfl, hsub2, hle2⟩ := hq
        try dsimp only at ho1
        by_cases hid1 : id = 2
        ·subst hid1
         rw [if_pos rfl] at ho1
         refine blockA_s ?_
         refine blockA_n ?_
         refine thenA_n ?_
         refine wpA_weaken hsub2.ok hle2 ?_
         refine wpA_region ?_
         refine Ops_quiet _ rfl rfl (QO.move rfl rfl) ?_
         refine Ops_quiet _ rfl rfl (QO.bin rfl rfl rfl rfl) ?_
         refine Ops_quiet _ rfl rfl (QO.assign rfl rfl) ?_
         refine Ops_nil ?_
         obtain rfl := Option.some.inj ho1
         dsimp only at hk1
         exact thenA_n ⟨k1, Nat.lt_succ_self _, _, _, _, hk1, (Sub.cons rfl (Sub.cons rfl (Sub.cons rfl (Sub.cons rfl (Sub.cons rfl Sub.nil))))), (Le.upd_left (Le.upd_left (Le.upd_left (Le.under (Le.under (Le.under (Le.refl _) hb1) hb2) hb3) ((upd_ne _ _ n_b3_b1.ne.symm).trans ((upd_ne _ _ n_b2_b1.ne.symm).trans (upd_same _ _ _))) (by first | rfl | (simp; done))) ((upd_ne _ _ n_b3_b2.ne.symm).trans (upd_same _ _ _)) (by first | rfl | (simp; done))) (upd_same _ _ _) (by first | rfl | (simp; done)))⟩
        rw [if_neg hid1] at ho1
        exact absurd ho1 (by simp)
    ·replace ho1 := cond_f ho1 g2
     refine wpA_exit ?_
     refine thenA_e ?_
     refine thenA_e ?_
     obtain rfl := Option.some.inj ho1
     obtain rfl := Option.some.inj hk1
     exact ⟨rfl, _, _, _, rfl, (Sub.cons rfl (Sub.cons rfl (Sub.cons rfl (Sub.cons rfl (Sub.cons rfl Sub.nil))))), (Le.upd_left (Le.upd_left (Le.upd_left (Le.under (Le.under (Le.under (Le.refl _) hb1) hb2) hb3) ((upd_ne _ _ n_b3_b1.ne.symm).trans ((upd_ne _ _ n_b2_b1.ne.symm).trans (upd_same _ _ _))) (by first | rfl | (simp; done))) ((upd_ne _ _ n_b3_b2.ne.symm).trans (upd_same _ _ _)) (by first | rfl | (simp; done))) (upd_same _ _ _) (by first | rfl | (simp; done)))⟩
  ·intro e s' h' hq
   cases R1 with
   | next x => exact hq.elim
   | ret r =>
    obtain ⟨rfl, hsub3, hle3⟩ := hq
    try dsimp only at hm
    refine blockA_r ?_
    refine thenA_r ?_
    obtain rfl := Option.some.inj hm
    refine retA_sub hsub3.ok hle3 ?_
    exact retA_r (h2 := h) (Res.two rfl (res1.row (cs := sqC r.1) (hr := (rdAll (upd_same _ _ _))) sz37 rfl rfl (sqC_length _)) (rfl)) (Le.under (Le.refl _) hb1) ⟨rfl, rfl⟩
   | stop x id =>
    obtain ⟨rfl, x10, x11, x12, rfl, hsub4, hle4⟩ := hq
    try dsimp only at hm
    by_cases hid2 : id = 0
    ·subst hid2
     rw [if_pos rfl] at hm
     refine blockA_s ?_
     refine thenA_n ?_
     refine wpA_weaken hsub4.ok hle4 ?_
     refine wpA_seq ?_
     refine wpA_any (upd (upd (h) b2 (.own 9 (strsC r1) (cap_b2 * 1))) b3 (.own 37 (sqC x12) 101)) [3] [] (by kernel_rfl) (by kernel_rfl) (DW.start ?_)
     refine DW.read' 0 _ rfl (by kernel_rfl) rfl (QO.loadRow (cs := sqC x12) (hr := (rdAll (upd_same _ _ _))) rfl sz37 rfl rfl (sqC_length _)) ?_
     refine DW.read' 1 _ rfl (by kernel_rfl) rfl (QO.loadRow (cs := sqC x12) (hr := (rdAll (upd_same _ _ _))) rfl sz37 rfl rfl (sqC_length _)) ?_
     have hq := Option.bind_eq_some_iff.1 hm; clear hm; obtain ⟨r2, hr2, hm⟩ := hq
     refine DW.qcall' 2 _ _ _ rfl (by kernel_rfl) rfl (EO.fn rfl Try.func42 rfl rfl (Evs.cons rfl Evs.nil)) (c_spec_l01Is hr2 ) ?_
     refine DW.loud 3 rfl (by kernel_rfl) rfl rfl (LO.storeAll (cs := sqC x12) rfl sz37 rfl rfl (sqC_one _) (sqC_length _) ((upd_ne _ _ n_b3_b1.ne.symm).trans ((upd_ne _ _ n_b2_b1.ne.symm).trans (upd_same _ _ _))) (sqC_length _) (Chg.there n_b3_b1.ne (Chg.there n_b2_b1.ne Chg.here)) rfl ?_)
     refine ⟨(fun _ => (Le.upd_left (Le.upd_left (Le.under (Le.under (Le.under (Le.refl _) hb1) hb2) hb3) ((upd_ne _ _ n_b3_b2.ne.symm).trans (upd_same _ _ _)) (by first | rfl | (simp; done))) (upd_same _ _ _) (by first | rfl | (simp; done)))), ?_⟩
     refine DW.pure' 4 _ rfl (by kernel_rfl) rfl (fun _ => QO.assign rfl rfl) ?_
     refine DW.done (by kernel_rfl) ?_ _
     refine thenA_n ?_
     refine wpA_ret ?_
     obtain rfl := Option.some.inj hm
     exact retA_r (h2 := h) (Res.two rfl (res1.row (cs := sqC x12) (hr := (rdAll ((upd_ne _ _ n_b3_b1.ne.symm).trans ((upd_ne _ _ n_b2_b1.ne.symm).trans (upd_same _ _ _))))) sz37 rfl rfl (sqC_length _)) (rfl)) (Le.under (Le.under (Le.under (Le.refl _) hb1) hb2) hb3) ⟨rfl, rfl⟩
    rw [if_neg hid2] at hm
    exact absurd hm (by simp)

/-! loop.example/g01195/spec.l01Row -/
theorem c_spec_l01Row {a0 : Sq} {a1 : Int} {h : Hp} {r : (Nat → Int)} (hm : m_spec_l01Row a0 a1 = some r)  :
    QC Try.prog 67 #[.agg (sqC a0).toArray, .int .u8 a1] h (.agg (tabI .u8 r 10).toArray) := by
 unfold m_spec_l01Row at hm
 refine CC.enter Try.func67 rfl Try.ntmps67 rfl ?_
 refine wpA_seq ?_
 refine wpA_region ?_
 refine Ops_loud rfl (LO.boxAgg rfl rfl rfl (fun b1 hb1 => ?_))
 refine Ops_loud rfl (LO.alloc rfl zr25 rfl (fun b2 hb2 => ?_))
 simp only [upd_noneA] at hb2
 obtain ⟨n_b2_b1, hb2⟩ := hb2
 refine Ops_nil ?_
 refine thenA_n ?_
 refine wpA_seq ?_
 refine wpA_region ?_
 refine Ops_quiet _ rfl rfl (QO.move rfl rfl) ?_
 refine Ops_quiet _ rfl rfl (QO.fieldAt (fo := 1) rfl sz37 rfl rfl sz35 rfl rfl) ?_
 have hq := chk hm; clear hm; obtain ⟨ck1, hm⟩ := hq
 refine Ops_quiet _ rfl rfl (QO.idxArr rfl sz35 sz24 rfl rfl (by omega) (by omega)) ?_
 refine Ops_quiet _ rfl rfl (QO.loadRow (cs := tabI .u8 (a0.t (a1).toNat) 10) (hr := (rdSqRow ((upd_ne _ _ n_b2_b1.ne.symm).trans (upd_same _ _ _)) (by omega))) rfl sz24 rfl rfl (tabI_length _ _ _)) ?_
 refine Ops_loud rfl (LO.storeAll (cs := tabI .u8 (a0.t (a1).toNat) 10) rfl sz25 rfl rfl (tabI_one _ _ _) (tabI_length _ _ _) (upd_same _ _ _) (tabI_length _ _ _) Chg.here rfl ?_)
 refine Ops_nil ?_
 refine thenA_n ?_
 refine wpA_ret ?_
 obtain rfl := Option.some.inj hm
 exact retA_r (h2 := h) (Res.one rfl (res1.row (cs := tabI .u8 (a0.t (a1).toNat) 10) (hr := (rdAll (upd_same _ _ _))) sz25 rfl rfl (tabI_length _ _ _))) (Le.under (Le.under (Le.refl _) hb1) hb2) ⟨rfl, rfl⟩
end Go.Lab
