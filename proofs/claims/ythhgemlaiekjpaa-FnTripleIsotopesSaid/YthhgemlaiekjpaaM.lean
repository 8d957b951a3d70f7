/- Models of the functions: what they compute, as Lean functions. -/
import Derived.Test.YthhgemlaiekjpaaA
set_option linter.unusedVariables false
set_option linter.unusedSimpArgs false
namespace Go.Lab
open Go Go.Abs
set_option maxRecDepth 20000
set_option linter.unusedVariables false
set_option linter.unusedSimpArgs false
/-! loop.example/g01195/laws.big -/
noncomputable def m_laws_big (l0 : (List Int)) : Option Bool := some (decide (((l0.length : Nat) : Int) > 4096))

/-! loop.example/g01195/spec.l01From -/
noncomputable def m_spec_l01From_l0 (l0 : (List Int)) : (Int × Rng) → Option (Out (Int × Rng) Rng)
  | (x1, x2) => (cond (decide (x1 < ((l0.length : Nat) : Int))) (cond (decide (x1 < 4096)) (if 0 ≤ x1 ∧ x1 < (l0.length : Nat) then some (.next ((IntKind.i64.wrap (x1 + 1)), (⟨x2.at_, (IntKind.u64.wrap ((IntKind.u64.wrap ((IntKind.u64.wrap (x2.hash * 1099511628211)) + (IntKind.u64.wrap (l0.getD (x1).toNat 0)))) + 19))⟩ : Rng))) else none) (some (.stop (x1, x2) 0))) (some (.stop (x1, x2) 0)))
noncomputable def m_spec_l01From (l0 : (List Int)) : Option Rng := ((loopV (m_spec_l01From_l0 l0) (0, (⟨0, (IntKind.u64.wrap (7351 + (IntKind.u64.wrap ((l0.length : Nat) : Int))))⟩ : Rng))).bind fun R => match R with | .stop (x3, x4) id => (if id = 0 then some x4 else none) | .ret r => none | .next _ => none)

/-! loop.example/g01195/spec.l01Next -/
noncomputable def m_spec_l01Next (a0 : Rng) (l_s : List Int) (a1 : Int) : Option (Int × Rng) := (cond (decide (a1 < 1)) (some (0, a0)) (cond (decide (((⟨a0.at_, (IntKind.u64.wrap ((IntKind.u64.wrap (a0.hash * 6364136223846793005)) + 1442695040888963407))⟩ : Rng)).at_ < ((l_s.length : Nat) : Int))) (if 0 ≤ ((⟨a0.at_, (IntKind.u64.wrap ((IntKind.u64.wrap (a0.hash * 6364136223846793005)) + 1442695040888963407))⟩ : Rng)).at_ ∧ ((⟨a0.at_, (IntKind.u64.wrap ((IntKind.u64.wrap (a0.hash * 6364136223846793005)) + 1442695040888963407))⟩ : Rng)).at_ < (l_s.length : Nat) then (if a1 ≠ 0 then some (((IntKind.i64.wrap ((IntKind.i64.wrap (bits .and .u64 ((((⟨a0.at_, (IntKind.u64.wrap ((IntKind.u64.wrap (a0.hash * 6364136223846793005)) + 1442695040888963407))⟩ : Rng)).hash).fdiv (2 ^ (min ((33 : Int).toNat) IntKind.u64.bits))) 16777215)) + (IntKind.i64.wrap (l_s.getD (((⟨a0.at_, (IntKind.u64.wrap ((IntKind.u64.wrap (a0.hash * 6364136223846793005)) + 1442695040888963407))⟩ : Rng)).at_).toNat 0)))).tmod a1), (⟨(IntKind.i64.wrap (((⟨a0.at_, (IntKind.u64.wrap ((IntKind.u64.wrap (a0.hash * 6364136223846793005)) + 1442695040888963407))⟩ : Rng)).at_ + 1)), ((⟨a0.at_, (IntKind.u64.wrap ((IntKind.u64.wrap (a0.hash * 6364136223846793005)) + 1442695040888963407))⟩ : Rng)).hash⟩ : Rng)) else none) else none) (if a1 ≠ 0 then some (((IntKind.i64.wrap (bits .and .u64 ((((⟨a0.at_, (IntKind.u64.wrap ((IntKind.u64.wrap (a0.hash * 6364136223846793005)) + 1442695040888963407))⟩ : Rng)).hash).fdiv (2 ^ (min ((33 : Int).toNat) IntKind.u64.bits))) 16777215)).tmod a1), (⟨a0.at_, (IntKind.u64.wrap ((IntKind.u64.wrap (a0.hash * 6364136223846793005)) + 1442695040888963407))⟩ : Rng)) else none)))

/-! loop.example/g01195/spec.l01Same -/
noncomputable def m_spec_l01Same_l0 (a0 : Int) : (Int × (Nat → Int)) → Option (Out (Int × (Nat → Int)) (Nat → Int))
  | (x1, x2) => (cond (decide (x1 < a0)) (if 0 ≤ x1 ∧ x1 < 10 then some (.next ((IntKind.i64.wrap (x1 + 1)), (fset x2 (x1).toNat (IntKind.u8.wrap x1)))) else none) (some (.stop (x1, x2) 0)))
noncomputable def m_spec_l01Same (a0 : Int) : Option (Nat → Int) := ((loopV (m_spec_l01Same_l0 a0) (0, pl0)).bind fun R => match R with | .stop (x3, x4) id => (if id = 0 then some x4 else none) | .ret r => none | .next _ => none)

/-! loop.example/g01195/spec.l01DrawPlaces -/
noncomputable def m_spec_l01DrawPlaces_l0 (l_s : List Int) : (Int × (Nat → Int) × Rng) → Option (Out (Int × (Nat → Int) × Rng) ((Nat → Int) × Rng))
  | (x1, x2, x3) => (cond (decide (x1 > 0)) ((m_spec_l01Next x3 l_s (IntKind.i64.wrap (x1 + 1))).bind fun r3 => (if 0 ≤ x1 ∧ x1 < 10 then (if 0 ≤ r3.1 ∧ r3.1 < 10 then (if 0 ≤ x1 ∧ x1 < 10 then (if 0 ≤ r3.1 ∧ r3.1 < 10 then some (.next ((IntKind.i64.wrap (x1 - 1)), (fset (fset x2 (x1).toNat (x2 (r3.1).toNat)) (r3.1).toNat (x2 (x1).toNat)), r3.2)) else none) else none) else none) else none)) (some (.stop (x1, x2, x3) 0)))
noncomputable def m_spec_l01DrawPlaces (a0 : Rng) (l_s : List Int) (a1 : Int) : Option ((Nat → Int) × Rng) := ((m_spec_l01Same a1).bind fun r1 => ((m_spec_l01Next a0 l_s 6).bind fun r2 => (cond (r2.1 == 0) (some (r1, r2.2)) ((loopV (m_spec_l01DrawPlaces_l0 l_s) ((IntKind.i64.wrap (a1 - 1)), r1, r2.2)).bind fun R => match R with | .stop (x4, x5, x6) id => (if id = 0 then some (x5, x6) else none) | .ret r => none | .next _ => none))))

/-! loop.example/g01195/spec.l01Pick -/
noncomputable def m_spec_l01Pick (a0 : Rng) (l_s : List Int) (l1 : (List Int)) : Option (Int × Rng) := ((m_spec_l01Next a0 l_s ((l1.length : Nat) : Int)).bind fun r1 => (if 0 ≤ r1.1 ∧ r1.1 < (l1.length : Nat) then some ((l1.getD (r1.1).toNat 0), r1.2) else none))

/-! loop.example/g01195/spec.l01Any -/
noncomputable def m_spec_l01Any (a0 : Rng) (l_s : List Int) : Option ((Nat → Int) × Int × Rng) := ((m_spec_l01Next a0 l_s 10).bind fun r1 => ((m_spec_l01DrawPlaces r1.2 l_s (IntKind.i64.wrap (1 + r1.1))).bind fun r2 => ((m_spec_l01Next r2.2 l_s 16).bind fun r3 => (cond (r3.1 == 0) ((m_spec_l01Next r3.2 l_s 10).bind fun r4 => ((m_spec_l01Pick r4.2 l_s ([0, 1, 10, 255])).bind fun r5 => (if 0 ≤ r4.1 ∧ r4.1 < 10 then some ((fset r2.1 (r4.1).toNat (IntKind.u8.wrap r5.1)), (IntKind.i64.wrap (1 + r1.1)), r5.2) else none))) (cond (r3.1 == 1) ((m_spec_l01Pick r3.2 l_s ([0, 11, (-1), (IntKind.i64.wrap ((IntKind.i64.wrap (1 + r1.1)) - 1))])).bind fun r6 => some (r2.1, r6.1, r6.2)) (some (r2.1, (IntKind.i64.wrap (1 + r1.1)), r3.2)))))))

/-! loop.example/g01195/spec.DrawThenPlaces -/
noncomputable def m_spec_DrawThenPlaces (l0 : (List Int)) : Option ((Nat → Int) × (Nat → Int) × Int) := ((m_spec_l01From l0).bind fun r1 => ((m_spec_l01Any r1 l0).bind fun r2 => ((m_spec_l01Next r2.2.2 l0 16).bind fun r3 => (cond (r3.1 == 0) ((m_spec_l01Any r3.2 l0).bind fun r4 => some (r2.1, r4.1, r2.2.1)) ((m_spec_l01DrawPlaces r3.2 l0 (min2 r2.2.1 10)).bind fun r5 => some (r2.1, r5.1, r2.2.1))))))

/-! loop.example/g01195/impl.within -/
noncomputable def m_impl_within (a0 : Int) (a1 : Int) (a2 : Int) : Option Bool := (cond (decide (a0 ≥ a1)) (some (decide (a0 ≤ a2))) (some false))

/-! loop.example/g01195/impl.IsPermutation -/
noncomputable def m_impl_IsPermutation_l0 (a0 : (Nat → Int)) (a1 : Int) : (Int × Int) → Option (Out (Int × Int) Bool)
  | (x1, x2) => (cond (decide (x2 < 10)) (if 0 ≤ x2 ∧ x2 < 10 then (cond (decide (x2 ≥ a1)) (cond ((a0 (x2).toNat) != 0) (some (.ret false)) (some (.next (x1, (IntKind.i64.wrap (x2 + 1)))))) (cond (decide ((IntKind.i64.wrap (a0 (x2).toNat)) ≥ a1)) (some (.ret false)) (if 0 ≤ (a0 (x2).toNat) then some (.next ((bits .or .i64 x1 (IntKind.i64.wrap (1 * 2 ^ (min (((a0 (x2).toNat) : Int).toNat) IntKind.i64.bits)))), (IntKind.i64.wrap (x2 + 1)))) else none))) else none) (some (.stop (x1, x2) 0)))
noncomputable def m_impl_IsPermutation (a0 : (Nat → Int)) (a1 : Int) : Option Bool := ((m_impl_within a1 1 10).bind fun r1 => (cond (!r1) (some false) ((loopV (m_impl_IsPermutation_l0 a0 a1) (0, 0)).bind fun R => match R with | .stop (x3, x4) id => (if id = 0 then (if 0 ≤ a1 then some (x3 == (IntKind.i64.wrap ((IntKind.i64.wrap (1 * 2 ^ (min ((a1 : Int).toNat) IntKind.i64.bits))) - 1))) else none) else none) | .ret r => some r | .next _ => none)))

/-! loop.example/g01195/impl.arePermutations -/
noncomputable def m_impl_arePermutations_l0 (a0 : Int) (l1 : (List (Nat → Int))) : Int → Option (Out (Int) Bool)
  | x1 => (cond (decide (x1 < ((l1.length : Nat) : Int))) (if 0 ≤ x1 ∧ x1 < (l1.length : Nat) then ((m_impl_IsPermutation (l1.getD (x1).toNat pl0) a0).bind fun r1 => (cond (!r1) (some (.ret false)) (some (.next (IntKind.i64.wrap (x1 + 1)))))) else none) (some (.stop x1 0)))
noncomputable def m_impl_arePermutations (a0 : Int) (l1 : (List (Nat → Int))) : Option Bool := ((loopV (m_impl_arePermutations_l0 a0 l1) 0).bind fun R => match R with | .stop x2 id => (if id = 0 then ((m_impl_within a0 1 10).bind fun r2 => some r2) else none) | .ret r => some r | .next _ => none)

/-! loop.example/g01195/impl.then -/
noncomputable def m_impl_then_l0 (a0 : (Nat → Int)) (a1 : (Nat → Int)) (a2 : Int) : (Int × (Nat → Int)) → Option (Out (Int × (Nat → Int)) (Nat → Int))
  | (x1, x2) => (cond (decide (x1 < a2)) (if 0 ≤ x1 ∧ x1 < 10 then (if 0 ≤ (a0 (x1).toNat) ∧ (a0 (x1).toNat) < 10 then (if 0 ≤ x1 ∧ x1 < 10 then some (.next ((IntKind.i64.wrap (x1 + 1)), (fset x2 (x1).toNat (a1 ((a0 (x1).toNat)).toNat)))) else none) else none) else none) (some (.stop (x1, x2) 0)))
noncomputable def m_impl_then (a0 : (Nat → Int)) (a1 : (Nat → Int)) (a2 : Int) : Option (Nat → Int) := ((loopV (m_impl_then_l0 a0 a1 a2) (0, pl0)).bind fun R => match R with | .stop (x3, x4) id => (if id = 0 then some x4 else none) | .ret r => none | .next _ => none)

/-! loop.example/g01195/impl.ThenPlaces -/
noncomputable def m_impl_ThenPlaces (a0 : (Nat → Int)) (a1 : (Nat → Int)) (a2 : Int) : Option ((Nat → Int) × Int) := ((m_impl_arePermutations a2 ([a0, a1])).bind fun r1 => (cond (!r1) (some (pl0, 1)) ((m_impl_then a0 a1 a2).bind fun r2 => some (r2, 0))))

/-! loop.example/g01195/spec.l01In -/
noncomputable def m_spec_l01In (a0 : Int) (a1 : Int) (a2 : Int) : Option Bool := (cond (decide (a0 ≥ a1)) (some (decide (a0 ≤ a2))) (some false))

/-! loop.example/g01195/spec.l01Perm -/
noncomputable def m_spec_l01Perm_l0 (a0 : (Nat → Int)) (a1 : Int) : (Int × (Nat → Bool)) → Option (Out (Int × (Nat → Bool)) Bool)
  | (x1, x2) => (cond (decide (x1 < 10)) (cond (decide (x1 ≥ a1)) (if 0 ≤ x1 ∧ x1 < 10 then (cond ((a0 (x1).toNat) != 0) (some (.ret false)) (some (.next ((IntKind.i64.wrap (x1 + 1)), x2)))) else none) (if 0 ≤ x1 ∧ x1 < 10 then (cond (decide ((IntKind.i64.wrap (a0 (x1).toNat)) ≥ a1)) (some (.ret false)) (if 0 ≤ x1 ∧ x1 < 10 then (if 0 ≤ (a0 (x1).toNat) ∧ (a0 (x1).toNat) < 10 then (cond (x2 ((a0 (x1).toNat)).toNat) (some (.ret false)) (if 0 ≤ x1 ∧ x1 < 10 then (if 0 ≤ (a0 (x1).toNat) ∧ (a0 (x1).toNat) < 10 then some (.next ((IntKind.i64.wrap (x1 + 1)), (fset x2 ((a0 (x1).toNat)).toNat true))) else none) else none)) else none) else none)) else none)) (some (.stop (x1, x2) 0)))
noncomputable def m_spec_l01Perm (a0 : (Nat → Int)) (a1 : Int) : Option Bool := ((m_spec_l01In a1 1 10).bind fun r1 => (cond (!r1) (some false) ((loopV (m_spec_l01Perm_l0 a0 a1) (0, bl0)).bind fun R => match R with | .stop (x3, x4) id => (if id = 0 then some true else none) | .ret r => some r | .next _ => none)))

/-! loop.example/g01195/spec.l01Then -/
noncomputable def m_spec_l01Then_l0 (a0 : (Nat → Int)) (a1 : (Nat → Int)) (a2 : Int) : (Int × (Nat → Int)) → Option (Out (Int × (Nat → Int)) (Nat → Int))
  | (x1, x2) => (cond (decide (x1 < a2)) (if 0 ≤ x1 ∧ x1 < 10 then (if 0 ≤ (a0 (x1).toNat) ∧ (a0 (x1).toNat) < 10 then (if 0 ≤ x1 ∧ x1 < 10 then some (.next ((IntKind.i64.wrap (x1 + 1)), (fset x2 (x1).toNat (a1 ((a0 (x1).toNat)).toNat)))) else none) else none) else none) (some (.stop (x1, x2) 0)))
noncomputable def m_spec_l01Then (a0 : (Nat → Int)) (a1 : (Nat → Int)) (a2 : Int) : Option (Nat → Int) := ((loopV (m_spec_l01Then_l0 a0 a1 a2) (0, pl0)).bind fun R => match R with | .stop (x3, x4) id => (if id = 0 then some x4 else none) | .ret r => none | .next _ => none)

/-! loop.example/g01195/spec.ThenPlaces -/
noncomputable def m_spec_ThenPlaces (a0 : (Nat → Int)) (a1 : (Nat → Int)) (a2 : Int) : Option ((Nat → Int) × Int) := ((m_spec_l01Perm a0 a2).bind fun r1 => (cond (!r1) (some (pl0, 1)) ((m_spec_l01Perm a1 a2).bind fun r2 => (cond (!r2) (some (pl0, 1)) ((m_spec_l01Then a0 a1 a2).bind fun r3 => some (r3, 0))))))

/-! loop.example/g01195/impl.back -/
noncomputable def m_impl_back_l0 (a0 : (Nat → Int)) (a1 : Int) : (Int × (Nat → Int)) → Option (Out (Int × (Nat → Int)) (Nat → Int))
  | (x1, x2) => (cond (decide (x1 < a1)) (if 0 ≤ x1 ∧ x1 < 10 then (if 0 ≤ (a0 (x1).toNat) ∧ (a0 (x1).toNat) < 10 then some (.next ((IntKind.i64.wrap (x1 + 1)), (fset x2 ((a0 (x1).toNat)).toNat (IntKind.u8.wrap x1)))) else none) else none) (some (.stop (x1, x2) 0)))
noncomputable def m_impl_back (a0 : (Nat → Int)) (a1 : Int) : Option (Nat → Int) := ((loopV (m_impl_back_l0 a0 a1) (0, pl0)).bind fun R => match R with | .stop (x3, x4) id => (if id = 0 then some x4 else none) | .ret r => none | .next _ => none)

/-! loop.example/g01195/impl.BackPlaces -/
noncomputable def m_impl_BackPlaces (a0 : (Nat → Int)) (a1 : Int) : Option ((Nat → Int) × Int) := ((m_impl_arePermutations a1 ([a0])).bind fun r1 => (cond (!r1) (some (pl0, 1)) ((m_impl_back a0 a1).bind fun r2 => some (r2, 0))))

/-! loop.example/g01195/spec.l01Back -/
noncomputable def m_spec_l01Back_l0 (a0 : (Nat → Int)) (a1 : Int) : (Int × (Nat → Int)) → Option (Out (Int × (Nat → Int)) (Nat → Int))
  | (x1, x2) => (cond (decide (x1 < a1)) (if 0 ≤ x1 ∧ x1 < 10 then (if 0 ≤ (a0 (x1).toNat) ∧ (a0 (x1).toNat) < 10 then some (.next ((IntKind.i64.wrap (x1 + 1)), (fset x2 ((a0 (x1).toNat)).toNat (IntKind.u8.wrap x1)))) else none) else none) (some (.stop (x1, x2) 0)))
noncomputable def m_spec_l01Back (a0 : (Nat → Int)) (a1 : Int) : Option (Nat → Int) := ((loopV (m_spec_l01Back_l0 a0 a1) (0, pl0)).bind fun R => match R with | .stop (x3, x4) id => (if id = 0 then some x4 else none) | .ret r => none | .next _ => none)

/-! loop.example/g01195/spec.BackPlaces -/
noncomputable def m_spec_BackPlaces (a0 : (Nat → Int)) (a1 : Int) : Option ((Nat → Int) × Int) := ((m_spec_l01Perm a0 a1).bind fun r1 => (cond (!r1) (some (pl0, 1)) ((m_spec_l01Back a0 a1).bind fun r2 => some (r2, 0))))

/-! loop.example/g01195/impl.sign -/
noncomputable def m_impl_sign_l1 (a0 : (Nat → Int)) (x2 : Int) : (Int × Int) → Option (Out (Int × Int) Int)
  | (x3, x4) => (cond (decide (x4 < x2)) (if 0 ≤ x4 ∧ x4 < 10 then (if 0 ≤ x2 ∧ x2 < 10 then (cond (decide ((a0 (x4).toNat) > (a0 (x2).toNat))) (some (.next ((IntKind.i64.wrap (0 - x3)), (IntKind.i64.wrap (x4 + 1))))) (some (.next (x3, (IntKind.i64.wrap (x4 + 1)))))) else none) else none) (some (.stop (x3, x4) 2)))
noncomputable def m_impl_sign_l0 (a0 : (Nat → Int)) (a1 : Int) : (Int × Int) → Option (Out (Int × Int) Int)
  | (x1, x2) => (cond (decide (x2 < a1)) ((loopV (m_impl_sign_l1 a0 x2) (x1, 0)).bind fun R => match R with | .stop (x5, x6) id => (if id = 2 then some (.next (x5, (IntKind.i64.wrap (x2 + 1)))) else none) | .ret r => none | .next _ => none) (some (.stop (x1, x2) 0)))
noncomputable def m_impl_sign (a0 : (Nat → Int)) (a1 : Int) : Option Int := ((loopV (m_impl_sign_l0 a0 a1) (1, 0)).bind fun R => match R with | .stop (x7, x8) id => (if id = 0 then some x7 else none) | .ret r => none | .next _ => none)

/-! loop.example/g01195/impl.SignOfPlaces -/
noncomputable def m_impl_SignOfPlaces (a0 : (Nat → Int)) (a1 : Int) : Option (Int × Int) := ((m_impl_arePermutations a1 ([a0])).bind fun r1 => (cond (!r1) (some (0, 1)) ((m_impl_sign a0 a1).bind fun r2 => some (r2, 0))))

/-! loop.example/g01195/spec.SignOfPlaces -/
noncomputable def m_spec_SignOfPlaces_l1 (a0 : (Nat → Int)) (x2 : Int) : (Int × Int) → Option (Out (Int × Int) (Int × Int))
  | (x3, x4) => (cond (decide (x4 < x2)) (if 0 ≤ x4 ∧ x4 < 10 then (if 0 ≤ x2 ∧ x2 < 10 then (cond (decide ((a0 (x4).toNat) > (a0 (x2).toNat))) (some (.next ((IntKind.i64.wrap (0 - x3)), (IntKind.i64.wrap (x4 + 1))))) (some (.next (x3, (IntKind.i64.wrap (x4 + 1)))))) else none) else none) (some (.stop (x3, x4) 2)))
noncomputable def m_spec_SignOfPlaces_l0 (a0 : (Nat → Int)) (a1 : Int) : (Int × Int) → Option (Out (Int × Int) (Int × Int))
  | (x1, x2) => (cond (decide (x2 < a1)) ((loopV (m_spec_SignOfPlaces_l1 a0 x2) (x1, 0)).bind fun R => match R with | .stop (x5, x6) id => (if id = 2 then some (.next (x5, (IntKind.i64.wrap (x2 + 1)))) else none) | .ret r => none | .next _ => none) (some (.stop (x1, x2) 0)))
noncomputable def m_spec_SignOfPlaces (a0 : (Nat → Int)) (a1 : Int) : Option (Int × Int) := ((m_spec_l01Perm a0 a1).bind fun r1 => (cond (!r1) (some (0, 1)) ((loopV (m_spec_SignOfPlaces_l0 a0 a1) (1, 0)).bind fun R => match R with | .stop (x7, x8) id => (if id = 0 then some (x7, 0) else none) | .ret r => none | .next _ => none)))

/-! loop.example/g01195/spec.IsPermutation -/
noncomputable def m_spec_IsPermutation (a0 : (Nat → Int)) (a1 : Int) : Option Bool := ((m_spec_l01Perm a0 a1).bind fun r1 => some r1)

/-! loop.example/g01195/spec.l01Split -/
noncomputable def m_spec_l01Split_l0 (a0 : ByteArray) (a1 : Int) : ((List ByteArray) × Int × Int) → Option (Out ((List ByteArray) × Int × Int) (List ByteArray))
  | (x1, x2, x3) => (cond (decide (x3 < ((a0.size : Nat) : Int))) (if 0 ≤ x3 ∧ x3 < (a0.size : Nat) then (cond ((bt a0 (x3).toNat) == a1) (if 0 ≤ x2 ∧ x2 ≤ x3 ∧ x3 ≤ (a0.size : Nat) then (if x1.length + 1 ≤ 1099511627776 then some (.next ((x1 ++ [(a0.extract (x2).toNat (x3).toNat)]), (IntKind.i64.wrap (x3 + 1)), (IntKind.i64.wrap (x3 + 1)))) else none) else none) (some (.next (x1, x2, (IntKind.i64.wrap (x3 + 1)))))) else none) (some (.stop (x1, x2, x3) 0)))
noncomputable def m_spec_l01Split (a0 : ByteArray) (a1 : Int) : Option (List ByteArray) := ((loopV (m_spec_l01Split_l0 a0 a1) ([], 0, 0)).bind fun R => match R with | .stop (x4, x5, x6) id => (if id = 0 then (if 0 ≤ x5 ∧ x5 ≤ (a0.size : Nat) then (if x4.length + 1 ≤ 1099511627776 then some (x4 ++ [(a0.extract (x5).toNat a0.size)]) else none) else none) else none) | .ret r => none | .next _ => none)

/-! loop.example/g01195/spec.l01Rows -/
noncomputable def m_spec_l01Rows_l0 (a0 : (Nat → Nat → Int)) (a1 : Int) : Int → Option (Out (Int) Bool)
  | x1 => (cond (decide (x1 < 10)) (cond (decide (x1 < a1)) (if 0 ≤ x1 ∧ x1 < 10 then ((m_spec_l01Perm (a0 (x1).toNat) a1).bind fun r1 => (cond (!r1) (some (.ret false)) (cond (decide (x1 ≥ a1)) (if 0 ≤ x1 ∧ x1 < 10 then (cond (!(eqPl (a0 (x1).toNat) pl0)) (some (.ret false)) (some (.next (IntKind.i64.wrap (x1 + 1))))) else none) (some (.next (IntKind.i64.wrap (x1 + 1))))))) else none) (cond (decide (x1 ≥ a1)) (if 0 ≤ x1 ∧ x1 < 10 then (cond (!(eqPl (a0 (x1).toNat) pl0)) (some (.ret false)) (some (.next (IntKind.i64.wrap (x1 + 1))))) else none) (some (.next (IntKind.i64.wrap (x1 + 1)))))) (some (.stop x1 0)))
noncomputable def m_spec_l01Rows (a0 : (Nat → Nat → Int)) (a1 : Int) : Option Bool := ((loopV (m_spec_l01Rows_l0 a0 a1) 0).bind fun R => match R with | .stop x2 id => (if id = 0 then some true else none) | .ret r => some r | .next _ => none)

/-! loop.example/g01195/spec.l01Turned -/
noncomputable def m_spec_l01Turned_l1 (a0 : (Nat → Nat → Int)) (x1 : Int) : (Int × (Nat → Nat → Int)) → Option (Out (Int × (Nat → Nat → Int)) (Nat → Nat → Int))
  | (x3, x4) => (cond (decide (x3 < 10)) (if 0 ≤ x1 ∧ x1 < 10 then (if 0 ≤ x3 ∧ x3 < 10 then (if 0 ≤ x3 ∧ x3 < 10 then (if 0 ≤ x1 ∧ x1 < 10 then some (.next ((IntKind.i64.wrap (x3 + 1)), (tset x4 (x3).toNat (x1).toNat (a0 (x1).toNat (x3).toNat)))) else none) else none) else none) else none) (some (.stop (x3, x4) 2)))
noncomputable def m_spec_l01Turned_l0 (a0 : (Nat → Nat → Int)) : (Int × (Nat → Nat → Int)) → Option (Out (Int × (Nat → Nat → Int)) (Nat → Nat → Int))
  | (x1, x2) => (cond (decide (x1 < 10)) ((loopV (m_spec_l01Turned_l1 a0 x1) (0, x2)).bind fun R => match R with | .stop (x5, x6) id => (if id = 2 then some (.next ((IntKind.i64.wrap (x1 + 1)), x6)) else none) | .ret r => none | .next _ => none) (some (.stop (x1, x2) 0)))
noncomputable def m_spec_l01Turned (a0 : (Nat → Nat → Int)) : Option (Nat → Nat → Int) := ((loopV (m_spec_l01Turned_l0 a0) (0, tb0)).bind fun R => match R with | .stop (x7, x8) id => (if id = 0 then some x8 else none) | .ret r => none | .next _ => none)

/-! loop.example/g01195/spec.l01Is -/
noncomputable def m_spec_l01Is (a0 : Sq) : Option Bool := ((m_spec_l01In a0.order 1 10).bind fun r1 => (cond r1 ((m_spec_l01Rows a0.t a0.order).bind fun r2 => (cond r2 ((m_spec_l01Turned a0.t).bind fun r3 => ((m_spec_l01Rows r3 a0.order).bind fun r4 => some r4)) (some false))) (some false)))

/-! loop.example/g01195/spec.l01Read -/
noncomputable def m_spec_l01Read_l1 (r1 : (List ByteArray)) (x1 : Int) : (Int × Sq × Sq) → Option (Out (Int × Sq × Sq) (Sq × Bool))
  | (x4, x5, x6) => (cond (decide (x4 < ((r1.length : Nat) : Int))) (if 0 ≤ x1 ∧ x1 < (r1.length : Nat) then (if 0 ≤ x4 ∧ x4 < ((r1.getD (x1).toNat ⟨#[]⟩).size : Nat) then (cond (decide ((bt (r1.getD (x1).toNat ⟨#[]⟩) (x4).toNat) < 48)) (some (.ret (sq0, false))) (if 0 ≤ x1 ∧ x1 < (r1.length : Nat) then (if 0 ≤ x4 ∧ x4 < ((r1.getD (x1).toNat ⟨#[]⟩).size : Nat) then (cond (decide ((bt (r1.getD (x1).toNat ⟨#[]⟩) (x4).toNat) > 57)) (some (.ret (sq0, false))) (if 0 ≤ x1 ∧ x1 < (r1.length : Nat) then (if 0 ≤ x4 ∧ x4 < ((r1.getD (x1).toNat ⟨#[]⟩).size : Nat) then (if 0 ≤ x1 ∧ x1 < 10 then (if 0 ≤ x4 ∧ x4 < 10 then some (.next ((IntKind.i64.wrap (x4 + 1)), x5, (⟨x6.order, (tset x6.t (x1).toNat (x4).toNat (IntKind.u8.wrap ((bt (r1.getD (x1).toNat ⟨#[]⟩) (x4).toNat) - 48)))⟩ : Sq))) else none) else none) else none) else none)) else none) else none)) else none) else none) (some (.stop (x4, x5, x6) 2)))
noncomputable def m_spec_l01Read_l0 (r1 : (List ByteArray)) : (Int × Sq × Sq) → Option (Out (Int × Sq × Sq) (Sq × Bool))
  | (x1, x2, x3) => (cond (decide (x1 < ((r1.length : Nat) : Int))) (if 0 ≤ x1 ∧ x1 < (r1.length : Nat) then (cond ((((r1.getD (x1).toNat ⟨#[]⟩).size : Nat) : Int) != ((r1.length : Nat) : Int)) (some (.ret (sq0, false))) ((loopV (m_spec_l01Read_l1 r1 x1) (0, x2, x3)).bind fun R => match R with | .stop (x7, x8, x9) id => (if id = 2 then some (.next ((IntKind.i64.wrap (x1 + 1)), x8, x9)) else none) | .ret r => some (.ret (r.1, r.2)) | .next _ => none)) else none) (some (.stop (x1, x2, x3) 0)))
noncomputable def m_spec_l01Read (a0 : ByteArray) : Option (Sq × Bool) := ((m_spec_l01Split a0 47).bind fun r1 => (cond (decide (((r1.length : Nat) : Int) > 10)) (some (sq0, false)) ((loopV (m_spec_l01Read_l0 r1) (0, sq0, (⟨((r1.length : Nat) : Int), tb0⟩ : Sq))).bind fun R => match R with | .stop (x10, x11, x12) id => (if id = 0 then ((m_spec_l01Is x12).bind fun r2 => some (x12, r2)) else none) | .ret r => some (r.1, r.2) | .next _ => none)))

/-! loop.example/g01195/spec.l01Row -/
noncomputable def m_spec_l01Row (a0 : Sq) (a1 : Int) : Option (Nat → Int) := (if 0 ≤ a1 ∧ a1 < 10 then some (a0.t (a1).toNat) else none)

/-! loop.example/g01195/spec.l01Moved -/
noncomputable def m_spec_l01Moved_l1 (a0 : Sq) (a1 : (Nat → Int)) (a2 : (Nat → Int)) (a3 : (Nat → Int)) (x1 : Int) : (Int × Sq) → Option (Out (Int × Sq) Sq)
  | (x3, x4) => (cond (decide (x3 < a0.order)) (if 0 ≤ x1 ∧ x1 < 10 then (if 0 ≤ x3 ∧ x3 < 10 then (if 0 ≤ x1 ∧ x1 < 10 then (if 0 ≤ x3 ∧ x3 < 10 then (if 0 ≤ (a0.t (x1).toNat (x3).toNat) ∧ (a0.t (x1).toNat (x3).toNat) < 10 then (if 0 ≤ (a1 (x1).toNat) ∧ (a1 (x1).toNat) < 10 then (if 0 ≤ (a2 (x3).toNat) ∧ (a2 (x3).toNat) < 10 then some (.next ((IntKind.i64.wrap (x3 + 1)), (⟨x4.order, (tset x4.t ((a1 (x1).toNat)).toNat ((a2 (x3).toNat)).toNat (a3 ((a0.t (x1).toNat (x3).toNat)).toNat))⟩ : Sq))) else none) else none) else none) else none) else none) else none) else none) (some (.stop (x3, x4) 2)))
noncomputable def m_spec_l01Moved_l0 (a0 : Sq) (a1 : (Nat → Int)) (a2 : (Nat → Int)) (a3 : (Nat → Int)) : (Int × Sq) → Option (Out (Int × Sq) Sq)
  | (x1, x2) => (cond (decide (x1 < a0.order)) ((loopV (m_spec_l01Moved_l1 a0 a1 a2 a3 x1) (0, x2)).bind fun R => match R with | .stop (x5, x6) id => (if id = 2 then some (.next ((IntKind.i64.wrap (x1 + 1)), x6)) else none) | .ret r => none | .next _ => none) (some (.stop (x1, x2) 0)))
noncomputable def m_spec_l01Moved (a0 : Sq) (a1 : (Nat → Int)) (a2 : (Nat → Int)) (a3 : (Nat → Int)) : Option Sq := ((loopV (m_spec_l01Moved_l0 a0 a1 a2 a3) (0, (⟨a0.order, tb0⟩ : Sq))).bind fun R => match R with | .stop (x7, x8) id => (if id = 0 then some x8 else none) | .ret r => none | .next _ => none)

/-! loop.example/g01195/spec.l01Column -/
noncomputable def m_spec_l01Column_l0 (a0 : Sq) (a1 : Int) : (Int × (Nat → Int)) → Option (Out (Int × (Nat → Int)) (Nat → Int))
  | (x1, x2) => (cond (decide (x1 < a0.order)) (if 0 ≤ x1 ∧ x1 < 10 then (if 0 ≤ a1 ∧ a1 < 10 then (if 0 ≤ x1 ∧ x1 < 10 then some (.next ((IntKind.i64.wrap (x1 + 1)), (fset x2 (x1).toNat (a0.t (x1).toNat (a1).toNat)))) else none) else none) else none) (some (.stop (x1, x2) 0)))
noncomputable def m_spec_l01Column (a0 : Sq) (a1 : Int) : Option (Nat → Int) := ((loopV (m_spec_l01Column_l0 a0 a1) (0, pl0)).bind fun R => match R with | .stop (x3, x4) id => (if id = 0 then some x4 else none) | .ret r => none | .next _ => none)

/-! loop.example/g01195/spec.l01Ordered -/
noncomputable def m_spec_l01Ordered (a0 : Sq) : Option Sq := ((m_spec_l01Same a0.order).bind fun r1 => ((m_spec_l01Row a0 0).bind fun r2 => ((m_spec_l01Same a0.order).bind fun r3 => ((m_spec_l01Moved a0 r1 r2 r3).bind fun r4 => ((m_spec_l01Column r4 0).bind fun r5 => ((m_spec_l01Same a0.order).bind fun r6 => ((m_spec_l01Same a0.order).bind fun r7 => ((m_spec_l01Moved r4 r5 r6 r7).bind fun r8 => some r8))))))))

/-! loop.example/g01195/spec.l01Elementary -/
noncomputable def m_spec_l01Elementary_l1 (a0 : Int) (x1 : Int) : (Int × Sq) → Option (Out (Int × Sq) Sq)
  | (x3, x4) => (cond (decide (x3 < (IntKind.i64.wrap (1 * 2 ^ (min (((IntKind.u64.wrap a0) : Int).toNat) IntKind.i64.bits))))) (if 0 ≤ x1 ∧ x1 < 10 then (if 0 ≤ x3 ∧ x3 < 10 then some (.next ((IntKind.i64.wrap (x3 + 1)), (⟨x4.order, (tset x4.t (x1).toNat (x3).toNat (IntKind.u8.wrap (bits .xor .i64 x1 x3)))⟩ : Sq))) else none) else none) (some (.stop (x3, x4) 2)))
noncomputable def m_spec_l01Elementary_l0 (a0 : Int) : (Int × Sq) → Option (Out (Int × Sq) Sq)
  | (x1, x2) => (cond (decide (x1 < (IntKind.i64.wrap (1 * 2 ^ (min (((IntKind.u64.wrap a0) : Int).toNat) IntKind.i64.bits))))) ((loopV (m_spec_l01Elementary_l1 a0 x1) (0, x2)).bind fun R => match R with | .stop (x5, x6) id => (if id = 2 then some (.next ((IntKind.i64.wrap (x1 + 1)), x6)) else none) | .ret r => none | .next _ => none) (some (.stop (x1, x2) 0)))
noncomputable def m_spec_l01Elementary (a0 : Int) : Option Sq := (if 0 ≤ (IntKind.u64.wrap a0) then ((loopV (m_spec_l01Elementary_l0 a0) (0, (⟨(IntKind.i64.wrap (1 * 2 ^ (min (((IntKind.u64.wrap a0) : Int).toNat) IntKind.i64.bits))), tb0⟩ : Sq))).bind fun R => match R with | .stop (x7, x8) id => (if id = 0 then some x8 else none) | .ret r => none | .next _ => none) else none)

/-! loop.example/g01195/spec.l01Cyclic -/
noncomputable def m_spec_l01Cyclic_l1 (a0 : Int) (x1 : Int) : (Int × Sq) → Option (Out (Int × Sq) Sq)
  | (x3, x4) => (cond (decide (x3 < a0)) (if a0 ≠ 0 then (if 0 ≤ x1 ∧ x1 < 10 then (if 0 ≤ x3 ∧ x3 < 10 then some (.next ((IntKind.i64.wrap (x3 + 1)), (⟨x4.order, (tset x4.t (x1).toNat (x3).toNat (IntKind.u8.wrap ((IntKind.i64.wrap (x1 + x3)).tmod a0)))⟩ : Sq))) else none) else none) else none) (some (.stop (x3, x4) 2)))
noncomputable def m_spec_l01Cyclic_l0 (a0 : Int) : (Int × Sq) → Option (Out (Int × Sq) Sq)
  | (x1, x2) => (cond (decide (x1 < a0)) ((loopV (m_spec_l01Cyclic_l1 a0 x1) (0, x2)).bind fun R => match R with | .stop (x5, x6) id => (if id = 2 then some (.next ((IntKind.i64.wrap (x1 + 1)), x6)) else none) | .ret r => none | .next _ => none) (some (.stop (x1, x2) 0)))
noncomputable def m_spec_l01Cyclic (a0 : Int) : Option Sq := ((loopV (m_spec_l01Cyclic_l0 a0) (0, (⟨a0, tb0⟩ : Sq))).bind fun R => match R with | .stop (x7, x8) id => (if id = 0 then some x8 else none) | .ret r => none | .next _ => none)

/-! loop.example/g01195/spec.l01Direct -/
noncomputable def m_spec_l01Direct_l1 (a0 : Sq) (a1 : Sq) (x1 : Int) : (Int × Sq) → Option (Out (Int × Sq) Sq)
  | (x3, x4) => (cond (decide (x3 < x4.order)) (if a1.order ≠ 0 then (if a1.order ≠ 0 then (if 0 ≤ (IntKind.i64.wrap (x1.tdiv a1.order)) ∧ (IntKind.i64.wrap (x1.tdiv a1.order)) < 10 then (if 0 ≤ (IntKind.i64.wrap (x3.tdiv a1.order)) ∧ (IntKind.i64.wrap (x3.tdiv a1.order)) < 10 then (if a1.order ≠ 0 then (if a1.order ≠ 0 then (if 0 ≤ (x1.tmod a1.order) ∧ (x1.tmod a1.order) < 10 then (if 0 ≤ (x3.tmod a1.order) ∧ (x3.tmod a1.order) < 10 then (if 0 ≤ x1 ∧ x1 < 10 then (if 0 ≤ x3 ∧ x3 < 10 then some (.next ((IntKind.i64.wrap (x3 + 1)), (⟨x4.order, (tset x4.t (x1).toNat (x3).toNat (IntKind.u8.wrap ((IntKind.u8.wrap ((IntKind.u8.wrap a1.order) * ((a0.t ((IntKind.i64.wrap (x1.tdiv a1.order))).toNat) ((IntKind.i64.wrap (x3.tdiv a1.order))).toNat))) + ((a1.t ((x1.tmod a1.order)).toNat) ((x3.tmod a1.order)).toNat))))⟩ : Sq))) else none) else none) else none) else none) else none) else none) else none) else none) else none) else none) (some (.stop (x3, x4) 2)))
noncomputable def m_spec_l01Direct_l0 (a0 : Sq) (a1 : Sq) : (Int × Sq) → Option (Out (Int × Sq) Sq)
  | (x1, x2) => (cond (decide (x1 < x2.order)) ((loopV (m_spec_l01Direct_l1 a0 a1 x1) (0, x2)).bind fun R => match R with | .stop (x5, x6) id => (if id = 2 then some (.next ((IntKind.i64.wrap (x1 + 1)), x6)) else none) | .ret r => none | .next _ => none) (some (.stop (x1, x2) 0)))
noncomputable def m_spec_l01Direct (a0 : Sq) (a1 : Sq) : Option Sq := ((loopV (m_spec_l01Direct_l0 a0 a1) (0, (⟨(IntKind.i64.wrap (a0.order * a1.order)), tb0⟩ : Sq))).bind fun R => match R with | .stop (x7, x8) id => (if id = 0 then some x8 else none) | .ret r => none | .next _ => none)

/-! loop.example/g01195/spec.l01Known -/
noncomputable def m_spec_l01Known (a0 : Rng) (l_s : List Int) : Option (Sq × Rng) := ((m_spec_l01Next a0 l_s 4).bind fun r1 => (cond (r1.1 == 0) ((m_spec_l01Next r1.2 l_s ((4 : Nat) : Int)).bind fun r2 => (if 0 ≤ r2.1 ∧ r2.1 < (4 : Nat) then ((m_spec_l01Read (([((ByteArray.mk #[48, 49, 50, 51, 52, 47, 49, 48, 51, 52, 50, 47, 50, 52, 48, 49, 51, 47, 51, 50, 52, 48, 49, 47, 52, 51, 49, 50, 48])), ((ByteArray.mk #[48, 49, 50, 51, 52, 53, 47, 49, 50, 48, 52, 53, 51, 47, 50, 48, 49, 53, 51, 52, 47, 51, 53, 52, 48, 50, 49, 47, 52, 51, 53, 49, 48, 50, 47, 53, 52, 51, 50, 49, 48])), ((ByteArray.mk (List.toArray (List.append [48, 49, 50, 51, 52, 53, 54, 55, 47, 49, 50, 51, 48, 53, 54, 55, 52, 47, 50, 51, 48, 49, 54, 55, 52, 53, 47, 51, 48, 49, 50, 55, 52, 53, 54] [47, 52, 55, 54, 53, 48, 51, 50, 49, 47, 53, 52, 55, 54, 49, 48, 51, 50, 47, 54, 53, 52, 55, 50, 49, 48, 51, 47, 55, 54, 53, 52, 51, 50, 49, 48])))), ((ByteArray.mk #[48, 49, 50, 51, 52, 53, 47, 49, 48, 51, 50, 53, 52, 47, 50, 52, 53, 48, 49, 51, 47, 51, 53, 52, 49, 48, 50, 47, 52, 50, 48, 53, 51, 49, 47, 53, 51, 49, 52, 50, 48]))]).getD (r2.1).toNat ⟨#[]⟩)).bind fun r3 => (cond r3.2 ((m_spec_l01Ordered r3.1).bind fun r4 => some (r4, r2.2)) ((m_spec_l01Next r2.2 l_s 5).bind fun r5 => ((m_spec_l01Next r5.2 l_s 8).bind fun r6 => ((m_spec_l01Next r6.2 l_s 10).bind fun r7 => ((m_spec_l01Pick r7.2 l_s ([r5.1, r6.1, r7.1])).bind fun r8 => ((m_spec_l01Cyclic (IntKind.i64.wrap (1 + r8.1))).bind fun r9 => some (r9, r8.2)))))))) else none)) (cond (r1.1 == 1) ((m_spec_l01Next r1.2 l_s 4).bind fun r10 => ((m_spec_l01Elementary r10.1).bind fun r11 => some (r11, r10.2))) (cond (r1.1 == 2) ((m_spec_l01Next r1.2 l_s 3).bind fun r12 => ((m_spec_l01Cyclic (IntKind.i64.wrap (1 + r12.1))).bind fun r13 => ((m_spec_l01Next r12.2 l_s 3).bind fun r14 => ((m_spec_l01Cyclic (IntKind.i64.wrap (1 + r14.1))).bind fun r15 => ((m_spec_l01Direct r13 r15).bind fun r16 => some (r16, r14.2)))))) ((m_spec_l01Next r1.2 l_s 5).bind fun r17 => ((m_spec_l01Next r17.2 l_s 8).bind fun r18 => ((m_spec_l01Next r18.2 l_s 10).bind fun r19 => ((m_spec_l01Pick r19.2 l_s ([r17.1, r18.1, r19.1])).bind fun r20 => ((m_spec_l01Cyclic (IntKind.i64.wrap (1 + r20.1))).bind fun r21 => some (r21, r20.2))))))))))

/-! loop.example/g01195/spec.l01Opposite -/
noncomputable def m_spec_l01Opposite (a0 : Sq) : Option Sq := ((m_spec_l01Turned a0.t).bind fun r1 => some (⟨a0.order, r1⟩ : Sq))

/-! loop.example/g01195/spec.l01Switch -/
noncomputable def m_spec_l01Switch_l1 (a1 : Int) (a2 : Int) (x1 : Int) (x2 : Sq) : (Int × Sq) → Option (Out (Int × Sq) Sq)
  | (x4, x5) => (cond (x4 == x1) (cond ((IntKind.i64.wrap (IntKind.u8.wrap (x4 + 1))) == ((⟨((⟨x2.order, (tset x2.t (a1).toNat (x1).toNat (x2.t (a2).toNat (x1).toNat))⟩ : Sq)).order, (tset ((⟨x2.order, (tset x2.t (a1).toNat (x1).toNat (x2.t (a2).toNat (x1).toNat))⟩ : Sq)).t (a2).toNat (x1).toNat (x2.t (a1).toNat (x1).toNat))⟩ : Sq)).order) (some (.ret (⟨((⟨x2.order, (tset x2.t (a1).toNat (x1).toNat (x2.t (a2).toNat (x1).toNat))⟩ : Sq)).order, (tset ((⟨x2.order, (tset x2.t (a1).toNat (x1).toNat (x2.t (a2).toNat (x1).toNat))⟩ : Sq)).t (a2).toNat (x1).toNat (x2.t (a1).toNat (x1).toNat))⟩ : Sq))) (some (.next ((IntKind.u8.wrap (x4 + 1)), x5)))) (if 0 ≤ a1 ∧ a1 < 10 then (if 0 ≤ x4 ∧ x4 < 10 then (if 0 ≤ a1 ∧ a1 < 10 then (if 0 ≤ x1 ∧ x1 < 10 then (cond (((((⟨((⟨x2.order, (tset x2.t (a1).toNat (x1).toNat (x2.t (a2).toNat (x1).toNat))⟩ : Sq)).order, (tset ((⟨x2.order, (tset x2.t (a1).toNat (x1).toNat (x2.t (a2).toNat (x1).toNat))⟩ : Sq)).t (a2).toNat (x1).toNat (x2.t (a1).toNat (x1).toNat))⟩ : Sq)).t (a1).toNat) (x4).toNat) != ((((⟨((⟨x2.order, (tset x2.t (a1).toNat (x1).toNat (x2.t (a2).toNat (x1).toNat))⟩ : Sq)).order, (tset ((⟨x2.order, (tset x2.t (a1).toNat (x1).toNat (x2.t (a2).toNat (x1).toNat))⟩ : Sq)).t (a2).toNat (x1).toNat (x2.t (a1).toNat (x1).toNat))⟩ : Sq)).t (a1).toNat) (x1).toNat)) (cond ((IntKind.i64.wrap (IntKind.u8.wrap (x4 + 1))) == ((⟨((⟨x2.order, (tset x2.t (a1).toNat (x1).toNat (x2.t (a2).toNat (x1).toNat))⟩ : Sq)).order, (tset ((⟨x2.order, (tset x2.t (a1).toNat (x1).toNat (x2.t (a2).toNat (x1).toNat))⟩ : Sq)).t (a2).toNat (x1).toNat (x2.t (a1).toNat (x1).toNat))⟩ : Sq)).order) (some (.ret (⟨((⟨x2.order, (tset x2.t (a1).toNat (x1).toNat (x2.t (a2).toNat (x1).toNat))⟩ : Sq)).order, (tset ((⟨x2.order, (tset x2.t (a1).toNat (x1).toNat (x2.t (a2).toNat (x1).toNat))⟩ : Sq)).t (a2).toNat (x1).toNat (x2.t (a1).toNat (x1).toNat))⟩ : Sq))) (some (.next ((IntKind.u8.wrap (x4 + 1)), x5)))) (some (.stop (x4, x5) 2))) else none) else none) else none) else none))
noncomputable def m_spec_l01Switch_l0 (a1 : Int) (a2 : Int) : (Int × Sq × Sq) → Option (Out (Int × Sq × Sq) Sq)
  | (x1, x2, x3) => (if 0 ≤ a1 ∧ a1 < 10 then (if 0 ≤ x1 ∧ x1 < 10 then (if 0 ≤ a2 ∧ a2 < 10 then (if 0 ≤ x1 ∧ x1 < 10 then (if 0 ≤ a1 ∧ a1 < 10 then (if 0 ≤ x1 ∧ x1 < 10 then (if 0 ≤ a2 ∧ a2 < 10 then (if 0 ≤ x1 ∧ x1 < 10 then ((loopV (m_spec_l01Switch_l1 a1 a2 x1 x2) (0, x3)).bind fun R => match R with | .stop (x6, x7) id => (if id = 2 then some (.next (x6, (⟨((⟨x2.order, (tset x2.t (a1).toNat (x1).toNat (x2.t (a2).toNat (x1).toNat))⟩ : Sq)).order, (tset ((⟨x2.order, (tset x2.t (a1).toNat (x1).toNat (x2.t (a2).toNat (x1).toNat))⟩ : Sq)).t (a2).toNat (x1).toNat (x2.t (a1).toNat (x1).toNat))⟩ : Sq), x7)) else none) | .ret r => some (.ret r) | .next _ => none) else none) else none) else none) else none) else none) else none) else none) else none)
noncomputable def m_spec_l01Switch (a0 : Sq) (a1 : Int) (a2 : Int) (a3 : Int) : Option Sq := (cond (a1 == a2) (some a0) ((loopV (m_spec_l01Switch_l0 a1 a2) (a3, a0, sq0)).bind fun R => match R with | .stop (x8, x9, x10) id => (none) | .ret r => some r | .next _ => none))

/-! loop.example/g01195/spec.l01Draw -/
noncomputable def m_spec_l01Draw_l0 (l_s : List Int) (r1 : Sq × Rng) : (Int × Sq × Rng) → Option (Out (Int × Sq × Rng) (Sq × Rng))
  | (x1, x2, x3) => (cond (decide (x1 > 0)) ((m_spec_l01Next x3 l_s 2).bind fun r3 => (cond (r3.1 == 0) ((m_spec_l01Opposite x2).bind fun r4 => ((m_spec_l01Next r3.2 l_s r1.1.order).bind fun r5 => ((m_spec_l01Next r5.2 l_s r1.1.order).bind fun r6 => ((m_spec_l01Next r6.2 l_s r1.1.order).bind fun r7 => ((m_spec_l01Switch r4 (IntKind.u8.wrap r5.1) (IntKind.u8.wrap r6.1) (IntKind.u8.wrap r7.1)).bind fun r8 => some (.next ((IntKind.i64.wrap (x1 - 1)), r8, r7.2))))))) ((m_spec_l01Next r3.2 l_s r1.1.order).bind fun r9 => ((m_spec_l01Next r9.2 l_s r1.1.order).bind fun r10 => ((m_spec_l01Next r10.2 l_s r1.1.order).bind fun r11 => ((m_spec_l01Switch x2 (IntKind.u8.wrap r9.1) (IntKind.u8.wrap r10.1) (IntKind.u8.wrap r11.1)).bind fun r12 => some (.next ((IntKind.i64.wrap (x1 - 1)), r12, r11.2)))))))) (some (.stop (x1, x2, x3) 0)))
noncomputable def m_spec_l01Draw (a0 : Rng) (l_s : List Int) : Option (Sq × Rng) := ((m_spec_l01Known a0 l_s).bind fun r1 => ((m_spec_l01Pick r1.2 l_s ([0, 0, 1, 2, 4])).bind fun r2 => ((loopV (m_spec_l01Draw_l0 l_s r1) (r2.1, r1.1, r2.2)).bind fun R => match R with | .stop (x4, x5, x6) id => (if id = 0 then ((m_spec_l01Next x6 l_s 3).bind fun r13 => (cond (r13.1 == 0) ((m_spec_l01DrawPlaces r13.2 l_s r1.1.order).bind fun r14 => ((m_spec_l01DrawPlaces r14.2 l_s r1.1.order).bind fun r15 => ((m_spec_l01DrawPlaces r15.2 l_s r1.1.order).bind fun r16 => ((m_spec_l01Moved x5 r14.1 r15.1 r16.1).bind fun r17 => ((m_spec_l01Ordered r17).bind fun r18 => some (r18, r16.2)))))) ((m_spec_l01Ordered x5).bind fun r19 => some (r19, r13.2)))) else none) | .ret r => none | .next _ => none)))

/-! loop.example/g01195/spec.l01Broken -/
noncomputable def m_spec_l01Broken (a0 : Rng) (l_s : List Int) (a1 : Sq) : Option (Sq × Rng) := ((m_spec_l01Next a0 l_s 40).bind fun r1 => (cond (r1.1 == 0) (some ((⟨a1.order, (tset a1.t 0 0 (IntKind.u8.wrap ((a1.t 0 0) + 1)))⟩ : Sq), r1.2)) (cond (r1.1 == 1) ((m_spec_l01Pick r1.2 l_s ([0, 11, (-1), (IntKind.i64.wrap (a1.order + 1)), (IntKind.i64.wrap (a1.order - 1))])).bind fun r2 => some ((⟨r2.1, a1.t⟩ : Sq), r2.2)) (cond (r1.1 == 2) ((m_spec_l01Pick r1.2 l_s ([1, 255])).bind fun r3 => some ((⟨a1.order, (tset a1.t 9 9 (IntKind.u8.wrap r3.1))⟩ : Sq), r3.2)) (some (a1, r1.2))))))

/-! loop.example/g01195/spec.l01DrawSquare -/
noncomputable def m_spec_l01DrawSquare (a0 : Rng) (l_s : List Int) : Option (Sq × Rng) := ((m_spec_l01Draw a0 l_s).bind fun r1 => ((m_spec_l01Next r1.2 l_s 3).bind fun r2 => (cond (r2.1 == 0) (some (r1.1, r2.2)) ((m_spec_l01DrawPlaces r2.2 l_s r1.1.order).bind fun r3 => ((m_spec_l01DrawPlaces r3.2 l_s r1.1.order).bind fun r4 => ((m_spec_l01DrawPlaces r4.2 l_s r1.1.order).bind fun r5 => ((m_spec_l01Moved r1.1 r3.1 r4.1 r5.1).bind fun r6 => some (r6, r5.2))))))))

/-! loop.example/g01195/spec.l01Spoil -/
noncomputable def m_spec_l01Spoil (a0 : Rng) (l_s : List Int) : Option (Sq × Rng) := ((m_spec_l01Next a0 l_s 2).bind fun r1 => (cond (r1.1 == 0) ((m_spec_l01Draw r1.2 l_s).bind fun r2 => ((m_spec_l01Broken r2.2 l_s r2.1).bind fun r3 => some (r3.1, r3.2))) ((m_spec_l01DrawSquare r1.2 l_s).bind fun r4 => ((m_spec_l01Broken r4.2 l_s r4.1).bind fun r5 => some (r5.1, r5.2)))))

/-! loop.example/g01195/spec.DrawDirectProduct -/
noncomputable def m_spec_DrawDirectProduct (l0 : (List Int)) : Option (Sq × Sq) := ((m_spec_l01From l0).bind fun r1 => ((m_spec_l01Next r1 l0 4).bind fun r2 => (cond (r2.1 == 0) ((m_spec_l01Spoil r2.2 l0).bind fun r3 => ((m_spec_l01Spoil r3.2 l0).bind fun r4 => some (r3.1, r4.1))) ((m_spec_l01Spoil r2.2 l0).bind fun r5 => ((m_spec_l01Pick r5.2 l0 ([2, 3, 5])).bind fun r6 => ((m_spec_l01Next r6.2 l0 r6.1).bind fun r7 => ((m_spec_l01Cyclic (IntKind.i64.wrap (1 + r7.1))).bind fun r8 => ((m_spec_l01Broken r7.2 l0 r8).bind fun r9 => some (r5.1, r9.1)))))))))

/-! loop.example/g01195/impl.IsSquare -/
noncomputable def m_impl_IsSquare_l1 (a0 : Sq) (x1 : Int) : (Int × Int × Int) → Option (Out (Int × Int × Int) Bool)
  | (x2, x3, x4) => (cond (decide (x4 < 10)) (cond (decide (x1 ≥ a0.order)) (if 0 ≤ x1 ∧ x1 < 10 then (if 0 ≤ x4 ∧ x4 < 10 then (cond ((a0.t (x1).toNat (x4).toNat) != 0) (some (.ret false)) (cond (decide (x1 < a0.order)) (cond (decide (x4 < a0.order)) (if 0 ≤ x1 ∧ x1 < 10 then (if 0 ≤ x4 ∧ x4 < 10 then (cond (decide ((IntKind.i64.wrap (a0.t (x1).toNat (x4).toNat)) ≥ a0.order)) (some (.ret false)) (if 0 ≤ x4 ∧ x4 < 10 then (if 0 ≤ x1 ∧ x1 < 10 then (cond (decide ((IntKind.i64.wrap (a0.t (x4).toNat (x1).toNat)) ≥ a0.order)) (some (.ret false)) (if 0 ≤ x1 ∧ x1 < 10 then (if 0 ≤ x4 ∧ x4 < 10 then (if 0 ≤ (a0.t (x1).toNat (x4).toNat) then (if 0 ≤ x4 ∧ x4 < 10 then (if 0 ≤ x1 ∧ x1 < 10 then (if 0 ≤ (a0.t (x4).toNat (x1).toNat) then some (.next ((bits .or .i64 x2 (IntKind.i64.wrap (1 * 2 ^ (min (((a0.t (x1).toNat (x4).toNat) : Int).toNat) IntKind.i64.bits)))), (bits .or .i64 x3 (IntKind.i64.wrap (1 * 2 ^ (min (((a0.t (x4).toNat (x1).toNat) : Int).toNat) IntKind.i64.bits)))), (IntKind.i64.wrap (x4 + 1)))) else none) else none) else none) else none) else none) else none)) else none) else none)) else none) else none) (some (.next (x2, x3, (IntKind.i64.wrap (x4 + 1)))))) (some (.next (x2, x3, (IntKind.i64.wrap (x4 + 1))))))) else none) else none) (cond (decide (x4 ≥ a0.order)) (if 0 ≤ x1 ∧ x1 < 10 then (if 0 ≤ x4 ∧ x4 < 10 then (cond ((a0.t (x1).toNat (x4).toNat) != 0) (some (.ret false)) (cond (decide (x1 < a0.order)) (cond (decide (x4 < a0.order)) (if 0 ≤ x1 ∧ x1 < 10 then (if 0 ≤ x4 ∧ x4 < 10 then (cond (decide ((IntKind.i64.wrap (a0.t (x1).toNat (x4).toNat)) ≥ a0.order)) (some (.ret false)) (if 0 ≤ x4 ∧ x4 < 10 then (if 0 ≤ x1 ∧ x1 < 10 then (cond (decide ((IntKind.i64.wrap (a0.t (x4).toNat (x1).toNat)) ≥ a0.order)) (some (.ret false)) (if 0 ≤ x1 ∧ x1 < 10 then (if 0 ≤ x4 ∧ x4 < 10 then (if 0 ≤ (a0.t (x1).toNat (x4).toNat) then (if 0 ≤ x4 ∧ x4 < 10 then (if 0 ≤ x1 ∧ x1 < 10 then (if 0 ≤ (a0.t (x4).toNat (x1).toNat) then some (.next ((bits .or .i64 x2 (IntKind.i64.wrap (1 * 2 ^ (min (((a0.t (x1).toNat (x4).toNat) : Int).toNat) IntKind.i64.bits)))), (bits .or .i64 x3 (IntKind.i64.wrap (1 * 2 ^ (min (((a0.t (x4).toNat (x1).toNat) : Int).toNat) IntKind.i64.bits)))), (IntKind.i64.wrap (x4 + 1)))) else none) else none) else none) else none) else none) else none)) else none) else none)) else none) else none) (some (.next (x2, x3, (IntKind.i64.wrap (x4 + 1)))))) (some (.next (x2, x3, (IntKind.i64.wrap (x4 + 1))))))) else none) else none) (cond (decide (x1 < a0.order)) (cond (decide (x4 < a0.order)) (if 0 ≤ x1 ∧ x1 < 10 then (if 0 ≤ x4 ∧ x4 < 10 then (cond (decide ((IntKind.i64.wrap (a0.t (x1).toNat (x4).toNat)) ≥ a0.order)) (some (.ret false)) (if 0 ≤ x4 ∧ x4 < 10 then (if 0 ≤ x1 ∧ x1 < 10 then (cond (decide ((IntKind.i64.wrap (a0.t (x4).toNat (x1).toNat)) ≥ a0.order)) (some (.ret false)) (if 0 ≤ x1 ∧ x1 < 10 then (if 0 ≤ x4 ∧ x4 < 10 then (if 0 ≤ (a0.t (x1).toNat (x4).toNat) then (if 0 ≤ x4 ∧ x4 < 10 then (if 0 ≤ x1 ∧ x1 < 10 then (if 0 ≤ (a0.t (x4).toNat (x1).toNat) then some (.next ((bits .or .i64 x2 (IntKind.i64.wrap (1 * 2 ^ (min (((a0.t (x1).toNat (x4).toNat) : Int).toNat) IntKind.i64.bits)))), (bits .or .i64 x3 (IntKind.i64.wrap (1 * 2 ^ (min (((a0.t (x4).toNat (x1).toNat) : Int).toNat) IntKind.i64.bits)))), (IntKind.i64.wrap (x4 + 1)))) else none) else none) else none) else none) else none) else none)) else none) else none)) else none) else none) (some (.next (x2, x3, (IntKind.i64.wrap (x4 + 1)))))) (some (.next (x2, x3, (IntKind.i64.wrap (x4 + 1)))))))) (some (.stop (x2, x3, x4) 2)))
noncomputable def m_impl_IsSquare_l0 (a0 : Sq) : Int → Option (Out (Int) Bool)
  | x1 => (cond (decide (x1 < 10)) ((loopV (m_impl_IsSquare_l1 a0 x1) (0, 0, 0)).bind fun R => match R with | .stop (x5, x6, x7) id => (if id = 2 then (cond (decide (x1 < a0.order)) (if 0 ≤ a0.order then (cond (x5 != (IntKind.i64.wrap ((IntKind.i64.wrap (1 * 2 ^ (min ((a0.order : Int).toNat) IntKind.i64.bits))) - 1))) (some (.ret false)) (if 0 ≤ a0.order then (cond (x6 != (IntKind.i64.wrap ((IntKind.i64.wrap (1 * 2 ^ (min ((a0.order : Int).toNat) IntKind.i64.bits))) - 1))) (some (.ret false)) (some (.next (IntKind.i64.wrap (x1 + 1))))) else none)) else none) (some (.next (IntKind.i64.wrap (x1 + 1))))) else none) | .ret r => some (.ret r) | .next _ => none) (some (.stop x1 0)))
noncomputable def m_impl_IsSquare (a0 : Sq) : Option Bool := ((m_impl_within a0.order 1 10).bind fun r1 => (cond (!r1) (some false) ((loopV (m_impl_IsSquare_l0 a0) 0).bind fun R => match R with | .stop x8 id => (if id = 0 then some true else none) | .ret r => some r | .next _ => none)))

/-! loop.example/g01195/impl.direct$1 -/
noncomputable def m_impl_direct_1 (a0 : Int) (a1 : Int) (v0 : Int) (v1 : Sq) (v2 : Sq) : Option Int := (if v0 ≠ 0 then (if v0 ≠ 0 then (if 0 ≤ (IntKind.u8.wrap (a0.tdiv v0)) ∧ (IntKind.u8.wrap (a0.tdiv v0)) < 10 then (if 0 ≤ (IntKind.u8.wrap (a1.tdiv v0)) ∧ (IntKind.u8.wrap (a1.tdiv v0)) < 10 then (if v0 ≠ 0 then (if v0 ≠ 0 then (if 0 ≤ (a0.tmod v0) ∧ (a0.tmod v0) < 10 then (if 0 ≤ (a1.tmod v0) ∧ (a1.tmod v0) < 10 then some (IntKind.u8.wrap ((IntKind.u8.wrap (v0 * ((v1.t ((IntKind.u8.wrap (a0.tdiv v0))).toNat) ((IntKind.u8.wrap (a1.tdiv v0))).toNat))) + ((v2.t ((a0.tmod v0)).toNat) ((a1.tmod v0)).toNat))) else none) else none) else none) else none) else none) else none) else none) else none)

/-! (loop.example/g01195/impl.Square).elements -/
noncomputable def m_impl_Square_elements_l0 (a0 : Sq) : ((List Int) × Int) → Option (Out ((List Int) × Int) (List Int))
  | (x1, x2) => (cond (decide (x2 < (IntKind.u8.wrap a0.order))) (if x1.length + 1 ≤ 1099511627776 then some (.next ((x1 ++ [x2]), (IntKind.u8.wrap (x2 + 1)))) else none) (some (.stop (x1, x2) 0)))
noncomputable def m_impl_Square_elements (a0 : Sq) : Option (List Int) := ((loopV (m_impl_Square_elements_l0 a0) ([], 0)).bind fun R => match R with | .stop (x3, x4) id => (if id = 0 then some x3 else none) | .ret r => none | .next _ => none)

/-! loop.example/g01195/impl.made -/
noncomputable def m_impl_made_l1 (ff1 : Int → Int → Option Int) (r1 : (List Int)) (x1 : Int) (r2 : (List Int)) : (Int × Sq) → Option (Out (Int × Sq) Sq)
  | (x3, x4) => (cond (decide (x3 < ((r2.length : Nat) : Int))) (if 0 ≤ x3 ∧ x3 < (r2.length : Nat) then ((ff1 (r1.getD (x1).toNat 0) (r2.getD (x3).toNat 0)).bind fun r3 => (if 0 ≤ (r1.getD (x1).toNat 0) ∧ (r1.getD (x1).toNat 0) < 10 then (if 0 ≤ (r2.getD (x3).toNat 0) ∧ (r2.getD (x3).toNat 0) < 10 then some (.next ((IntKind.i64.wrap (x3 + 1)), (⟨x4.order, (tset x4.t ((r1.getD (x1).toNat 0)).toNat ((r2.getD (x3).toNat 0)).toNat r3)⟩ : Sq))) else none) else none)) else none) (some (.stop (x3, x4) 2)))
noncomputable def m_impl_made_l0 (ff1 : Int → Int → Option Int) (r1 : (List Int)) : (Int × Sq) → Option (Out (Int × Sq) Sq)
  | (x1, x2) => (cond (decide (x1 < ((r1.length : Nat) : Int))) (if 0 ≤ x1 ∧ x1 < (r1.length : Nat) then ((m_impl_Square_elements x2).bind fun r2 => ((loopV (m_impl_made_l1 ff1 r1 x1 r2) (0, x2)).bind fun R => match R with | .stop (x5, x6) id => (if id = 2 then some (.next ((IntKind.i64.wrap (x1 + 1)), x6)) else none) | .ret r => none | .next _ => none)) else none) (some (.stop (x1, x2) 0)))
noncomputable def m_impl_made (a0 : Int) (ff1 : Int → Int → Option Int) : Option Sq := ((m_impl_Square_elements (⟨a0, tb0⟩ : Sq)).bind fun r1 => ((loopV (m_impl_made_l0 ff1 r1) (0, (⟨a0, tb0⟩ : Sq))).bind fun R => match R with | .stop (x7, x8) id => (if id = 0 then some x8 else none) | .ret r => none | .next _ => none))

/-! loop.example/g01195/impl.direct -/
noncomputable def m_impl_direct (a0 : Sq) (a1 : Sq) : Option Sq := ((m_impl_made (IntKind.i64.wrap (a0.order * a1.order)) (fun x0_ x1_ => m_impl_direct_1 x0_ x1_ (IntKind.u8.wrap a1.order) a0 a1)).bind fun r1 => some r1)

/-! loop.example/g01195/impl.DirectProduct -/
noncomputable def m_impl_DirectProduct (a0 : Sq) (a1 : Sq) : Option (Sq × Int) := ((m_impl_IsSquare a0).bind fun r1 => (cond (!r1) (some (sq0, 1)) ((m_impl_IsSquare a1).bind fun r2 => (cond (!r2) (some (sq0, 1)) (cond (decide ((IntKind.i64.wrap (a0.order * a1.order)) > 10)) (some (sq0, 3)) ((m_impl_direct a0 a1).bind fun r3 => some (r3, 0)))))))

/-! loop.example/g01195/spec.DirectProduct -/
noncomputable def m_spec_DirectProduct (a0 : Sq) (a1 : Sq) : Option (Sq × Int) := ((m_spec_l01Is a0).bind fun r1 => (cond (!r1) (some (sq0, 1)) ((m_spec_l01Is a1).bind fun r2 => (cond (!r2) (some (sq0, 1)) (cond (decide ((IntKind.i64.wrap (a0.order * a1.order)) > 10)) (some (sq0, 3)) ((m_spec_l01Direct a0 a1).bind fun r3 => some (r3, 0)))))))

/-! (loop.example/g01195/impl.Square).isUnit -/
noncomputable def m_impl_Square_isUnit_l0 (a0 : Sq) (a1 : Int) (r1 : (List Int)) : Int → Option (Out (Int) Bool)
  | x1 => (cond (decide (x1 < ((r1.length : Nat) : Int))) (if 0 ≤ x1 ∧ x1 < (r1.length : Nat) then (if 0 ≤ a1 ∧ a1 < 10 then (if 0 ≤ (r1.getD (x1).toNat 0) ∧ (r1.getD (x1).toNat 0) < 10 then (cond (((a0.t (a1).toNat) ((r1.getD (x1).toNat 0)).toNat) != (r1.getD (x1).toNat 0)) (some (.ret false)) (if 0 ≤ (r1.getD (x1).toNat 0) ∧ (r1.getD (x1).toNat 0) < 10 then (if 0 ≤ a1 ∧ a1 < 10 then (cond (((a0.t ((r1.getD (x1).toNat 0)).toNat) (a1).toNat) != (r1.getD (x1).toNat 0)) (some (.ret false)) (some (.next (IntKind.i64.wrap (x1 + 1))))) else none) else none)) else none) else none) else none) (some (.stop x1 0)))
noncomputable def m_impl_Square_isUnit (a0 : Sq) (a1 : Int) : Option Bool := ((m_impl_Square_elements a0).bind fun r1 => ((loopV (m_impl_Square_isUnit_l0 a0 a1 r1) 0).bind fun R => match R with | .stop x2 id => (if id = 0 then some true else none) | .ret r => some r | .next _ => none))

/-! loop.example/g01195/impl.IsLoop -/
noncomputable def m_impl_IsLoop (a0 : Sq) : Option Bool := ((m_impl_IsSquare a0).bind fun r1 => (cond r1 ((m_impl_Square_isUnit a0 0).bind fun r2 => some r2) (some false)))

/-! (loop.example/g01195/impl.Square).isAssociative -/
noncomputable def m_impl_Square_isAssociative_l2 (a0 : Sq) (r1 : (List Int)) (x1 : Int) (r2 : (List Int)) (x2 : Int) (r3 : (List Int)) : Int → Option (Out (Int) Bool)
  | x3 => (cond (decide (x3 < ((r3.length : Nat) : Int))) (if 0 ≤ x3 ∧ x3 < (r3.length : Nat) then (if 0 ≤ (r1.getD (x1).toNat 0) ∧ (r1.getD (x1).toNat 0) < 10 then (if 0 ≤ (r2.getD (x2).toNat 0) ∧ (r2.getD (x2).toNat 0) < 10 then (if 0 ≤ ((a0.t ((r1.getD (x1).toNat 0)).toNat) ((r2.getD (x2).toNat 0)).toNat) ∧ ((a0.t ((r1.getD (x1).toNat 0)).toNat) ((r2.getD (x2).toNat 0)).toNat) < 10 then (if 0 ≤ (r3.getD (x3).toNat 0) ∧ (r3.getD (x3).toNat 0) < 10 then (if 0 ≤ (r2.getD (x2).toNat 0) ∧ (r2.getD (x2).toNat 0) < 10 then (if 0 ≤ (r3.getD (x3).toNat 0) ∧ (r3.getD (x3).toNat 0) < 10 then (if 0 ≤ (r1.getD (x1).toNat 0) ∧ (r1.getD (x1).toNat 0) < 10 then (if 0 ≤ ((a0.t ((r2.getD (x2).toNat 0)).toNat) ((r3.getD (x3).toNat 0)).toNat) ∧ ((a0.t ((r2.getD (x2).toNat 0)).toNat) ((r3.getD (x3).toNat 0)).toNat) < 10 then (cond (((a0.t (((a0.t ((r1.getD (x1).toNat 0)).toNat) ((r2.getD (x2).toNat 0)).toNat)).toNat) ((r3.getD (x3).toNat 0)).toNat) != ((a0.t ((r1.getD (x1).toNat 0)).toNat) (((a0.t ((r2.getD (x2).toNat 0)).toNat) ((r3.getD (x3).toNat 0)).toNat)).toNat)) (some (.ret false)) (some (.next (IntKind.i64.wrap (x3 + 1))))) else none) else none) else none) else none) else none) else none) else none) else none) else none) (some (.stop x3 4)))
noncomputable def m_impl_Square_isAssociative_l1 (a0 : Sq) (r1 : (List Int)) (x1 : Int) (r2 : (List Int)) : Int → Option (Out (Int) Bool)
  | x2 => (cond (decide (x2 < ((r2.length : Nat) : Int))) (if 0 ≤ x2 ∧ x2 < (r2.length : Nat) then ((m_impl_Square_elements a0).bind fun r3 => ((loopV (m_impl_Square_isAssociative_l2 a0 r1 x1 r2 x2 r3) 0).bind fun R => match R with | .stop x4 id => (if id = 4 then some (.next (IntKind.i64.wrap (x2 + 1))) else none) | .ret r => some (.ret r) | .next _ => none)) else none) (some (.stop x2 2)))
noncomputable def m_impl_Square_isAssociative_l0 (a0 : Sq) (r1 : (List Int)) : Int → Option (Out (Int) Bool)
  | x1 => (cond (decide (x1 < ((r1.length : Nat) : Int))) (if 0 ≤ x1 ∧ x1 < (r1.length : Nat) then ((m_impl_Square_elements a0).bind fun r2 => ((loopV (m_impl_Square_isAssociative_l1 a0 r1 x1 r2) 0).bind fun R => match R with | .stop x5 id => (if id = 2 then some (.next (IntKind.i64.wrap (x1 + 1))) else none) | .ret r => some (.ret r) | .next _ => none)) else none) (some (.stop x1 0)))
noncomputable def m_impl_Square_isAssociative (a0 : Sq) : Option Bool := ((m_impl_Square_elements a0).bind fun r1 => ((loopV (m_impl_Square_isAssociative_l0 a0 r1) 0).bind fun R => match R with | .stop x6 id => (if id = 0 then some true else none) | .ret r => some r | .next _ => none))

/-! loop.example/g01195/impl.IsGroup -/
noncomputable def m_impl_IsGroup (a0 : Sq) : Option Bool := ((m_impl_IsLoop a0).bind fun r1 => (cond r1 ((m_impl_Square_isAssociative a0).bind fun r2 => some r2) (some false)))

/-! loop.example/g01195/spec.l01Near -/
noncomputable def m_spec_l01Near (a0 : Rng) (l_s : List Int) (a1 : Int) : Option (Int × Rng) := ((m_spec_l01Next a0 l_s 14).bind fun r1 => (cond (r1.1 == 0) ((m_spec_l01Pick r1.2 l_s ([(-1), (IntKind.i64.wrap (a1 + 1)), 1099511627776, (-4611686018427387904)])).bind fun r2 => some (r2.1, r2.2)) ((m_spec_l01Next r1.2 l_s (IntKind.i64.wrap (a1 + 1))).bind fun r3 => some (r3.1, r3.2))))

/-! loop.example/g01195/spec.DrawCyclicSquare -/
noncomputable def m_spec_DrawCyclicSquare (l0 : (List Int)) : Option Int := ((m_spec_l01From l0).bind fun r1 => ((m_spec_l01Near r1 l0 9).bind fun r2 => some (IntKind.i64.wrap (1 + r2.1))))

/-! loop.example/g01195/impl.cyclic$1 -/
noncomputable def m_impl_cyclic_1 (a0 : Int) (a1 : Int) (v0 : Int) : Option Int := (if (IntKind.u8.wrap v0) ≠ 0 then some ((IntKind.u8.wrap (a0 + a1)).tmod (IntKind.u8.wrap v0)) else none)

/-! loop.example/g01195/impl.cyclic -/
noncomputable def m_impl_cyclic (a0 : Int) : Option Sq := ((m_impl_made a0 (fun x0_ x1_ => m_impl_cyclic_1 x0_ x1_ a0)).bind fun r1 => some r1)

/-! loop.example/g01195/impl.CyclicSquare -/
noncomputable def m_impl_CyclicSquare (a0 : Int) : Option (Sq × Int) := ((m_impl_within a0 1 10).bind fun r1 => (cond (!r1) (some (sq0, 2)) ((m_impl_cyclic a0).bind fun r2 => some (r2, 0))))

/-! loop.example/g01195/spec.CyclicSquare -/
noncomputable def m_spec_CyclicSquare (a0 : Int) : Option (Sq × Int) := ((m_spec_l01In a0 1 10).bind fun r1 => (cond (!r1) (some (sq0, 2)) ((m_spec_l01Cyclic a0).bind fun r2 => some (r2, 0))))

/-! loop.example/g01195/spec.DrawElementarySquare -/
noncomputable def m_spec_DrawElementarySquare (l0 : (List Int)) : Option Int := ((m_spec_l01From l0).bind fun r1 => ((m_spec_l01Near r1 l0 3).bind fun r2 => some r2.1))

/-! loop.example/g01195/impl.ElementarySquare$1 -/
noncomputable def m_impl_ElementarySquare_1 (a0 : Int) (a1 : Int) : Option Int := some (bits .xor .u8 a0 a1)

/-! loop.example/g01195/impl.ElementarySquare -/
noncomputable def m_impl_ElementarySquare (a0 : Int) : Option (Sq × Int) := ((m_impl_within a0 0 3).bind fun r1 => (cond (!r1) (some (sq0, 2)) (if 0 ≤ a0 then ((m_impl_made (IntKind.i64.wrap (1 * 2 ^ (min ((a0 : Int).toNat) IntKind.i64.bits))) (fun x0_ x1_ => m_impl_ElementarySquare_1 x0_ x1_ )).bind fun r2 => some (r2, 0)) else none)))

/-! loop.example/g01195/spec.ElementarySquare -/
noncomputable def m_spec_ElementarySquare (a0 : Int) : Option (Sq × Int) := ((m_spec_l01In a0 0 3).bind fun r1 => (cond (!r1) (some (sq0, 2)) ((m_spec_l01Elementary a0).bind fun r2 => some (r2, 0))))

/-! loop.example/g01195/laws.FnPermutations -/
noncomputable def m_laws_FnPermutations_l0 (r2 : (Nat → Int) × (Nat → Int) × Int) (r3 : (Nat → Int) × Int) (r12 : (Nat → Int) × Int) : Int → Option (Out (Int) Bool)
  | x1 => (cond (decide (x1 < r2.2.2)) (if 0 ≤ x1 ∧ x1 < 10 then (cond ((r12.1 (x1).toNat) != (IntKind.u8.wrap x1)) (some (.ret false)) (if 0 ≤ x1 ∧ x1 < 10 then (if 0 ≤ x1 ∧ x1 < 10 then (if 0 ≤ (r2.1 (x1).toNat) ∧ (r2.1 (x1).toNat) < 10 then (cond ((r3.1 (x1).toNat) != (r2.2.1 ((r2.1 (x1).toNat)).toNat)) (some (.ret false)) (some (.next (IntKind.i64.wrap (x1 + 1))))) else none) else none) else none)) else none) (some (.stop x1 0)))
noncomputable def m_laws_FnPermutations (l0 : (List Int)) : Option Bool := ((m_laws_big l0).bind fun r1 => (cond r1 (some true) ((m_spec_DrawThenPlaces l0).bind fun r2 => ((m_impl_ThenPlaces r2.1 r2.2.1 r2.2.2).bind fun r3 => ((m_spec_ThenPlaces r2.1 r2.2.1 r2.2.2).bind fun r4 => ((m_impl_BackPlaces r2.1 r2.2.2).bind fun r5 => ((m_spec_BackPlaces r2.1 r2.2.2).bind fun r6 => ((m_impl_SignOfPlaces r2.1 r2.2.2).bind fun r7 => ((m_spec_SignOfPlaces r2.1 r2.2.2).bind fun r8 => (cond (r3.2 != r4.2) (some false) (cond (!(eqPl r3.1 r4.1)) (some false) (cond (r5.2 != r6.2) (some false) (cond (!(eqPl r5.1 r6.1)) (some false) (cond (r7.2 != r8.2) (some false) (cond (r7.1 != r8.1) (some false) ((m_impl_IsPermutation r2.1 r2.2.2).bind fun r9 => ((m_spec_IsPermutation r2.1 r2.2.2).bind fun r10 => (cond (r9 != r10) (some false) ((m_impl_IsPermutation r2.1 r2.2.2).bind fun r11 => (cond (r11 != (r5.2 == 0)) (some false) (cond (r3.2 == 0) ((m_impl_ThenPlaces r2.1 r5.1 r2.2.2).bind fun r12 => ((m_impl_SignOfPlaces r2.2.1 r2.2.2).bind fun r13 => ((m_impl_SignOfPlaces r3.1 r2.2.2).bind fun r14 => (cond (r12.2 != 0) (some false) (cond (r13.2 != 0) (some false) (cond (r14.2 != 0) (some false) (cond (r14.1 != (IntKind.i64.wrap (r7.1 * r13.1))) (some false) ((loopV (m_laws_FnPermutations_l0 r2 r3 r12) 0).bind fun R => match R with | .stop x2 id => (if id = 0 then ((m_spec_DrawDirectProduct l0).bind fun r15 => ((m_impl_DirectProduct r15.1 r15.2).bind fun r16 => ((m_spec_DirectProduct r15.1 r15.2).bind fun r17 => (cond (r16.2 != r17.2) (some false) (cond (!(eqSq r16.1 r17.1)) (some false) (cond (r16.2 == 0) ((m_impl_IsSquare r16.1).bind fun r18 => (cond (!r18) (some false) ((m_impl_IsGroup r15.1).bind fun r19 => (cond r19 ((m_impl_IsGroup r15.2).bind fun r20 => ((m_impl_IsGroup r16.1).bind fun r21 => (cond (r20 != r21) (some false) ((m_spec_DrawCyclicSquare l0).bind fun r22 => ((m_impl_CyclicSquare r22).bind fun r23 => ((m_spec_CyclicSquare r22).bind fun r24 => ((m_spec_DrawElementarySquare l0).bind fun r25 => ((m_impl_ElementarySquare r25).bind fun r26 => ((m_spec_ElementarySquare r25).bind fun r27 => (cond (r23.2 == r24.2) (cond (eqSq r23.1 r24.1) (cond (r23.2 != 0) (cond (r26.2 == r27.2) (cond (eqSq r26.1 r27.1) (cond (r26.2 != 0) (some true) ((m_impl_IsGroup r26.1).bind fun r28 => some r28)) (some false)) (some false)) ((m_impl_IsGroup r23.1).bind fun r29 => (cond r29 (cond (r26.2 == r27.2) (cond (eqSq r26.1 r27.1) (cond (r26.2 != 0) (some true) ((m_impl_IsGroup r26.1).bind fun r30 => some r30)) (some false)) (some false)) (some false)))) (some false)) (some false))))))))))) ((m_spec_DrawCyclicSquare l0).bind fun r31 => ((m_impl_CyclicSquare r31).bind fun r32 => ((m_spec_CyclicSquare r31).bind fun r33 => ((m_spec_DrawElementarySquare l0).bind fun r34 => ((m_impl_ElementarySquare r34).bind fun r35 => ((m_spec_ElementarySquare r34).bind fun r36 => (cond (r32.2 == r33.2) (cond (eqSq r32.1 r33.1) (cond (r32.2 != 0) (cond (r35.2 == r36.2) (cond (eqSq r35.1 r36.1) (cond (r35.2 != 0) (some true) ((m_impl_IsGroup r35.1).bind fun r37 => some r37)) (some false)) (some false)) ((m_impl_IsGroup r32.1).bind fun r38 => (cond r38 (cond (r35.2 == r36.2) (cond (eqSq r35.1 r36.1) (cond (r35.2 != 0) (some true) ((m_impl_IsGroup r35.1).bind fun r39 => some r39)) (some false)) (some false)) (some false)))) (some false)) (some false)))))))))))) ((m_spec_DrawCyclicSquare l0).bind fun r40 => ((m_impl_CyclicSquare r40).bind fun r41 => ((m_spec_CyclicSquare r40).bind fun r42 => ((m_spec_DrawElementarySquare l0).bind fun r43 => ((m_impl_ElementarySquare r43).bind fun r44 => ((m_spec_ElementarySquare r43).bind fun r45 => (cond (r41.2 == r42.2) (cond (eqSq r41.1 r42.1) (cond (r41.2 != 0) (cond (r44.2 == r45.2) (cond (eqSq r44.1 r45.1) (cond (r44.2 != 0) (some true) ((m_impl_IsGroup r44.1).bind fun r46 => some r46)) (some false)) (some false)) ((m_impl_IsGroup r41.1).bind fun r47 => (cond r47 (cond (r44.2 == r45.2) (cond (eqSq r44.1 r45.1) (cond (r44.2 != 0) (some true) ((m_impl_IsGroup r44.1).bind fun r48 => some r48)) (some false)) (some false)) (some false)))) (some false)) (some false)))))))))))))) else none) | .ret r => some r | .next _ => none)))))))) ((m_spec_DrawDirectProduct l0).bind fun r49 => ((m_impl_DirectProduct r49.1 r49.2).bind fun r50 => ((m_spec_DirectProduct r49.1 r49.2).bind fun r51 => (cond (r50.2 != r51.2) (some false) (cond (!(eqSq r50.1 r51.1)) (some false) (cond (r50.2 == 0) ((m_impl_IsSquare r50.1).bind fun r52 => (cond (!r52) (some false) ((m_impl_IsGroup r49.1).bind fun r53 => (cond r53 ((m_impl_IsGroup r49.2).bind fun r54 => ((m_impl_IsGroup r50.1).bind fun r55 => (cond (r54 != r55) (some false) ((m_spec_DrawCyclicSquare l0).bind fun r56 => ((m_impl_CyclicSquare r56).bind fun r57 => ((m_spec_CyclicSquare r56).bind fun r58 => ((m_spec_DrawElementarySquare l0).bind fun r59 => ((m_impl_ElementarySquare r59).bind fun r60 => ((m_spec_ElementarySquare r59).bind fun r61 => (cond (r57.2 == r58.2) (cond (eqSq r57.1 r58.1) (cond (r57.2 != 0) (cond (r60.2 == r61.2) (cond (eqSq r60.1 r61.1) (cond (r60.2 != 0) (some true) ((m_impl_IsGroup r60.1).bind fun r62 => some r62)) (some false)) (some false)) ((m_impl_IsGroup r57.1).bind fun r63 => (cond r63 (cond (r60.2 == r61.2) (cond (eqSq r60.1 r61.1) (cond (r60.2 != 0) (some true) ((m_impl_IsGroup r60.1).bind fun r64 => some r64)) (some false)) (some false)) (some false)))) (some false)) (some false))))))))))) ((m_spec_DrawCyclicSquare l0).bind fun r65 => ((m_impl_CyclicSquare r65).bind fun r66 => ((m_spec_CyclicSquare r65).bind fun r67 => ((m_spec_DrawElementarySquare l0).bind fun r68 => ((m_impl_ElementarySquare r68).bind fun r69 => ((m_spec_ElementarySquare r68).bind fun r70 => (cond (r66.2 == r67.2) (cond (eqSq r66.1 r67.1) (cond (r66.2 != 0) (cond (r69.2 == r70.2) (cond (eqSq r69.1 r70.1) (cond (r69.2 != 0) (some true) ((m_impl_IsGroup r69.1).bind fun r71 => some r71)) (some false)) (some false)) ((m_impl_IsGroup r66.1).bind fun r72 => (cond r72 (cond (r69.2 == r70.2) (cond (eqSq r69.1 r70.1) (cond (r69.2 != 0) (some true) ((m_impl_IsGroup r69.1).bind fun r73 => some r73)) (some false)) (some false)) (some false)))) (some false)) (some false)))))))))))) ((m_spec_DrawCyclicSquare l0).bind fun r74 => ((m_impl_CyclicSquare r74).bind fun r75 => ((m_spec_CyclicSquare r74).bind fun r76 => ((m_spec_DrawElementarySquare l0).bind fun r77 => ((m_impl_ElementarySquare r77).bind fun r78 => ((m_spec_ElementarySquare r77).bind fun r79 => (cond (r75.2 == r76.2) (cond (eqSq r75.1 r76.1) (cond (r75.2 != 0) (cond (r78.2 == r79.2) (cond (eqSq r78.1 r79.1) (cond (r78.2 != 0) (some true) ((m_impl_IsGroup r78.1).bind fun r80 => some r80)) (some false)) (some false)) ((m_impl_IsGroup r75.1).bind fun r81 => (cond r81 (cond (r78.2 == r79.2) (cond (eqSq r78.1 r79.1) (cond (r78.2 != 0) (some true) ((m_impl_IsGroup r78.1).bind fun r82 => some r82)) (some false)) (some false)) (some false)))) (some false)) (some false)))))))))))))))))))))))))))))))))))
/-! loop.example/g01195/spec.l02Draw -/
noncomputable def m_spec_l02Draw (a0 : Rng) (l_s : List Int) (a1 : Int) : Option (Tr × Rng) := ((m_spec_l01DrawPlaces a0 l_s a1).bind fun r1 => ((m_spec_l01DrawPlaces r1.2 l_s a1).bind fun r2 => ((m_spec_l01DrawPlaces r2.2 l_s a1).bind fun r3 => ((m_spec_l01Next r3.2 l_s 30).bind fun r4 => (cond (r4.1 == 0) (if 0 ≤ (IntKind.i64.wrap (a1 - 1)) ∧ (IntKind.i64.wrap (a1 - 1)) < 10 then ((m_spec_l01Next r4.2 l_s 2).bind fun r5 => some ((⟨((⟨r1.1, r2.1, r3.1⟩ : Tr)).a, (fset ((⟨r1.1, r2.1, r3.1⟩ : Tr)).b 0 (IntKind.u8.wrap ((((⟨r1.1, r2.1, r3.1⟩ : Tr)).b ((IntKind.i64.wrap (a1 - 1))).toNat) + (IntKind.u8.wrap r5.1)))), ((⟨r1.1, r2.1, r3.1⟩ : Tr)).c⟩ : Tr), r5.2)) else none) (some ((⟨r1.1, r2.1, r3.1⟩ : Tr), r4.2)))))))

/-! loop.example/g01195/spec.DrawIsotopeOf -/
noncomputable def m_spec_DrawIsotopeOf (l0 : (List Int)) : Option (Sq × Tr) := ((m_spec_l01From l0).bind fun r1 => ((m_spec_l01Spoil r1 l0).bind fun r2 => ((m_spec_l02Draw r2.2 l0 (max2 1 (min2 r2.1.order 10))).bind fun r3 => some (r2.1, r3.1))))

/-! loop.example/g01195/impl.IsTriple -/
noncomputable def m_impl_IsTriple (a0 : Tr) (a1 : Int) : Option Bool := ((m_impl_arePermutations a1 ([a0.a, a0.b, a0.c])).bind fun r1 => some r1)

/-! loop.example/g01195/impl.isotope -/
noncomputable def m_impl_isotope_l1 (a0 : Sq) (a1 : Tr) (r1 : (List Int)) (x1 : Int) (r2 : (List Int)) : (Int × Sq) → Option (Out (Int × Sq) Sq)
  | (x3, x4) => (cond (decide (x3 < ((r2.length : Nat) : Int))) (if 0 ≤ x3 ∧ x3 < (r2.length : Nat) then (if 0 ≤ (r1.getD (x1).toNat 0) ∧ (r1.getD (x1).toNat 0) < 10 then (if 0 ≤ (r2.getD (x3).toNat 0) ∧ (r2.getD (x3).toNat 0) < 10 then (if 0 ≤ (r1.getD (x1).toNat 0) ∧ (r1.getD (x1).toNat 0) < 10 then (if 0 ≤ (r2.getD (x3).toNat 0) ∧ (r2.getD (x3).toNat 0) < 10 then (if 0 ≤ ((a0.t ((r1.getD (x1).toNat 0)).toNat) ((r2.getD (x3).toNat 0)).toNat) ∧ ((a0.t ((r1.getD (x1).toNat 0)).toNat) ((r2.getD (x3).toNat 0)).toNat) < 10 then (if 0 ≤ (a1.a ((r1.getD (x1).toNat 0)).toNat) ∧ (a1.a ((r1.getD (x1).toNat 0)).toNat) < 10 then (if 0 ≤ (a1.b ((r2.getD (x3).toNat 0)).toNat) ∧ (a1.b ((r2.getD (x3).toNat 0)).toNat) < 10 then some (.next ((IntKind.i64.wrap (x3 + 1)), (⟨x4.order, (tset x4.t ((a1.a ((r1.getD (x1).toNat 0)).toNat)).toNat ((a1.b ((r2.getD (x3).toNat 0)).toNat)).toNat (a1.c (((a0.t ((r1.getD (x1).toNat 0)).toNat) ((r2.getD (x3).toNat 0)).toNat)).toNat))⟩ : Sq))) else none) else none) else none) else none) else none) else none) else none) else none) (some (.stop (x3, x4) 2)))
noncomputable def m_impl_isotope_l0 (a0 : Sq) (a1 : Tr) (r1 : (List Int)) : (Int × Sq) → Option (Out (Int × Sq) Sq)
  | (x1, x2) => (cond (decide (x1 < ((r1.length : Nat) : Int))) (if 0 ≤ x1 ∧ x1 < (r1.length : Nat) then ((m_impl_Square_elements a0).bind fun r2 => ((loopV (m_impl_isotope_l1 a0 a1 r1 x1 r2) (0, x2)).bind fun R => match R with | .stop (x5, x6) id => (if id = 2 then some (.next ((IntKind.i64.wrap (x1 + 1)), x6)) else none) | .ret r => none | .next _ => none)) else none) (some (.stop (x1, x2) 0)))
noncomputable def m_impl_isotope (a0 : Sq) (a1 : Tr) : Option Sq := ((m_impl_Square_elements a0).bind fun r1 => ((loopV (m_impl_isotope_l0 a0 a1 r1) (0, (⟨a0.order, tb0⟩ : Sq))).bind fun R => match R with | .stop (x7, x8) id => (if id = 0 then some x8 else none) | .ret r => none | .next _ => none))

/-! loop.example/g01195/impl.IsotopeOf -/
noncomputable def m_impl_IsotopeOf (a0 : Sq) (a1 : Tr) : Option (Sq × Int) := ((m_impl_IsSquare a0).bind fun r1 => (cond (!r1) (some (sq0, 1)) ((m_impl_IsTriple a1 a0.order).bind fun r2 => (cond (!r2) (some (sq0, 1)) ((m_impl_isotope a0 a1).bind fun r3 => some (r3, 0))))))

/-! loop.example/g01195/spec.l02Is -/
noncomputable def m_spec_l02Is (a0 : Tr) (a1 : Int) : Option Bool := ((m_spec_l01Perm a0.a a1).bind fun r1 => (cond r1 ((m_spec_l01Perm a0.b a1).bind fun r2 => (cond r2 ((m_spec_l01Perm a0.c a1).bind fun r3 => some r3) (some false))) (some false)))

/-! loop.example/g01195/spec.l02Code -/
noncomputable def m_spec_l02Code (a0 : Sq) (a1 : Tr) : Option Int := ((m_spec_l01Is a0).bind fun r1 => (cond (!r1) (some 1) ((m_spec_l02Is a1 a0.order).bind fun r2 => (cond (!r2) (some 1) (some 0)))))

/-! loop.example/g01195/spec.l02Isotope -/
noncomputable def m_spec_l02Isotope_l1 (a0 : Sq) (a1 : Tr) (x1 : Int) : (Int × Sq) → Option (Out (Int × Sq) Sq)
  | (x3, x4) => (cond (decide (x3 < a0.order)) (if 0 ≤ x1 ∧ x1 < 10 then (if 0 ≤ x3 ∧ x3 < 10 then (if 0 ≤ x1 ∧ x1 < 10 then (if 0 ≤ x3 ∧ x3 < 10 then (if 0 ≤ (a0.t (x1).toNat (x3).toNat) ∧ (a0.t (x1).toNat (x3).toNat) < 10 then (if 0 ≤ (a1.a (x1).toNat) ∧ (a1.a (x1).toNat) < 10 then (if 0 ≤ (a1.b (x3).toNat) ∧ (a1.b (x3).toNat) < 10 then some (.next ((IntKind.i64.wrap (x3 + 1)), (⟨x4.order, (tset x4.t ((a1.a (x1).toNat)).toNat ((a1.b (x3).toNat)).toNat (a1.c ((a0.t (x1).toNat (x3).toNat)).toNat))⟩ : Sq))) else none) else none) else none) else none) else none) else none) else none) (some (.stop (x3, x4) 2)))
noncomputable def m_spec_l02Isotope_l0 (a0 : Sq) (a1 : Tr) : (Int × Sq) → Option (Out (Int × Sq) Sq)
  | (x1, x2) => (cond (decide (x1 < a0.order)) ((loopV (m_spec_l02Isotope_l1 a0 a1 x1) (0, x2)).bind fun R => match R with | .stop (x5, x6) id => (if id = 2 then some (.next ((IntKind.i64.wrap (x1 + 1)), x6)) else none) | .ret r => none | .next _ => none) (some (.stop (x1, x2) 0)))
noncomputable def m_spec_l02Isotope (a0 : Sq) (a1 : Tr) : Option Sq := ((loopV (m_spec_l02Isotope_l0 a0 a1) (0, (⟨a0.order, tb0⟩ : Sq))).bind fun R => match R with | .stop (x7, x8) id => (if id = 0 then some x8 else none) | .ret r => none | .next _ => none)

/-! loop.example/g01195/spec.IsotopeOf -/
noncomputable def m_spec_IsotopeOf (a0 : Sq) (a1 : Tr) : Option (Sq × Int) := ((m_spec_l02Code a0 a1).bind fun r1 => (cond (r1 != 0) (some (sq0, r1)) ((m_spec_l02Isotope a0 a1).bind fun r2 => some (r2, 0))))

/-! loop.example/g01195/spec.l02Order -/
noncomputable def m_spec_l02Order (a0 : Rng) (l_s : List Int) : Option (Int × Rng) := ((m_spec_l01Pick a0 l_s ([1, 2, 3, 5, 8, 10])).bind fun r1 => some (r1.1, r1.2))

/-! loop.example/g01195/spec.DrawThenTriples -/
noncomputable def m_spec_DrawThenTriples (l0 : (List Int)) : Option (Tr × Tr × Int) := ((m_spec_l01From l0).bind fun r1 => ((m_spec_l02Order r1 l0).bind fun r2 => ((m_spec_l02Draw r2.2 l0 r2.1).bind fun r3 => ((m_spec_l02Draw r3.2 l0 r2.1).bind fun r4 => some (r3.1, r4.1, r2.1)))))

/-! loop.example/g01195/impl.thenTriples -/
noncomputable def m_impl_thenTriples (a0 : Tr) (a1 : Tr) (a2 : Int) : Option Tr := ((m_impl_then a0.a a1.a a2).bind fun r1 => ((m_impl_then a0.b a1.b a2).bind fun r2 => ((m_impl_then a0.c a1.c a2).bind fun r3 => some (⟨r1, r2, r3⟩ : Tr))))

/-! loop.example/g01195/impl.ThenTriples -/
noncomputable def m_impl_ThenTriples (a0 : Tr) (a1 : Tr) (a2 : Int) : Option (Tr × Int) := ((m_impl_IsTriple a0 a2).bind fun r1 => (cond (!r1) (some (tr0, 1)) ((m_impl_IsTriple a1 a2).bind fun r2 => (cond (!r2) (some (tr0, 1)) ((m_impl_thenTriples a0 a1 a2).bind fun r3 => some (r3, 0))))))

/-! loop.example/g01195/spec.l02Then -/
noncomputable def m_spec_l02Then (a0 : Tr) (a1 : Tr) (a2 : Int) : Option Tr := ((m_spec_l01Then a0.a a1.a a2).bind fun r1 => ((m_spec_l01Then a0.b a1.b a2).bind fun r2 => ((m_spec_l01Then a0.c a1.c a2).bind fun r3 => some (⟨r1, r2, r3⟩ : Tr))))

/-! loop.example/g01195/spec.ThenTriples -/
noncomputable def m_spec_ThenTriples (a0 : Tr) (a1 : Tr) (a2 : Int) : Option (Tr × Int) := ((m_spec_l02Is a0 a2).bind fun r1 => (cond (!r1) (some (tr0, 1)) ((m_spec_l02Is a1 a2).bind fun r2 => (cond (!r2) (some (tr0, 1)) ((m_spec_l02Then a0 a1 a2).bind fun r3 => some (r3, 0))))))

/-! loop.example/g01195/spec.DrawIsTriple -/
noncomputable def m_spec_DrawIsTriple (l0 : (List Int)) : Option (Tr × Int) := ((m_spec_l01From l0).bind fun r1 => ((m_spec_l02Order r1 l0).bind fun r2 => ((m_spec_l02Draw r2.2 l0 r2.1).bind fun r3 => ((m_spec_l01Next r3.2 l0 16).bind fun r4 => some (r3.1, (IntKind.i64.wrap (r2.1 + (IntKind.i64.wrap (r4.1.tdiv 15)))))))))

/-! loop.example/g01195/spec.DrawBackTriple -/
noncomputable def m_spec_DrawBackTriple (l0 : (List Int)) : Option (Tr × Int) := ((m_spec_DrawIsTriple l0).bind fun r1 => some (r1.1, r1.2))

/-! loop.example/g01195/impl.backTriple -/
noncomputable def m_impl_backTriple (a0 : Tr) (a1 : Int) : Option Tr := ((m_impl_back a0.a a1).bind fun r1 => ((m_impl_back a0.b a1).bind fun r2 => ((m_impl_back a0.c a1).bind fun r3 => some (⟨r1, r2, r3⟩ : Tr))))

/-! loop.example/g01195/impl.BackTriple -/
noncomputable def m_impl_BackTriple (a0 : Tr) (a1 : Int) : Option (Tr × Int) := ((m_impl_IsTriple a0 a1).bind fun r1 => (cond (!r1) (some (tr0, 1)) ((m_impl_backTriple a0 a1).bind fun r2 => some (r2, 0))))

/-! loop.example/g01195/spec.l02Back -/
noncomputable def m_spec_l02Back (a0 : Tr) (a1 : Int) : Option Tr := ((m_spec_l01Back a0.a a1).bind fun r1 => ((m_spec_l01Back a0.b a1).bind fun r2 => ((m_spec_l01Back a0.c a1).bind fun r3 => some (⟨r1, r2, r3⟩ : Tr))))

/-! loop.example/g01195/spec.BackTriple -/
noncomputable def m_spec_BackTriple (a0 : Tr) (a1 : Int) : Option (Tr × Int) := ((m_spec_l02Is a0 a1).bind fun r1 => (cond (!r1) (some (tr0, 1)) ((m_spec_l02Back a0 a1).bind fun r2 => some (r2, 0))))

/-! loop.example/g01195/spec.IsTriple -/
noncomputable def m_spec_IsTriple (a0 : Tr) (a1 : Int) : Option Bool := ((m_spec_l02Is a0 a1).bind fun r1 => some r1)

/-! loop.example/g01195/spec.l02Start -/
noncomputable def m_spec_l02Start_l0 : (Int × Mp) → Option (Out (Int × Mp) Mp)
  | (x1, x2) => (cond (decide (x1 < 10)) (if 0 ≤ x1 ∧ x1 < 10 then some (.next ((IntKind.i64.wrap (x1 + 1)), (⟨(fset x2.a (x1).toNat (-1)), x2.b, x2.n⟩ : Mp))) else none) (some (.stop (x1, x2) 0)))
noncomputable def m_spec_l02Start : Option Mp := ((loopV (m_spec_l02Start_l0) (0, mp0)).bind fun R => match R with | .stop (x3, x4) id => (if id = 0 then some x4 else none) | .ret r => none | .next _ => none)

/-! loop.example/g01195/spec.l02Places -/
noncomputable def m_spec_l02Places_l0 (a0 : Mp) (a1 : Int) : (Int × (Nat → Int)) → Option (Out (Int × (Nat → Int)) (Nat → Int))
  | (x1, x2) => (cond (decide (x1 < a1)) (if 0 ≤ x1 ∧ x1 < 10 then (if 0 ≤ x1 ∧ x1 < 10 then some (.next ((IntKind.i64.wrap (x1 + 1)), (fset x2 (x1).toNat (IntKind.u8.wrap (a0.a (x1).toNat))))) else none) else none) (some (.stop (x1, x2) 0)))
noncomputable def m_spec_l02Places (a0 : Mp) (a1 : Int) : Option (Nat → Int) := ((loopV (m_spec_l02Places_l0 a0 a1) (0, pl0)).bind fun R => match R with | .stop (x3, x4) id => (if id = 0 then some x4 else none) | .ret r => none | .next _ => none)

/-! loop.example/g01195/spec.l02Close -/
noncomputable def m_spec_l02Close_l0 (a0 : Sq) (a1 : Sq) (a3 : Int) (a4 : Int) (rec : Sq → Sq → Mp → Int → Int → Option (Mp × Bool)) : (Int × Mp × Mp) → Option (Out (Int × Mp × Mp) (Mp × Bool))
  | (x1, x2, x3) => (cond (decide (x1 < a0.order)) (if 0 ≤ x1 ∧ x1 < 10 then (cond (decide ((x2.a (x1).toNat) < 0)) (some (.next ((IntKind.i64.wrap (x1 + 1)), x2, x3))) (if 0 ≤ a3 ∧ a3 < 10 then (if 0 ≤ x1 ∧ x1 < 10 then (if 0 ≤ x1 ∧ x1 < 10 then (if 0 ≤ a4 ∧ a4 < 10 then (if 0 ≤ (x2.a (x1).toNat) ∧ (x2.a (x1).toNat) < 10 then ((rec a0 a1 x2 (IntKind.i64.wrap (a0.t (a3).toNat (x1).toNat)) (IntKind.i64.wrap ((a1.t (a4).toNat) ((x2.a (x1).toNat)).toNat))).bind fun r1 => (cond (!r1.2) (some (.ret (r1.1, false))) (if 0 ≤ x1 ∧ x1 < 10 then (if 0 ≤ a3 ∧ a3 < 10 then (if 0 ≤ x1 ∧ x1 < 10 then (if 0 ≤ (x2.a (x1).toNat) ∧ (x2.a (x1).toNat) < 10 then (if 0 ≤ a4 ∧ a4 < 10 then ((rec a0 a1 r1.1 (IntKind.i64.wrap (a0.t (x1).toNat (a3).toNat)) (IntKind.i64.wrap ((a1.t ((x2.a (x1).toNat)).toNat) (a4).toNat))).bind fun r2 => (cond (!r2.2) (some (.ret (r2.1, false))) (some (.next ((IntKind.i64.wrap (x1 + 1)), r2.1, x3))))) else none) else none) else none) else none) else none))) else none) else none) else none) else none) else none)) else none) (some (.stop (x1, x2, x3) 0)))
noncomputable def m_spec_l02Close_b (rec : Sq → Sq → Mp → Int → Int → Option (Mp × Bool)) (a0 : Sq) (a1 : Sq) (a2 : Mp) (a3 : Int) (a4 : Int) : Option (Mp × Bool) := (if 0 ≤ a3 ∧ a3 < 10 then (cond (decide ((a2.a (a3).toNat) ≥ 0)) (if 0 ≤ a3 ∧ a3 < 10 then some (a2, ((a2.a (a3).toNat) == a4)) else none) (if 0 ≤ a4 ∧ a4 < 10 then (cond (decide ((a2.b (a4).toNat) > 0)) (if 0 ≤ a3 ∧ a3 < 10 then some (a2, ((a2.a (a3).toNat) == a4)) else none) (if 0 ≤ a3 ∧ a3 < 10 then (if 0 ≤ a4 ∧ a4 < 10 then ((loopV (m_spec_l02Close_l0 a0 a1 a3 a4 rec) (0, (⟨((⟨((⟨(fset a2.a (a3).toNat a4), a2.b, a2.n⟩ : Mp)).a, (fset ((⟨(fset a2.a (a3).toNat a4), a2.b, a2.n⟩ : Mp)).b (a4).toNat 1), ((⟨(fset a2.a (a3).toNat a4), a2.b, a2.n⟩ : Mp)).n⟩ : Mp)).a, ((⟨((⟨(fset a2.a (a3).toNat a4), a2.b, a2.n⟩ : Mp)).a, (fset ((⟨(fset a2.a (a3).toNat a4), a2.b, a2.n⟩ : Mp)).b (a4).toNat 1), ((⟨(fset a2.a (a3).toNat a4), a2.b, a2.n⟩ : Mp)).n⟩ : Mp)).b, (IntKind.i64.wrap (((⟨((⟨(fset a2.a (a3).toNat a4), a2.b, a2.n⟩ : Mp)).a, (fset ((⟨(fset a2.a (a3).toNat a4), a2.b, a2.n⟩ : Mp)).b (a4).toNat 1), ((⟨(fset a2.a (a3).toNat a4), a2.b, a2.n⟩ : Mp)).n⟩ : Mp)).n + 1))⟩ : Mp), mp0)).bind fun R => match R with | .stop (x4, x5, x6) id => (if id = 0 then some (x5, true) else none) | .ret r => some (r.1, r.2) | .next _ => none) else none) else none)) else none)) else none)
noncomputable def m_spec_l02Close_w : Nat → Sq → Sq → Mp → Int → Int → Option (Mp × Bool)
  | 0 => fun _ _ _ _ _ => none
  | k + 1 => m_spec_l02Close_b (m_spec_l02Close_w k)
noncomputable def m_spec_l02Close (a0 : Sq) (a1 : Sq) (a2 : Mp) (a3 : Int) (a4 : Int) : Option (Mp × Bool) := m_spec_l02Close_w 1000 a0 a1 a2 a3 a4

/-! loop.example/g01195/spec.l02Maps -/
noncomputable def m_spec_l02Maps_l0 (a2 : Mp) : Int → Option (Out (Int) (List (Nat → Int)))
  | x1 => (if 0 ≤ x1 ∧ x1 < 10 then (cond (decide ((a2.a (x1).toNat) ≥ 0)) (some (.next (IntKind.i64.wrap (x1 + 1)))) (some (.stop x1 0))) else none)
noncomputable def m_spec_l02Maps_l1 (a0 : Sq) (a1 : Sq) (a2 : Mp) (a3 : Int) (rec : Sq → Sq → Mp → Int → (List (Nat → Int)) → Option (List (Nat → Int))) (x2 : Int) : ((List (Nat → Int)) × Int) → Option (Out ((List (Nat → Int)) × Int) (List (Nat → Int)))
  | (x3, x4) => (cond (decide (x4 < a0.order)) (cond (decide (((x3.length : Nat) : Int) < a3)) (if 0 ≤ x4 ∧ x4 < 10 then (cond (decide ((a2.b (x4).toNat) > 0)) (some (.next (x3, (IntKind.i64.wrap (x4 + 1))))) ((m_spec_l02Close a0 a1 a2 x2 x4).bind fun r2 => (cond r2.2 ((rec a0 a1 r2.1 a3 x3).bind fun r3 => some (.next (r3, (IntKind.i64.wrap (x4 + 1))))) (some (.next (x3, (IntKind.i64.wrap (x4 + 1)))))))) else none) (some (.stop (x3, x4) 2))) (some (.stop (x3, x4) 2)))
noncomputable def m_spec_l02Maps_b (rec : Sq → Sq → Mp → Int → (List (Nat → Int)) → Option (List (Nat → Int))) (a0 : Sq) (a1 : Sq) (a2 : Mp) (a3 : Int) (l4 : (List (Nat → Int))) : Option (List (Nat → Int)) := (cond (a2.n == a0.order) ((m_spec_l02Places a2 a0.order).bind fun r1 => (if l4.length + 1 ≤ 1099511627776 then some (l4 ++ [r1]) else none)) ((loopV (m_spec_l02Maps_l0 a2) 0).bind fun R => match R with | .stop x2 id => (if id = 0 then ((loopV (m_spec_l02Maps_l1 a0 a1 a2 a3 rec x2) (l4, 0)).bind fun R => match R with | .stop (x5, x6) id => (if id = 2 then some x5 else none) | .ret r => none | .next _ => none) else none) | .ret r => none | .next _ => none))
noncomputable def m_spec_l02Maps_w : Nat → Sq → Sq → Mp → Int → (List (Nat → Int)) → Option (List (Nat → Int))
  | 0 => fun _ _ _ _ _ => none
  | k + 1 => m_spec_l02Maps_b (m_spec_l02Maps_w k)
noncomputable def m_spec_l02Maps (a0 : Sq) (a1 : Sq) (a2 : Mp) (a3 : Int) (l4 : (List (Nat → Int))) : Option (List (Nat → Int)) := m_spec_l02Maps_w 1000 a0 a1 a2 a3 l4

/-! loop.example/g01195/spec.l02All -/
noncomputable def m_spec_l02All (a0 : Sq) (a1 : Sq) (a2 : Int) : Option (List (Nat → Int)) := (cond (a0.order != a1.order) (some ([])) ((m_spec_l02Start ).bind fun r1 => ((m_spec_l02Maps a0 a1 r1 a2 ([])).bind fun r2 => some r2)))

/-! loop.example/g01195/spec.DrawIsAutotopism -/
noncomputable def m_spec_DrawIsAutotopism (l0 : (List Int)) : Option (Sq × Tr) := ((m_spec_l01From l0).bind fun r1 => ((m_spec_l01Spoil r1 l0).bind fun r2 => ((m_spec_l01Is r2.1).bind fun r3 => (cond (!r3) ((m_spec_l02Draw r2.2 l0 3).bind fun r4 => some (r2.1, r4.1)) ((m_spec_l02All r2.1 r2.1 20).bind fun r5 => ((m_spec_l01Next r2.2 l0 2).bind fun r6 => (cond (r6.1 == 0) (cond (decide (((r5.length : Nat) : Int) > 0)) ((m_spec_l01Next r6.2 l0 ((r5.length : Nat) : Int)).bind fun r7 => (if 0 ≤ r7.1 ∧ r7.1 < (r5.length : Nat) then some (r2.1, (⟨(r5.getD (r7.1).toNat pl0), (r5.getD (r7.1).toNat pl0), (r5.getD (r7.1).toNat pl0)⟩ : Tr)) else none)) ((m_spec_l02Draw r6.2 l0 r2.1.order).bind fun r8 => some (r2.1, r8.1))) ((m_spec_l02Draw r6.2 l0 r2.1.order).bind fun r9 => some (r2.1, r9.1)))))))))

/-! loop.example/g01195/impl.IsAutotopism -/
noncomputable def m_impl_IsAutotopism (a0 : Sq) (a1 : Tr) : Option (Bool × Int) := ((m_impl_IsSquare a0).bind fun r1 => (cond (!r1) (some (false, 1)) ((m_impl_IsTriple a1 a0.order).bind fun r2 => (cond (!r2) (some (false, 1)) ((m_impl_isotope a0 a1).bind fun r3 => some ((eqSq r3 a0), 0))))))

/-! loop.example/g01195/spec.IsAutotopism -/
noncomputable def m_spec_IsAutotopism (a0 : Sq) (a1 : Tr) : Option (Bool × Int) := ((m_spec_l02Code a0 a1).bind fun r1 => (cond (r1 != 0) (some (false, r1)) ((m_spec_l02Isotope a0 a1).bind fun r2 => some ((eqSq r2 a0), 0))))

/-! loop.example/g01195/spec.DrawLoopAt -/
noncomputable def m_spec_DrawLoopAt (l0 : (List Int)) : Option (Sq × Int × Int) := ((m_spec_l01From l0).bind fun r1 => ((m_spec_l01Spoil r1 l0).bind fun r2 => ((m_spec_l01Next r2.2 l0 30).bind fun r3 => ((m_spec_l01Next r3.2 l0 (IntKind.i64.wrap ((max2 1 r2.1.order) + (IntKind.i64.wrap (r3.1.tdiv 29))))).bind fun r4 => ((m_spec_l01Next r4.2 l0 (max2 1 r2.1.order)).bind fun r5 => some (r2.1, (IntKind.u8.wrap r4.1), (IntKind.u8.wrap r5.1)))))))

/-! (loop.example/g01195/impl.Square).has -/
noncomputable def m_impl_Square_has_l0 (a0 : Sq) (l1 : (List Int)) : Int → Option (Out (Int) Bool)
  | x1 => (cond (decide (x1 < ((l1.length : Nat) : Int))) (if 0 ≤ x1 ∧ x1 < (l1.length : Nat) then (cond (decide ((IntKind.i64.wrap (l1.getD (x1).toNat 0)) ≥ a0.order)) (some (.ret false)) (some (.next (IntKind.i64.wrap (x1 + 1))))) else none) (some (.stop x1 0)))
noncomputable def m_impl_Square_has (a0 : Sq) (l1 : (List Int)) : Option Bool := ((loopV (m_impl_Square_has_l0 a0 l1) 0).bind fun R => match R with | .stop x2 id => (if id = 0 then some true else none) | .ret r => some r | .next _ => none)

/-! loop.example/g01195/impl.checked -/
noncomputable def m_impl_checked (a0 : Sq) (l1 : (List Int)) : Option Int := ((m_impl_IsSquare a0).bind fun r1 => (cond (!r1) (some 1) ((m_impl_Square_has a0 l1).bind fun r2 => (cond (!r2) (some 2) (some 0)))))

/-! loop.example/g01195/impl.identity -/
noncomputable def m_impl_identity_l0 (a0 : Int) : (Int × (Nat → Int)) → Option (Out (Int × (Nat → Int)) (Nat → Int))
  | (x1, x2) => (cond (decide (x1 < a0)) (if 0 ≤ x1 ∧ x1 < 10 then some (.next ((IntKind.i64.wrap (x1 + 1)), (fset x2 (x1).toNat (IntKind.u8.wrap x1)))) else none) (some (.stop (x1, x2) 0)))
noncomputable def m_impl_identity (a0 : Int) : Option (Nat → Int) := ((loopV (m_impl_identity_l0 a0) (0, pl0)).bind fun R => match R with | .stop (x3, x4) id => (if id = 0 then some x4 else none) | .ret r => none | .next _ => none)

/-! (loop.example/g01195/impl.Square).column -/
noncomputable def m_impl_Square_column_l0 (a0 : Sq) (a1 : Int) : (Int × (Nat → Int)) → Option (Out (Int × (Nat → Int)) (Nat → Int))
  | (x1, x2) => (cond (decide (x1 < 10)) (if 0 ≤ x1 ∧ x1 < 10 then (if 0 ≤ a1 ∧ a1 < 10 then (if 0 ≤ x1 ∧ x1 < 10 then some (.next ((IntKind.i64.wrap (x1 + 1)), (fset x2 (x1).toNat (a0.t (x1).toNat (a1).toNat)))) else none) else none) else none) (some (.stop (x1, x2) 0)))
noncomputable def m_impl_Square_column (a0 : Sq) (a1 : Int) : Option (Nat → Int) := ((loopV (m_impl_Square_column_l0 a0 a1) (0, pl0)).bind fun R => match R with | .stop (x3, x4) id => (if id = 0 then some x4 else none) | .ret r => none | .next _ => none)

/-! (loop.example/g01195/impl.Square).row -/
noncomputable def m_impl_Square_row (a0 : Sq) (a1 : Int) : Option (Nat → Int) := (if 0 ≤ a1 ∧ a1 < 10 then some (a0.t (a1).toNat) else none)

/-! loop.example/g01195/impl.toLoop -/
noncomputable def m_impl_toLoop (a0 : Sq) (a1 : Int) (a2 : Int) : Option Tr := (if 0 ≤ a1 ∧ a1 < 10 then (if 0 ≤ a2 ∧ a2 < 10 then ((m_impl_identity a0.order).bind fun r1 => (if 0 ≤ (a0.t (a1).toNat (a2).toNat) ∧ (a0.t (a1).toNat (a2).toNat) < 10 then ((m_impl_Square_column a0 a2).bind fun r2 => ((m_impl_then r2 (fset (fset r1 0 (a0.t (a1).toNat (a2).toNat)) ((a0.t (a1).toNat (a2).toNat)).toNat 0) a0.order).bind fun r3 => ((m_impl_Square_row a0 a1).bind fun r4 => ((m_impl_then r4 (fset (fset r1 0 (a0.t (a1).toNat (a2).toNat)) ((a0.t (a1).toNat (a2).toNat)).toNat 0) a0.order).bind fun r5 => some (⟨r3, r5, (fset (fset r1 0 (a0.t (a1).toNat (a2).toNat)) ((a0.t (a1).toNat (a2).toNat)).toNat 0)⟩ : Tr))))) else none)) else none) else none)

/-! loop.example/g01195/impl.LoopAt -/
noncomputable def m_impl_LoopAt (a0 : Sq) (a1 : Int) (a2 : Int) : Option (Sq × Int) := ((m_impl_checked a0 ([a1, a2])).bind fun r1 => (cond (r1 != 0) (some (sq0, r1)) ((m_impl_toLoop a0 a1 a2).bind fun r2 => ((m_impl_isotope a0 r2).bind fun r3 => some (r3, 0)))))

/-! loop.example/g01195/spec.l02To -/
noncomputable def m_spec_l02To (a0 : Sq) (a1 : Int) (a2 : Int) : Option Tr := ((m_spec_l01Same a0.order).bind fun r1 => (if 0 ≤ a1 ∧ a1 < 10 then (if 0 ≤ a2 ∧ a2 < 10 then (if 0 ≤ (a0.t (a1).toNat (a2).toNat) ∧ (a0.t (a1).toNat (a2).toNat) < 10 then ((m_spec_l01Column a0 a2).bind fun r2 => ((m_spec_l01Then r2 (fset (fset r1 0 (a0.t (a1).toNat (a2).toNat)) ((a0.t (a1).toNat (a2).toNat)).toNat 0) a0.order).bind fun r3 => ((m_spec_l01Row a0 a1).bind fun r4 => ((m_spec_l01Then r4 (fset (fset r1 0 (a0.t (a1).toNat (a2).toNat)) ((a0.t (a1).toNat (a2).toNat)).toNat 0) a0.order).bind fun r5 => some (⟨r3, r5, (fset (fset r1 0 (a0.t (a1).toNat (a2).toNat)) ((a0.t (a1).toNat (a2).toNat)).toNat 0)⟩ : Tr))))) else none) else none) else none))

/-! loop.example/g01195/spec.LoopAt -/
noncomputable def m_spec_LoopAt (a0 : Sq) (a1 : Int) (a2 : Int) : Option (Sq × Int) := ((m_spec_l01Is a0).bind fun r1 => (cond (!r1) (some (sq0, 1)) (cond (decide ((IntKind.i64.wrap a1) ≥ a0.order)) (some (sq0, 2)) (cond (decide ((IntKind.i64.wrap a2) ≥ a0.order)) (some (sq0, 2)) ((m_spec_l02To a0 a1 a2).bind fun r2 => ((m_spec_l02Isotope a0 r2).bind fun r3 => some (r3, 0)))))))

/-! loop.example/g01195/laws.FnTripleIsotopes -/
noncomputable def m_laws_FnTripleIsotopes (l0 : (List Int)) : Option Bool := ((m_laws_big l0).bind fun r1 => (cond r1 (some true) ((m_spec_DrawIsotopeOf l0).bind fun r2 => ((m_impl_IsotopeOf r2.1 r2.2).bind fun r3 => ((m_spec_IsotopeOf r2.1 r2.2).bind fun r4 => (cond (r3.2 != r4.2) (some false) (cond (!(eqSq r3.1 r4.1)) (some false) ((m_spec_DrawThenTriples l0).bind fun r5 => ((m_impl_ThenTriples r5.1 r5.2.1 r5.2.2).bind fun r6 => ((m_spec_ThenTriples r5.1 r5.2.1 r5.2.2).bind fun r7 => (cond (r6.2 != r7.2) (some false) (cond (!(eqTr r6.1 r7.1)) (some false) ((m_spec_DrawBackTriple l0).bind fun r8 => ((m_impl_BackTriple r8.1 r8.2).bind fun r9 => ((m_spec_BackTriple r8.1 r8.2).bind fun r10 => (cond (r9.2 != r10.2) (some false) (cond (!(eqTr r9.1 r10.1)) (some false) ((m_impl_IsTriple r8.1 r8.2).bind fun r11 => ((m_spec_IsTriple r8.1 r8.2).bind fun r12 => (cond (r11 != r12) (some false) ((m_spec_DrawIsAutotopism l0).bind fun r13 => ((m_impl_IsAutotopism r13.1 r13.2).bind fun r14 => ((m_spec_IsAutotopism r13.1 r13.2).bind fun r15 => (cond (r14.2 != r15.2) (some false) (cond (r14.1 != r15.1) (some false) ((m_spec_DrawLoopAt l0).bind fun r16 => ((m_impl_LoopAt r16.1 r16.2.1 r16.2.2).bind fun r17 => ((m_spec_LoopAt r16.1 r16.2.1 r16.2.2).bind fun r18 => (cond (r17.2 != r18.2) (some false) (cond (!(eqSq r17.1 r18.1)) (some false) (cond (r17.2 == 0) ((m_impl_IsLoop r17.1).bind fun r19 => (cond (!r19) (some false) (cond (r3.2 != 0) (some (r3.1.order == 0)) ((m_impl_BackTriple r2.2 r2.1.order).bind fun r20 => ((m_impl_IsotopeOf r3.1 r20.1).bind fun r21 => ((m_impl_ThenTriples r2.2 r20.1 r2.1.order).bind fun r22 => ((m_impl_IsAutotopism r2.1 r22.1).bind fun r23 => (cond (r20.2 == 0) (cond (r21.2 == 0) (cond (eqSq r21.1 r2.1) (cond (r22.2 == 0) (cond (r23.2 == 0) (cond r23.1 ((m_impl_IsSquare r3.1).bind fun r24 => some r24) (some false)) (some false)) (some false)) (some false)) (some false)) (some false))))))))) (cond (r3.2 != 0) (some (r3.1.order == 0)) ((m_impl_BackTriple r2.2 r2.1.order).bind fun r25 => ((m_impl_IsotopeOf r3.1 r25.1).bind fun r26 => ((m_impl_ThenTriples r2.2 r25.1 r2.1.order).bind fun r27 => ((m_impl_IsAutotopism r2.1 r27.1).bind fun r28 => (cond (r25.2 == 0) (cond (r26.2 == 0) (cond (eqSq r26.1 r2.1) (cond (r27.2 == 0) (cond (r28.2 == 0) (cond r28.1 ((m_impl_IsSquare r3.1).bind fun r29 => some r29) (some false)) (some false)) (some false)) (some false)) (some false)) (some false))))))))))))))))))))))))))))))))))))))
end Go.Lab
