/- Models of the functions: what they compute, as Lean functions. -/
import Derived.Test.YthhgemlaiekjpabA
set_option linter.unusedVariables false
set_option linter.unusedSimpArgs false
namespace Go.Lab
open Go Go.Abs
set_option maxRecDepth 20000
set_option linter.unusedVariables false
set_option linter.unusedSimpArgs false
/-! loop.example/g01195/laws.big -/
noncomputable def m_laws_big (l0 : (List Int)) : Option Bool := some (decide (((l0.length : Nat) : Int) > 4096))

/-! loop.example/g01195/spec.l01From -/
noncomputable def m_spec_l01From_l0 (l0 : (List Int)) : (Int × Rng) → Option (Out (Int × Rng) Rng)
  | (x1, x2) => (cond (decide (x1 < ((l0.length : Nat) : Int))) (cond (decide (x1 < 4096)) (if 0 ≤ x1 ∧ x1 < (l0.length : Nat) then some (.next ((IntKind.i64.wrap (x1 + 1)), (⟨x2.at_, (IntKind.u64.wrap ((IntKind.u64.wrap ((IntKind.u64.wrap (x2.hash * 1099511628211)) + (IntKind.u64.wrap (l0.getD (x1).toNat 0)))) + 19))⟩ : Rng))) else none) (some (.stop (x1, x2) 0))) (some (.stop (x1, x2) 0)))
noncomputable def m_spec_l01From (l0 : (List Int)) : Option Rng := ((loopV (m_spec_l01From_l0 l0) (0, (⟨0, (IntKind.u64.wrap (7351 + (IntKind.u64.wrap ((l0.length : Nat) : Int))))⟩ : Rng))).bind fun R => match R with | .stop (x3, x4) id => (if id = 0 then some x4 else none) | .ret r => none | .next _ => none)

/-! loop.example/g01195/spec.l01Next -/
noncomputable def m_spec_l01Next (a0 : Rng) (l_s : List Int) (a1 : Int) : Option (Int × Rng) := (cond (decide (a1 < 1)) (some (0, a0)) (cond (decide (((⟨a0.at_, (IntKind.u64.wrap ((IntKind.u64.wrap (a0.hash * 6364136223846793005)) + 1442695040888963407))⟩ : Rng)).at_ < ((l_s.length : Nat) : Int))) (if 0 ≤ ((⟨a0.at_, (IntKind.u64.wrap ((IntKind.u64.wrap (a0.hash * 6364136223846793005)) + 1442695040888963407))⟩ : Rng)).at_ ∧ ((⟨a0.at_, (IntKind.u64.wrap ((IntKind.u64.wrap (a0.hash * 6364136223846793005)) + 1442695040888963407))⟩ : Rng)).at_ < (l_s.length : Nat) then (if a1 ≠ 0 then some (((IntKind.i64.wrap ((IntKind.i64.wrap (bits .and .u64 ((((⟨a0.at_, (IntKind.u64.wrap ((IntKind.u64.wrap (a0.hash * 6364136223846793005)) + 1442695040888963407))⟩ : Rng)).hash).fdiv (2 ^ (min ((33 : Int).toNat) IntKind.u64.bits))) 16777215)) + (IntKind.i64.wrap (l_s.getD (((⟨a0.at_, (IntKind.u64.wrap ((IntKind.u64.wrap (a0.hash * 6364136223846793005)) + 1442695040888963407))⟩ : Rng)).at_).toNat 0)))).tmod a1), (⟨(IntKind.i64.wrap (((⟨a0.at_, (IntKind.u64.wrap ((IntKind.u64.wrap (a0.hash * 6364136223846793005)) + 1442695040888963407))⟩ : Rng)).at_ + 1)), ((⟨a0.at_, (IntKind.u64.wrap ((IntKind.u64.wrap (a0.hash * 6364136223846793005)) + 1442695040888963407))⟩ : Rng)).hash⟩ : Rng)) else none) else none) (if a1 ≠ 0 then some (((IntKind.i64.wrap (bits .and .u64 ((((⟨a0.at_, (IntKind.u64.wrap ((IntKind.u64.wrap (a0.hash * 6364136223846793005)) + 1442695040888963407))⟩ : Rng)).hash).fdiv (2 ^ (min ((33 : Int).toNat) IntKind.u64.bits))) 16777215)).tmod a1), (⟨a0.at_, (IntKind.u64.wrap ((IntKind.u64.wrap (a0.hash * 6364136223846793005)) + 1442695040888963407))⟩ : Rng)) else none)))

/-! loop.example/g01195/spec.l01Same -/
noncomputable def m_spec_l01Same_l0 (a0 : Int) : (Int × (Nat → Int)) → Option (Out (Int × (Nat → Int)) (Nat → Int))
  | (x1, x2) => (cond (decide (x1 < a0)) (if 0 ≤ x1 ∧ x1 < 10 then some (.next ((IntKind.i64.wrap (x1 + 1)), (fset x2 (x1).toNat (IntKind.u8.wrap x1)))) else none) (some (.stop (x1, x2) 0)))
noncomputable def m_spec_l01Same (a0 : Int) : Option (Nat → Int) := ((loopV (m_spec_l01Same_l0 a0) (0, pl0)).bind fun R => match R with | .stop (x3, x4) id => (if id = 0 then some x4 else none) | .ret r => none | .next _ => none)

/-! loop.example/g01195/spec.l01DrawPlaces -/
noncomputable def m_spec_l01DrawPlaces_l0 (l_s : List Int) : (Int × (Nat → Int) × Rng) → Option (Out (Int × (Nat → Int) × Rng) ((Nat → Int) × Rng))
  | (x1, x2, x3) => (cond (decide (x1 > 0)) ((m_spec_l01Next x3 l_s (IntKind.i64.wrap (x1 + 1))).bind fun r3 => (if 0 ≤ x1 ∧ x1 < 10 then (if 0 ≤ r3.1 ∧ r3.1 < 10 then (if 0 ≤ x1 ∧ x1 < 10 then (if 0 ≤ r3.1 ∧ r3.1 < 10 then some (.next ((IntKind.i64.wrap (x1 - 1)), (fset (fset x2 (x1).toNat (x2 (r3.1).toNat)) (r3.1).toNat (x2 (x1).toNat)), r3.2)) else none) else none) else none) else none)) (some (.stop (x1, x2, x3) 0)))
noncomputable def m_spec_l01DrawPlaces (a0 : Rng) (l_s : List Int) (a1 : Int) : Option ((Nat → Int) × Rng) := ((m_spec_l01Same a1).bind fun r1 => ((m_spec_l01Next a0 l_s 6).bind fun r2 => (cond (r2.1 == 0) (some (r1, r2.2)) ((loopV (m_spec_l01DrawPlaces_l0 l_s) ((IntKind.i64.wrap (a1 - 1)), r1, r2.2)).bind fun R => match R with | .stop (x4, x5, x6) id => (if id = 0 then some (x5, x6) else none) | .ret r => none | .next _ => none))))

/-! loop.example/g01195/spec.l01Pick -/
noncomputable def m_spec_l01Pick (a0 : Rng) (l_s : List Int) (l1 : (List Int)) : Option (Int × Rng) := ((m_spec_l01Next a0 l_s ((l1.length : Nat) : Int)).bind fun r1 => (if 0 ≤ r1.1 ∧ r1.1 < (l1.length : Nat) then some ((l1.getD (r1.1).toNat 0), r1.2) else none))

/-! loop.example/g01195/spec.l01Any -/
/-! loop.example/g01195/spec.DrawThenPlaces -/
/-! loop.example/g01195/impl.within -/
noncomputable def m_impl_within (a0 : Int) (a1 : Int) (a2 : Int) : Option Bool := (cond (decide (a0 ≥ a1)) (some (decide (a0 ≤ a2))) (some false))

/-! loop.example/g01195/impl.IsPermutation -/
/-! loop.example/g01195/impl.arePermutations -/
/-! loop.example/g01195/impl.then -/
/-! loop.example/g01195/impl.ThenPlaces -/
/-! loop.example/g01195/spec.l01In -/
noncomputable def m_spec_l01In (a0 : Int) (a1 : Int) (a2 : Int) : Option Bool := (cond (decide (a0 ≥ a1)) (some (decide (a0 ≤ a2))) (some false))

/-! loop.example/g01195/spec.l01Perm -/
noncomputable def m_spec_l01Perm_l0 (a0 : (Nat → Int)) (a1 : Int) : (Int × (Nat → Bool)) → Option (Out (Int × (Nat → Bool)) Bool)
  | (x1, x2) => (cond (decide (x1 < 10)) (cond (decide (x1 ≥ a1)) (if 0 ≤ x1 ∧ x1 < 10 then (cond ((a0 (x1).toNat) != 0) (some (.ret false)) (some (.next ((IntKind.i64.wrap (x1 + 1)), x2)))) else none) (if 0 ≤ x1 ∧ x1 < 10 then (cond (decide ((IntKind.i64.wrap (a0 (x1).toNat)) ≥ a1)) (some (.ret false)) (if 0 ≤ x1 ∧ x1 < 10 then (if 0 ≤ (a0 (x1).toNat) ∧ (a0 (x1).toNat) < 10 then (cond (x2 ((a0 (x1).toNat)).toNat) (some (.ret false)) (if 0 ≤ x1 ∧ x1 < 10 then (if 0 ≤ (a0 (x1).toNat) ∧ (a0 (x1).toNat) < 10 then some (.next ((IntKind.i64.wrap (x1 + 1)), (fset x2 ((a0 (x1).toNat)).toNat true))) else none) else none)) else none) else none)) else none)) (some (.stop (x1, x2) 0)))
noncomputable def m_spec_l01Perm (a0 : (Nat → Int)) (a1 : Int) : Option Bool := ((m_spec_l01In a1 1 10).bind fun r1 => (cond (!r1) (some false) ((loopV (m_spec_l01Perm_l0 a0 a1) (0, bl0)).bind fun R => match R with | .stop (x3, x4) id => (if id = 0 then some true else none) | .ret r => some r | .next _ => none)))

/-! loop.example/g01195/spec.l01Then -/
/-! loop.example/g01195/spec.ThenPlaces -/
/-! loop.example/g01195/impl.back -/
/-! loop.example/g01195/impl.BackPlaces -/
/-! loop.example/g01195/spec.l01Back -/
/-! loop.example/g01195/spec.BackPlaces -/
/-! loop.example/g01195/impl.sign -/
/-! loop.example/g01195/impl.SignOfPlaces -/
/-! loop.example/g01195/spec.SignOfPlaces -/
/-! loop.example/g01195/spec.IsPermutation -/
/-! loop.example/g01195/spec.l01Split -/
noncomputable def m_spec_l01Split_l0 (a0 : ByteArray) (a1 : Int) : ((List ByteArray) × Int × Int) → Option (Out ((List ByteArray) × Int × Int) (List ByteArray))
  | (x1, x2, x3) => (cond (decide (x3 < ((a0.size : Nat) : Int))) (if 0 ≤ x3 ∧ x3 < (a0.size : Nat) then (cond ((bt a0 (x3).toNat) == a1) (if 0 ≤ x2 ∧ x2 ≤ x3 ∧ x3 ≤ (a0.size : Nat) then (if x1.length + 1 ≤ 1099511627776 then some (.next ((x1 ++ [(a0.extract (x2).toNat (x3).toNat)]), (IntKind.i64.wrap (x3 + 1)), (IntKind.i64.wrap (x3 + 1)))) else none) else none) (some (.next (x1, x2, (IntKind.i64.wrap (x3 + 1)))))) else none) (some (.stop (x1, x2, x3) 0)))
noncomputable def m_spec_l01Split (a0 : ByteArray) (a1 : Int) : Option (List ByteArray) := ((loopV (m_spec_l01Split_l0 a0 a1) ([], 0, 0)).bind fun R => match R with | .stop (x4, x5, x6) id => (if id = 0 then (if 0 ≤ x5 ∧ x5 ≤ (a0.size : Nat) then (if x4.length + 1 ≤ 1099511627776 then some (x4 ++ [(a0.extract (x5).toNat a0.size)]) else none) else none) else none) | .ret r => none | .next _ => none)

/-! loop.example/g01195/spec.l01Rows -/
noncomputable def m_spec_l01Rows_l0 (a0 : (Nat → Nat → Int)) (a1 : Int) : Int → Option (Out (Int) Bool)
  | x1 => (cond (decide (x1 < 10)) (cond (decide (x1 < a1)) (if 0 ≤ x1 ∧ x1 < 10 then ((m_spec_l01Perm (a0 (x1).toNat) a1).bind fun r1 => (cond (!r1) (some (.ret false)) (cond (decide (x1 ≥ a1)) (if 0 ≤ x1 ∧ x1 < 10 then (cond (!(eqPl (a0 (x1).toNat) pl0)) (some (.ret false)) (some (.next (IntKind.i64.wrap (x1 + 1))))) else none) (some (.next (IntKind.i64.wrap (x1 + 1))))))) else none) (cond (decide (x1 ≥ a1)) (if 0 ≤ x1 ∧ x1 < 10 then (cond (!(eqPl (a0 (x1).toNat) pl0)) (some (.ret false)) (some (.next (IntKind.i64.wrap (x1 + 1))))) else none) (some (.next (IntKind.i64.wrap (x1 + 1)))))) (some (.stop x1 0)))
noncomputable def m_spec_l01Rows (a0 : (Nat → Nat → Int)) (a1 : Int) : Option Bool := ((loopV (m_spec_l01Rows_l0 a0 a1) 0).bind fun R => match R with | .stop x2 id => (if id = 0 then some true else none) | .ret r => some r | .next _ => none)

/-! loop.example/g01195/spec.l01Turned -/
noncomputable def m_spec_l01Turned_l1 (a0 : (Nat → Nat → Int)) (x1 : Int) : (Int × (Nat → Nat → Int)) → Option (Out (Int × (Nat → Nat → Int)) (Nat → Nat → Int))
  | (x3, x4) => (cond (decide (x3 < 10)) (if 0 ≤ x1 ∧ x1 < 10 then (if 0 ≤ x3 ∧ x3 < 10 then (if 0 ≤ x3 ∧ x3 < 10 then (if 0 ≤ x1 ∧ x1 < 10 then some (.next ((IntKind.i64.wrap (x3 + 1)), (tset x4 (x3).toNat (x1).toNat (a0 (x1).toNat (x3).toNat)))) else none) else none) else none) else none) (some (.stop (x3, x4) 2)))
noncomputable def m_spec_l01Turned_l0 (a0 : (Nat → Nat → Int)) : (Int × (Nat → Nat → Int)) → Option (Out (Int × (Nat → Nat → Int)) (Nat → Nat → Int))
  | (x1, x2) => (cond (decide (x1 < 10)) ((loopV (m_spec_l01Turned_l1 a0 x1) (0, x2)).bind fun R => match R with | .stop (x5, x6) id => (if id = 2 then some (.next ((IntKind.i64.wrap (x1 + 1)), x6)) else none) | .ret r => none | .next _ => none) (some (.stop (x1, x2) 0)))
noncomputable def m_spec_l01Turned (a0 : (Nat → Nat → Int)) : Option (Nat → Nat → Int) := ((loopV (m_spec_l01Turned_l0 a0) (0, tb0)).bind fun R => match R with | .stop (x7, x8) id => (if id = 0 then some x8 else none) | .ret r => none | .next _ => none)

/-! loop.example/g01195/spec.l01Is -/
noncomputable def m_spec_l01Is (a0 : Sq) : Option Bool := ((m_spec_l01In a0.order 1 10).bind fun r1 => (cond r1 ((m_spec_l01Rows a0.t a0.order).bind fun r2 => (cond r2 ((m_spec_l01Turned a0.t).bind fun r3 => ((m_spec_l01Rows r3 a0.order).bind fun r4 => some r4)) (some false))) (some false)))

/-! loop.example/g01195/spec.l01Read -/
noncomputable def m_spec_l01Read_l1 (r1 : (List ByteArray)) (x1 : Int) : (Int × Sq × Sq) → Option (Out (Int × Sq × Sq) (Sq × Bool))
  | (x4, x5, x6) => (cond (decide (x4 < ((r1.length : Nat) : Int))) (if 0 ≤ x1 ∧ x1 < (r1.length : Nat) then (if 0 ≤ x4 ∧ x4 < ((r1.getD (x1).toNat ⟨#[]⟩).size : Nat) then (cond (decide ((bt (r1.getD (x1).toNat ⟨#[]⟩) (x4).toNat) < 48)) (some (.ret (sq0, false))) (if 0 ≤ x1 ∧ x1 < (r1.length : Nat) then (if 0 ≤ x4 ∧ x4 < ((r1.getD (x1).toNat ⟨#[]⟩).size : Nat) then (cond (decide ((bt (r1.getD (x1).toNat ⟨#[]⟩) (x4).toNat) > 57)) (some (.ret (sq0, false))) (if 0 ≤ x1 ∧ x1 < (r1.length : Nat) then (if 0 ≤ x4 ∧ x4 < ((r1.getD (x1).toNat ⟨#[]⟩).size : Nat) then (if 0 ≤ x1 ∧ x1 < 10 then (if 0 ≤ x4 ∧ x4 < 10 then some (.next ((IntKind.i64.wrap (x4 + 1)), x5, (⟨x6.order, (tset x6.t (x1).toNat (x4).toNat (IntKind.u8.wrap ((bt (r1.getD (x1).toNat ⟨#[]⟩) (x4).toNat) - 48)))⟩ : Sq))) else none) else none) else none) else none)) else none) else none)) else none) else none) (some (.stop (x4, x5, x6) 2)))
noncomputable def m_spec_l01Read_l0 (r1 : (List ByteArray)) : (Int × Sq × Sq) → Option (Out (Int × Sq × Sq) (Sq × Bool))
  | (x1, x2, x3) => (cond (decide (x1 < ((r1.length : Nat) : Int))) (if 0 ≤ x1 ∧ x1 < (r1.length : Nat) then (cond ((((r1.getD (x1).toNat ⟨#[]⟩).size : Nat) : Int) != ((r1.length : Nat) : Int)) (some (.ret (sq0, false))) ((loopV (m_spec_l01Read_l1 r1 x1) (0, x2, x3)).bind fun R => match R with | .stop (x7, x8, x9) id => (if id = 2 then some (.next ((IntKind.i64.wrap (x1 + 1)), x8, x9)) else none) | .ret r => some (.ret (r.1, r.2)) | .next _ => none)) else none) (some (.stop (x1, x2, x3) 0)))
noncomputable def m_spec_l01Read (a0 : ByteArray) : Option (Sq × Bool) := ((m_spec_l01Split a0 47).bind fun r1 => (cond (decide (((r1.length : Nat) : Int) > 10)) (some (sq0, false)) ((loopV (m_spec_l01Read_l0 r1) (0, sq0, (⟨((r1.length : Nat) : Int), tb0⟩ : Sq))).bind fun R => match R with | .stop (x10, x11, x12) id => (if id = 0 then ((m_spec_l01Is x12).bind fun r2 => some (x12, r2)) else none) | .ret r => some (r.1, r.2) | .next _ => none)))

/-! loop.example/g01195/spec.l01Row -/
noncomputable def m_spec_l01Row (a0 : Sq) (a1 : Int) : Option (Nat → Int) := (if 0 ≤ a1 ∧ a1 < 10 then some (a0.t (a1).toNat) else none)

/-! loop.example/g01195/spec.l01Moved -/
noncomputable def m_spec_l01Moved_l1 (a0 : Sq) (a1 : (Nat → Int)) (a2 : (Nat → Int)) (a3 : (Nat → Int)) (x1 : Int) : (Int × Sq) → Option (Out (Int × Sq) Sq)
  | (x3, x4) => (cond (decide (x3 < a0.order)) (if 0 ≤ x1 ∧ x1 < 10 then (if 0 ≤ x3 ∧ x3 < 10 then (if 0 ≤ x1 ∧ x1 < 10 then (if 0 ≤ x3 ∧ x3 < 10 then (if 0 ≤ (a0.t (x1).toNat (x3).toNat) ∧ (a0.t (x1).toNat (x3).toNat) < 10 then (if 0 ≤ (a1 (x1).toNat) ∧ (a1 (x1).toNat) < 10 then (if 0 ≤ (a2 (x3).toNat) ∧ (a2 (x3).toNat) < 10 then some (.next ((IntKind.i64.wrap (x3 + 1)), (⟨x4.order, (tset x4.t ((a1 (x1).toNat)).toNat ((a2 (x3).toNat)).toNat (a3 ((a0.t (x1).toNat (x3).toNat)).toNat))⟩ : Sq))) else none) else none) else none) else none) else none) else none) else none) (some (.stop (x3, x4) 2)))
noncomputable def m_spec_l01Moved_l0 (a0 : Sq) (a1 : (Nat → Int)) (a2 : (Nat → Int)) (a3 : (Nat → Int)) : (Int × Sq) → Option (Out (Int × Sq) Sq)
  | (x1, x2) => (cond (decide (x1 < a0.order)) ((loopV (m_spec_l01Moved_l1 a0 a1 a2 a3 x1) (0, x2)).bind fun R => match R with | .stop (x5, x6) id => (if id = 2 then some (.next ((IntKind.i64.wrap (x1 + 1)), x6)) else none) | .ret r => none | .next _ => none) (some (.stop (x1, x2) 0)))
noncomputable def m_spec_l01Moved (a0 : Sq) (a1 : (Nat → Int)) (a2 : (Nat → Int)) (a3 : (Nat → Int)) : Option Sq := ((loopV (m_spec_l01Moved_l0 a0 a1 a2 a3) (0, (⟨a0.order, tb0⟩ : Sq))).bind fun R => match R with | .stop (x7, x8) id => (if id = 0 then some x8 else none) | .ret r => none | .next _ => none)

/-! loop.example/g01195/spec.l01Column -/
noncomputable def m_spec_l01Column_l0 (a0 : Sq) (a1 : Int) : (Int × (Nat → Int)) → Option (Out (Int × (Nat → Int)) (Nat → Int))
  | (x1, x2) => (cond (decide (x1 < a0.order)) (if 0 ≤ x1 ∧ x1 < 10 then (if 0 ≤ a1 ∧ a1 < 10 then (if 0 ≤ x1 ∧ x1 < 10 then some (.next ((IntKind.i64.wrap (x1 + 1)), (fset x2 (x1).toNat (a0.t (x1).toNat (a1).toNat)))) else none) else none) else none) (some (.stop (x1, x2) 0)))
noncomputable def m_spec_l01Column (a0 : Sq) (a1 : Int) : Option (Nat → Int) := ((loopV (m_spec_l01Column_l0 a0 a1) (0, pl0)).bind fun R => match R with | .stop (x3, x4) id => (if id = 0 then some x4 else none) | .ret r => none | .next _ => none)

/-! loop.example/g01195/spec.l01Ordered -/
noncomputable def m_spec_l01Ordered (a0 : Sq) : Option Sq := ((m_spec_l01Same a0.order).bind fun r1 => ((m_spec_l01Row a0 0).bind fun r2 => ((m_spec_l01Same a0.order).bind fun r3 => ((m_spec_l01Moved a0 r1 r2 r3).bind fun r4 => ((m_spec_l01Column r4 0).bind fun r5 => ((m_spec_l01Same a0.order).bind fun r6 => ((m_spec_l01Same a0.order).bind fun r7 => ((m_spec_l01Moved r4 r5 r6 r7).bind fun r8 => some r8))))))))

/-! loop.example/g01195/spec.l01Elementary -/
noncomputable def m_spec_l01Elementary_l1 (a0 : Int) (x1 : Int) : (Int × Sq) → Option (Out (Int × Sq) Sq)
  | (x3, x4) => (cond (decide (x3 < (IntKind.i64.wrap (1 * 2 ^ (min (((IntKind.u64.wrap a0) : Int).toNat) IntKind.i64.bits))))) (if 0 ≤ x1 ∧ x1 < 10 then (if 0 ≤ x3 ∧ x3 < 10 then some (.next ((IntKind.i64.wrap (x3 + 1)), (⟨x4.order, (tset x4.t (x1).toNat (x3).toNat (IntKind.u8.wrap (bits .xor .i64 x1 x3)))⟩ : Sq))) else none) else none) (some (.stop (x3, x4) 2)))
noncomputable def m_spec_l01Elementary_l0 (a0 : Int) : (Int × Sq) → Option (Out (Int × Sq) Sq)
  | (x1, x2) => (cond (decide (x1 < (IntKind.i64.wrap (1 * 2 ^ (min (((IntKind.u64.wrap a0) : Int).toNat) IntKind.i64.bits))))) ((loopV (m_spec_l01Elementary_l1 a0 x1) (0, x2)).bind fun R => match R with | .stop (x5, x6) id => (if id = 2 then some (.next ((IntKind.i64.wrap (x1 + 1)), x6)) else none) | .ret r => none | .next _ => none) (some (.stop (x1, x2) 0)))
noncomputable def m_spec_l01Elementary (a0 : Int) : Option Sq := (if 0 ≤ (IntKind.u64.wrap a0) then ((loopV (m_spec_l01Elementary_l0 a0) (0, (⟨(IntKind.i64.wrap (1 * 2 ^ (min (((IntKind.u64.wrap a0) : Int).toNat) IntKind.i64.bits))), tb0⟩ : Sq))).bind fun R => match R with | .stop (x7, x8) id => (if id = 0 then some x8 else none) | .ret r => none | .next _ => none) else none)

/-! loop.example/g01195/spec.l01Cyclic -/
noncomputable def m_spec_l01Cyclic_l1 (a0 : Int) (x1 : Int) : (Int × Sq) → Option (Out (Int × Sq) Sq)
  | (x3, x4) => (cond (decide (x3 < a0)) (if a0 ≠ 0 then (if 0 ≤ x1 ∧ x1 < 10 then (if 0 ≤ x3 ∧ x3 < 10 then some (.next ((IntKind.i64.wrap (x3 + 1)), (⟨x4.order, (tset x4.t (x1).toNat (x3).toNat (IntKind.u8.wrap ((IntKind.i64.wrap (x1 + x3)).tmod a0)))⟩ : Sq))) else none) else none) else none) (some (.stop (x3, x4) 2)))
noncomputable def m_spec_l01Cyclic_l0 (a0 : Int) : (Int × Sq) → Option (Out (Int × Sq) Sq)
  | (x1, x2) => (cond (decide (x1 < a0)) ((loopV (m_spec_l01Cyclic_l1 a0 x1) (0, x2)).bind fun R => match R with | .stop (x5, x6) id => (if id = 2 then some (.next ((IntKind.i64.wrap (x1 + 1)), x6)) else none) | .ret r => none | .next _ => none) (some (.stop (x1, x2) 0)))
noncomputable def m_spec_l01Cyclic (a0 : Int) : Option Sq := ((loopV (m_spec_l01Cyclic_l0 a0) (0, (⟨a0, tb0⟩ : Sq))).bind fun R => match R with | .stop (x7, x8) id => (if id = 0 then some x8 else none) | .ret r => none | .next _ => none)

/-! loop.example/g01195/spec.l01Direct -/
noncomputable def m_spec_l01Direct_l1 (a0 : Sq) (a1 : Sq) (x1 : Int) : (Int × Sq) → Option (Out (Int × Sq) Sq)
  | (x3, x4) => (cond (decide (x3 < x4.order)) (if a1.order ≠ 0 then (if a1.order ≠ 0 then (if 0 ≤ (IntKind.i64.wrap (x1.tdiv a1.order)) ∧ (IntKind.i64.wrap (x1.tdiv a1.order)) < 10 then (if 0 ≤ (IntKind.i64.wrap (x3.tdiv a1.order)) ∧ (IntKind.i64.wrap (x3.tdiv a1.order)) < 10 then (if a1.order ≠ 0 then (if a1.order ≠ 0 then (if 0 ≤ (x1.tmod a1.order) ∧ (x1.tmod a1.order) < 10 then (if 0 ≤ (x3.tmod a1.order) ∧ (x3.tmod a1.order) < 10 then (if 0 ≤ x1 ∧ x1 < 10 then (if 0 ≤ x3 ∧ x3 < 10 then some (.next ((IntKind.i64.wrap (x3 + 1)), (⟨x4.order, (tset x4.t (x1).toNat (x3).toNat (IntKind.u8.wrap ((IntKind.u8.wrap ((IntKind.u8.wrap a1.order) * ((a0.t ((IntKind.i64.wrap (x1.tdiv a1.order))).toNat) ((IntKind.i64.wrap (x3.tdiv a1.order))).toNat))) + ((a1.t ((x1.tmod a1.order)).toNat) ((x3.tmod a1.order)).toNat))))⟩ : Sq))) else none) else none) else none) else none) else none) else none) else none) else none) else none) else none) (some (.stop (x3, x4) 2)))
noncomputable def m_spec_l01Direct_l0 (a0 : Sq) (a1 : Sq) : (Int × Sq) → Option (Out (Int × Sq) Sq)
  | (x1, x2) => (cond (decide (x1 < x2.order)) ((loopV (m_spec_l01Direct_l1 a0 a1 x1) (0, x2)).bind fun R => match R with | .stop (x5, x6) id => (if id = 2 then some (.next ((IntKind.i64.wrap (x1 + 1)), x6)) else none) | .ret r => none | .next _ => none) (some (.stop (x1, x2) 0)))
noncomputable def m_spec_l01Direct (a0 : Sq) (a1 : Sq) : Option Sq := ((loopV (m_spec_l01Direct_l0 a0 a1) (0, (⟨(IntKind.i64.wrap (a0.order * a1.order)), tb0⟩ : Sq))).bind fun R => match R with | .stop (x7, x8) id => (if id = 0 then some x8 else none) | .ret r => none | .next _ => none)

/-! loop.example/g01195/spec.l01Known -/
noncomputable def m_spec_l01Known (a0 : Rng) (l_s : List Int) : Option (Sq × Rng) := ((m_spec_l01Next a0 l_s 4).bind fun r1 => (cond (r1.1 == 0) ((m_spec_l01Next r1.2 l_s ((4 : Nat) : Int)).bind fun r2 => (if 0 ≤ r2.1 ∧ r2.1 < (4 : Nat) then ((m_spec_l01Read (([((ByteArray.mk #[48, 49, 50, 51, 52, 47, 49, 48, 51, 52, 50, 47, 50, 52, 48, 49, 51, 47, 51, 50, 52, 48, 49, 47, 52, 51, 49, 50, 48])), ((ByteArray.mk #[48, 49, 50, 51, 52, 53, 47, 49, 50, 48, 52, 53, 51, 47, 50, 48, 49, 53, 51, 52, 47, 51, 53, 52, 48, 50, 49, 47, 52, 51, 53, 49, 48, 50, 47, 53, 52, 51, 50, 49, 48])), ((ByteArray.mk (List.toArray (List.append [48, 49, 50, 51, 52, 53, 54, 55, 47, 49, 50, 51, 48, 53, 54, 55, 52, 47, 50, 51, 48, 49, 54, 55, 52, 53, 47, 51, 48, 49, 50, 55, 52, 53, 54] [47, 52, 55, 54, 53, 48, 51, 50, 49, 47, 53, 52, 55, 54, 49, 48, 51, 50, 47, 54, 53, 52, 55, 50, 49, 48, 51, 47, 55, 54, 53, 52, 51, 50, 49, 48])))), ((ByteArray.mk #[48, 49, 50, 51, 52, 53, 47, 49, 48, 51, 50, 53, 52, 47, 50, 52, 53, 48, 49, 51, 47, 51, 53, 52, 49, 48, 50, 47, 52, 50, 48, 53, 51, 49, 47, 53, 51, 49, 52, 50, 48]))]).getD (r2.1).toNat ⟨#[]⟩)).bind fun r3 => (cond r3.2 ((m_spec_l01Ordered r3.1).bind fun r4 => some (r4, r2.2)) ((m_spec_l01Next r2.2 l_s 5).bind fun r5 => ((m_spec_l01Next r5.2 l_s 8).bind fun r6 => ((m_spec_l01Next r6.2 l_s 10).bind fun r7 => ((m_spec_l01Pick r7.2 l_s ([r5.1, r6.1, r7.1])).bind fun r8 => ((m_spec_l01Cyclic (IntKind.i64.wrap (1 + r8.1))).bind fun r9 => some (r9, r8.2)))))))) else none)) (cond (r1.1 == 1) ((m_spec_l01Next r1.2 l_s 4).bind fun r10 => ((m_spec_l01Elementary r10.1).bind fun r11 => some (r11, r10.2))) (cond (r1.1 == 2) ((m_spec_l01Next r1.2 l_s 3).bind fun r12 => ((m_spec_l01Cyclic (IntKind.i64.wrap (1 + r12.1))).bind fun r13 => ((m_spec_l01Next r12.2 l_s 3).bind fun r14 => ((m_spec_l01Cyclic (IntKind.i64.wrap (1 + r14.1))).bind fun r15 => ((m_spec_l01Direct r13 r15).bind fun r16 => some (r16, r14.2)))))) ((m_spec_l01Next r1.2 l_s 5).bind fun r17 => ((m_spec_l01Next r17.2 l_s 8).bind fun r18 => ((m_spec_l01Next r18.2 l_s 10).bind fun r19 => ((m_spec_l01Pick r19.2 l_s ([r17.1, r18.1, r19.1])).bind fun r20 => ((m_spec_l01Cyclic (IntKind.i64.wrap (1 + r20.1))).bind fun r21 => some (r21, r20.2))))))))))

/-! loop.example/g01195/spec.l01Opposite -/
noncomputable def m_spec_l01Opposite (a0 : Sq) : Option Sq := ((m_spec_l01Turned a0.t).bind fun r1 => some (⟨a0.order, r1⟩ : Sq))

/-! loop.example/g01195/spec.l01Switch -/
noncomputable def m_spec_l01Switch_l1 (a1 : Int) (a2 : Int) (x1 : Int) (x2 : Sq) : (Int × Sq) → Option (Out (Int × Sq) Sq)
  | (x4, x5) => (cond (x4 == x1) (cond ((IntKind.i64.wrap (IntKind.u8.wrap (x4 + 1))) == ((⟨((⟨x2.order, (tset x2.t (a1).toNat (x1).toNat (x2.t (a2).toNat (x1).toNat))⟩ : Sq)).order, (tset ((⟨x2.order, (tset x2.t (a1).toNat (x1).toNat (x2.t (a2).toNat (x1).toNat))⟩ : Sq)).t (a2).toNat (x1).toNat (x2.t (a1).toNat (x1).toNat))⟩ : Sq)).order) (some (.ret (⟨((⟨x2.order, (tset x2.t (a1).toNat (x1).toNat (x2.t (a2).toNat (x1).toNat))⟩ : Sq)).order, (tset ((⟨x2.order, (tset x2.t (a1).toNat (x1).toNat (x2.t (a2).toNat (x1).toNat))⟩ : Sq)).t (a2).toNat (x1).toNat (x2.t (a1).toNat (x1).toNat))⟩ : Sq))) (some (.next ((IntKind.u8.wrap (x4 + 1)), x5)))) (if 0 ≤ a1 ∧ a1 < 10 then (if 0 ≤ x4 ∧ x4 < 10 then (if 0 ≤ a1 ∧ a1 < 10 then (if 0 ≤ x1 ∧ x1 < 10 then (cond (((((⟨((⟨x2.order, (tset x2.t (a1).toNat (x1).toNat (x2.t (a2).toNat (x1).toNat))⟩ : Sq)).order, (tset ((⟨x2.order, (tset x2.t (a1).toNat (x1).toNat (x2.t (a2).toNat (x1).toNat))⟩ : Sq)).t (a2).toNat (x1).toNat (x2.t (a1).toNat (x1).toNat))⟩ : Sq)).t (a1).toNat) (x4).toNat) != ((((⟨((⟨x2.order, (tset x2.t (a1).toNat (x1).toNat (x2.t (a2).toNat (x1).toNat))⟩ : Sq)).order, (tset ((⟨x2.order, (tset x2.t (a1).toNat (x1).toNat (x2.t (a2).toNat (x1).toNat))⟩ : Sq)).t (a2).toNat (x1).toNat (x2.t (a1).toNat (x1).toNat))⟩ : Sq)).t (a1).toNat) (x1).toNat)) (cond ((IntKind.i64.wrap (IntKind.u8.wrap (x4 + 1))) == ((⟨((⟨x2.order, (tset x2.t (a1).toNat (x1).toNat (x2.t (a2).toNat (x1).toNat))⟩ : Sq)).order, (tset ((⟨x2.order, (tset x2.t (a1).toNat (x1).toNat (x2.t (a2).toNat (x1).toNat))⟩ : Sq)).t (a2).toNat (x1).toNat (x2.t (a1).toNat (x1).toNat))⟩ : Sq)).order) (some (.ret (⟨((⟨x2.order, (tset x2.t (a1).toNat (x1).toNat (x2.t (a2).toNat (x1).toNat))⟩ : Sq)).order, (tset ((⟨x2.order, (tset x2.t (a1).toNat (x1).toNat (x2.t (a2).toNat (x1).toNat))⟩ : Sq)).t (a2).toNat (x1).toNat (x2.t (a1).toNat (x1).toNat))⟩ : Sq))) (some (.next ((IntKind.u8.wrap (x4 + 1)), x5)))) (some (.stop (x4, x5) 2))) else none) else none) else none) else none))
noncomputable def m_spec_l01Switch_l0 (a1 : Int) (a2 : Int) : (Int × Sq × Sq) → Option (Out (Int × Sq × Sq) Sq)
  | (x1, x2, x3) => (if 0 ≤ a1 ∧ a1 < 10 then (if 0 ≤ x1 ∧ x1 < 10 then (if 0 ≤ a2 ∧ a2 < 10 then (if 0 ≤ x1 ∧ x1 < 10 then (if 0 ≤ a1 ∧ a1 < 10 then (if 0 ≤ x1 ∧ x1 < 10 then (if 0 ≤ a2 ∧ a2 < 10 then (if 0 ≤ x1 ∧ x1 < 10 then ((loopV (m_spec_l01Switch_l1 a1 a2 x1 x2) (0, x3)).bind fun R => match R with | .stop (x6, x7) id => (if id = 2 then some (.next (x6, (⟨((⟨x2.order, (tset x2.t (a1).toNat (x1).toNat (x2.t (a2).toNat (x1).toNat))⟩ : Sq)).order, (tset ((⟨x2.order, (tset x2.t (a1).toNat (x1).toNat (x2.t (a2).toNat (x1).toNat))⟩ : Sq)).t (a2).toNat (x1).toNat (x2.t (a1).toNat (x1).toNat))⟩ : Sq), x7)) else none) | .ret r => some (.ret r) | .next _ => none) else none) else none) else none) else none) else none) else none) else none) else none)
noncomputable def m_spec_l01Switch (a0 : Sq) (a1 : Int) (a2 : Int) (a3 : Int) : Option Sq := (cond (a1 == a2) (some a0) ((loopV (m_spec_l01Switch_l0 a1 a2) (a3, a0, sq0)).bind fun R => match R with | .stop (x8, x9, x10) id => (none) | .ret r => some r | .next _ => none))

/-! loop.example/g01195/spec.l01Draw -/
noncomputable def m_spec_l01Draw_l0 (l_s : List Int) (r1 : Sq × Rng) : (Int × Sq × Rng) → Option (Out (Int × Sq × Rng) (Sq × Rng))
  | (x1, x2, x3) => (cond (decide (x1 > 0)) ((m_spec_l01Next x3 l_s 2).bind fun r3 => (cond (r3.1 == 0) ((m_spec_l01Opposite x2).bind fun r4 => ((m_spec_l01Next r3.2 l_s r1.1.order).bind fun r5 => ((m_spec_l01Next r5.2 l_s r1.1.order).bind fun r6 => ((m_spec_l01Next r6.2 l_s r1.1.order).bind fun r7 => ((m_spec_l01Switch r4 (IntKind.u8.wrap r5.1) (IntKind.u8.wrap r6.1) (IntKind.u8.wrap r7.1)).bind fun r8 => some (.next ((IntKind.i64.wrap (x1 - 1)), r8, r7.2))))))) ((m_spec_l01Next r3.2 l_s r1.1.order).bind fun r9 => ((m_spec_l01Next r9.2 l_s r1.1.order).bind fun r10 => ((m_spec_l01Next r10.2 l_s r1.1.order).bind fun r11 => ((m_spec_l01Switch x2 (IntKind.u8.wrap r9.1) (IntKind.u8.wrap r10.1) (IntKind.u8.wrap r11.1)).bind fun r12 => some (.next ((IntKind.i64.wrap (x1 - 1)), r12, r11.2)))))))) (some (.stop (x1, x2, x3) 0)))
noncomputable def m_spec_l01Draw (a0 : Rng) (l_s : List Int) : Option (Sq × Rng) := ((m_spec_l01Known a0 l_s).bind fun r1 => ((m_spec_l01Pick r1.2 l_s ([0, 0, 1, 2, 4])).bind fun r2 => ((loopV (m_spec_l01Draw_l0 l_s r1) (r2.1, r1.1, r2.2)).bind fun R => match R with | .stop (x4, x5, x6) id => (if id = 0 then ((m_spec_l01Next x6 l_s 3).bind fun r13 => (cond (r13.1 == 0) ((m_spec_l01DrawPlaces r13.2 l_s r1.1.order).bind fun r14 => ((m_spec_l01DrawPlaces r14.2 l_s r1.1.order).bind fun r15 => ((m_spec_l01DrawPlaces r15.2 l_s r1.1.order).bind fun r16 => ((m_spec_l01Moved x5 r14.1 r15.1 r16.1).bind fun r17 => ((m_spec_l01Ordered r17).bind fun r18 => some (r18, r16.2)))))) ((m_spec_l01Ordered x5).bind fun r19 => some (r19, r13.2)))) else none) | .ret r => none | .next _ => none)))

/-! loop.example/g01195/spec.l01Broken -/
noncomputable def m_spec_l01Broken (a0 : Rng) (l_s : List Int) (a1 : Sq) : Option (Sq × Rng) := ((m_spec_l01Next a0 l_s 40).bind fun r1 => (cond (r1.1 == 0) (some ((⟨a1.order, (tset a1.t 0 0 (IntKind.u8.wrap ((a1.t 0 0) + 1)))⟩ : Sq), r1.2)) (cond (r1.1 == 1) ((m_spec_l01Pick r1.2 l_s ([0, 11, (-1), (IntKind.i64.wrap (a1.order + 1)), (IntKind.i64.wrap (a1.order - 1))])).bind fun r2 => some ((⟨r2.1, a1.t⟩ : Sq), r2.2)) (cond (r1.1 == 2) ((m_spec_l01Pick r1.2 l_s ([1, 255])).bind fun r3 => some ((⟨a1.order, (tset a1.t 9 9 (IntKind.u8.wrap r3.1))⟩ : Sq), r3.2)) (some (a1, r1.2))))))

/-! loop.example/g01195/spec.l01DrawSquare -/
noncomputable def m_spec_l01DrawSquare (a0 : Rng) (l_s : List Int) : Option (Sq × Rng) := ((m_spec_l01Draw a0 l_s).bind fun r1 => ((m_spec_l01Next r1.2 l_s 3).bind fun r2 => (cond (r2.1 == 0) (some (r1.1, r2.2)) ((m_spec_l01DrawPlaces r2.2 l_s r1.1.order).bind fun r3 => ((m_spec_l01DrawPlaces r3.2 l_s r1.1.order).bind fun r4 => ((m_spec_l01DrawPlaces r4.2 l_s r1.1.order).bind fun r5 => ((m_spec_l01Moved r1.1 r3.1 r4.1 r5.1).bind fun r6 => some (r6, r5.2))))))))

/-! loop.example/g01195/spec.l01Spoil -/
noncomputable def m_spec_l01Spoil (a0 : Rng) (l_s : List Int) : Option (Sq × Rng) := ((m_spec_l01Next a0 l_s 2).bind fun r1 => (cond (r1.1 == 0) ((m_spec_l01Draw r1.2 l_s).bind fun r2 => ((m_spec_l01Broken r2.2 l_s r2.1).bind fun r3 => some (r3.1, r3.2))) ((m_spec_l01DrawSquare r1.2 l_s).bind fun r4 => ((m_spec_l01Broken r4.2 l_s r4.1).bind fun r5 => some (r5.1, r5.2)))))

/-! loop.example/g01195/spec.DrawDirectProduct -/
/-! loop.example/g01195/impl.IsSquare -/
noncomputable def m_impl_IsSquare_l1 (a0 : Sq) (x1 : Int) : (Int × Int × Int) → Option (Out (Int × Int × Int) Bool)
  | (x2, x3, x4) => (cond (decide (x4 < 10)) (cond (decide (x1 ≥ a0.order)) (if 0 ≤ x1 ∧ x1 < 10 then (if 0 ≤ x4 ∧ x4 < 10 then (cond ((a0.t (x1).toNat (x4).toNat) != 0) (some (.ret false)) (cond (decide (x1 < a0.order)) (cond (decide (x4 < a0.order)) (if 0 ≤ x1 ∧ x1 < 10 then (if 0 ≤ x4 ∧ x4 < 10 then (cond (decide ((IntKind.i64.wrap (a0.t (x1).toNat (x4).toNat)) ≥ a0.order)) (some (.ret false)) (if 0 ≤ x4 ∧ x4 < 10 then (if 0 ≤ x1 ∧ x1 < 10 then (cond (decide ((IntKind.i64.wrap (a0.t (x4).toNat (x1).toNat)) ≥ a0.order)) (some (.ret false)) (if 0 ≤ x1 ∧ x1 < 10 then (if 0 ≤ x4 ∧ x4 < 10 then (if 0 ≤ (a0.t (x1).toNat (x4).toNat) then (if 0 ≤ x4 ∧ x4 < 10 then (if 0 ≤ x1 ∧ x1 < 10 then (if 0 ≤ (a0.t (x4).toNat (x1).toNat) then some (.next ((bits .or .i64 x2 (IntKind.i64.wrap (1 * 2 ^ (min (((a0.t (x1).toNat (x4).toNat) : Int).toNat) IntKind.i64.bits)))), (bits .or .i64 x3 (IntKind.i64.wrap (1 * 2 ^ (min (((a0.t (x4).toNat (x1).toNat) : Int).toNat) IntKind.i64.bits)))), (IntKind.i64.wrap (x4 + 1)))) else none) else none) else none) else none) else none) else none)) else none) else none)) else none) else none) (some (.next (x2, x3, (IntKind.i64.wrap (x4 + 1)))))) (some (.next (x2, x3, (IntKind.i64.wrap (x4 + 1))))))) else none) else none) (cond (decide (x4 ≥ a0.order)) (if 0 ≤ x1 ∧ x1 < 10 then (if 0 ≤ x4 ∧ x4 < 10 then (cond ((a0.t (x1).toNat (x4).toNat) != 0) (some (.ret false)) (cond (decide (x1 < a0.order)) (cond (decide (x4 < a0.order)) (if 0 ≤ x1 ∧ x1 < 10 then (if 0 ≤ x4 ∧ x4 < 10 then (cond (decide ((IntKind.i64.wrap (a0.t (x1).toNat (x4).toNat)) ≥ a0.order)) (some (.ret false)) (if 0 ≤ x4 ∧ x4 < 10 then (if 0 ≤ x1 ∧ x1 < 10 then (cond (decide ((IntKind.i64.wrap (a0.t (x4).toNat (x1).toNat)) ≥ a0.order)) (some (.ret false)) (if 0 ≤ x1 ∧ x1 < 10 then (if 0 ≤ x4 ∧ x4 < 10 then (if 0 ≤ (a0.t (x1).toNat (x4).toNat) then (if 0 ≤ x4 ∧ x4 < 10 then (if 0 ≤ x1 ∧ x1 < 10 then (if 0 ≤ (a0.t (x4).toNat (x1).toNat) then some (.next ((bits .or .i64 x2 (IntKind.i64.wrap (1 * 2 ^ (min (((a0.t (x1).toNat (x4).toNat) : Int).toNat) IntKind.i64.bits)))), (bits .or .i64 x3 (IntKind.i64.wrap (1 * 2 ^ (min (((a0.t (x4).toNat (x1).toNat) : Int).toNat) IntKind.i64.bits)))), (IntKind.i64.wrap (x4 + 1)))) else none) else none) else none) else none) else none) else none)) else none) else none)) else none) else none) (some (.next (x2, x3, (IntKind.i64.wrap (x4 + 1)))))) (some (.next (x2, x3, (IntKind.i64.wrap (x4 + 1))))))) else none) else none) (cond (decide (x1 < a0.order)) (cond (decide (x4 < a0.order)) (if 0 ≤ x1 ∧ x1 < 10 then (if 0 ≤ x4 ∧ x4 < 10 then (cond (decide ((IntKind.i64.wrap (a0.t (x1).toNat (x4).toNat)) ≥ a0.order)) (some (.ret false)) (if 0 ≤ x4 ∧ x4 < 10 then (if 0 ≤ x1 ∧ x1 < 10 then (cond (decide ((IntKind.i64.wrap (a0.t (x4).toNat (x1).toNat)) ≥ a0.order)) (some (.ret false)) (if 0 ≤ x1 ∧ x1 < 10 then (if 0 ≤ x4 ∧ x4 < 10 then (if 0 ≤ (a0.t (x1).toNat (x4).toNat) then (if 0 ≤ x4 ∧ x4 < 10 then (if 0 ≤ x1 ∧ x1 < 10 then (if 0 ≤ (a0.t (x4).toNat (x1).toNat) then some (.next ((bits .or .i64 x2 (IntKind.i64.wrap (1 * 2 ^ (min (((a0.t (x1).toNat (x4).toNat) : Int).toNat) IntKind.i64.bits)))), (bits .or .i64 x3 (IntKind.i64.wrap (1 * 2 ^ (min (((a0.t (x4).toNat (x1).toNat) : Int).toNat) IntKind.i64.bits)))), (IntKind.i64.wrap (x4 + 1)))) else none) else none) else none) else none) else none) else none)) else none) else none)) else none) else none) (some (.next (x2, x3, (IntKind.i64.wrap (x4 + 1)))))) (some (.next (x2, x3, (IntKind.i64.wrap (x4 + 1)))))))) (some (.stop (x2, x3, x4) 2)))
noncomputable def m_impl_IsSquare_l0 (a0 : Sq) : Int → Option (Out (Int) Bool)
  | x1 => (cond (decide (x1 < 10)) ((loopV (m_impl_IsSquare_l1 a0 x1) (0, 0, 0)).bind fun R => match R with | .stop (x5, x6, x7) id => (if id = 2 then (cond (decide (x1 < a0.order)) (if 0 ≤ a0.order then (cond (x5 != (IntKind.i64.wrap ((IntKind.i64.wrap (1 * 2 ^ (min ((a0.order : Int).toNat) IntKind.i64.bits))) - 1))) (some (.ret false)) (if 0 ≤ a0.order then (cond (x6 != (IntKind.i64.wrap ((IntKind.i64.wrap (1 * 2 ^ (min ((a0.order : Int).toNat) IntKind.i64.bits))) - 1))) (some (.ret false)) (some (.next (IntKind.i64.wrap (x1 + 1))))) else none)) else none) (some (.next (IntKind.i64.wrap (x1 + 1))))) else none) | .ret r => some (.ret r) | .next _ => none) (some (.stop x1 0)))
noncomputable def m_impl_IsSquare (a0 : Sq) : Option Bool := ((m_impl_within a0.order 1 10).bind fun r1 => (cond (!r1) (some false) ((loopV (m_impl_IsSquare_l0 a0) 0).bind fun R => match R with | .stop x8 id => (if id = 0 then some true else none) | .ret r => some r | .next _ => none)))

/-! loop.example/g01195/impl.direct$1 -/
/-! (loop.example/g01195/impl.Square).elements -/
noncomputable def m_impl_Square_elements_l0 (a0 : Sq) : ((List Int) × Int) → Option (Out ((List Int) × Int) (List Int))
  | (x1, x2) => (cond (decide (x2 < (IntKind.u8.wrap a0.order))) (if x1.length + 1 ≤ 1099511627776 then some (.next ((x1 ++ [x2]), (IntKind.u8.wrap (x2 + 1)))) else none) (some (.stop (x1, x2) 0)))
noncomputable def m_impl_Square_elements (a0 : Sq) : Option (List Int) := ((loopV (m_impl_Square_elements_l0 a0) ([], 0)).bind fun R => match R with | .stop (x3, x4) id => (if id = 0 then some x3 else none) | .ret r => none | .next _ => none)

/-! loop.example/g01195/impl.made -/
noncomputable def m_impl_made_l1 (ff1 : Int → Int → Option Int) (r1 : (List Int)) (x1 : Int) (r2 : (List Int)) : (Int × Sq) → Option (Out (Int × Sq) Sq)
  | (x3, x4) => (cond (decide (x3 < ((r2.length : Nat) : Int))) (if 0 ≤ x3 ∧ x3 < (r2.length : Nat) then ((ff1 (r1.getD (x1).toNat 0) (r2.getD (x3).toNat 0)).bind fun r3 => (if 0 ≤ (r1.getD (x1).toNat 0) ∧ (r1.getD (x1).toNat 0) < 10 then (if 0 ≤ (r2.getD (x3).toNat 0) ∧ (r2.getD (x3).toNat 0) < 10 then some (.next ((IntKind.i64.wrap (x3 + 1)), (⟨x4.order, (tset x4.t ((r1.getD (x1).toNat 0)).toNat ((r2.getD (x3).toNat 0)).toNat r3)⟩ : Sq))) else none) else none)) else none) (some (.stop (x3, x4) 2)))
noncomputable def m_impl_made_l0 (ff1 : Int → Int → Option Int) (r1 : (List Int)) : (Int × Sq) → Option (Out (Int × Sq) Sq)
  | (x1, x2) => (cond (decide (x1 < ((r1.length : Nat) : Int))) (if 0 ≤ x1 ∧ x1 < (r1.length : Nat) then ((m_impl_Square_elements x2).bind fun r2 => ((loopV (m_impl_made_l1 ff1 r1 x1 r2) (0, x2)).bind fun R => match R with | .stop (x5, x6) id => (if id = 2 then some (.next ((IntKind.i64.wrap (x1 + 1)), x6)) else none) | .ret r => none | .next _ => none)) else none) (some (.stop (x1, x2) 0)))
noncomputable def m_impl_made (a0 : Int) (ff1 : Int → Int → Option Int) : Option Sq := ((m_impl_Square_elements (⟨a0, tb0⟩ : Sq)).bind fun r1 => ((loopV (m_impl_made_l0 ff1 r1) (0, (⟨a0, tb0⟩ : Sq))).bind fun R => match R with | .stop (x7, x8) id => (if id = 0 then some x8 else none) | .ret r => none | .next _ => none))

/-! loop.example/g01195/impl.direct -/
/-! loop.example/g01195/impl.DirectProduct -/
/-! loop.example/g01195/spec.DirectProduct -/
/-! (loop.example/g01195/impl.Square).isUnit -/
noncomputable def m_impl_Square_isUnit_l0 (a0 : Sq) (a1 : Int) (r1 : (List Int)) : Int → Option (Out (Int) Bool)
  | x1 => (cond (decide (x1 < ((r1.length : Nat) : Int))) (if 0 ≤ x1 ∧ x1 < (r1.length : Nat) then (if 0 ≤ a1 ∧ a1 < 10 then (if 0 ≤ (r1.getD (x1).toNat 0) ∧ (r1.getD (x1).toNat 0) < 10 then (cond (((a0.t (a1).toNat) ((r1.getD (x1).toNat 0)).toNat) != (r1.getD (x1).toNat 0)) (some (.ret false)) (if 0 ≤ (r1.getD (x1).toNat 0) ∧ (r1.getD (x1).toNat 0) < 10 then (if 0 ≤ a1 ∧ a1 < 10 then (cond (((a0.t ((r1.getD (x1).toNat 0)).toNat) (a1).toNat) != (r1.getD (x1).toNat 0)) (some (.ret false)) (some (.next (IntKind.i64.wrap (x1 + 1))))) else none) else none)) else none) else none) else none) (some (.stop x1 0)))
noncomputable def m_impl_Square_isUnit (a0 : Sq) (a1 : Int) : Option Bool := ((m_impl_Square_elements a0).bind fun r1 => ((loopV (m_impl_Square_isUnit_l0 a0 a1 r1) 0).bind fun R => match R with | .stop x2 id => (if id = 0 then some true else none) | .ret r => some r | .next _ => none))

/-! loop.example/g01195/impl.IsLoop -/
noncomputable def m_impl_IsLoop (a0 : Sq) : Option Bool := ((m_impl_IsSquare a0).bind fun r1 => (cond r1 ((m_impl_Square_isUnit a0 0).bind fun r2 => some r2) (some false)))

/-! (loop.example/g01195/impl.Square).isAssociative -/
noncomputable def m_impl_Square_isAssociative_l2 (a0 : Sq) (r1 : (List Int)) (x1 : Int) (r2 : (List Int)) (x2 : Int) (r3 : (List Int)) : Int → Option (Out (Int) Bool)
  | x3 => (cond (decide (x3 < ((r3.length : Nat) : Int))) (if 0 ≤ x3 ∧ x3 < (r3.length : Nat) then (if 0 ≤ (r1.getD (x1).toNat 0) ∧ (r1.getD (x1).toNat 0) < 10 then (if 0 ≤ (r2.getD (x2).toNat 0) ∧ (r2.getD (x2).toNat 0) < 10 then (if 0 ≤ ((a0.t ((r1.getD (x1).toNat 0)).toNat) ((r2.getD (x2).toNat 0)).toNat) ∧ ((a0.t ((r1.getD (x1).toNat 0)).toNat) ((r2.getD (x2).toNat 0)).toNat) < 10 then (if 0 ≤ (r3.getD (x3).toNat 0) ∧ (r3.getD (x3).toNat 0) < 10 then (if 0 ≤ (r2.getD (x2).toNat 0) ∧ (r2.getD (x2).toNat 0) < 10 then (if 0 ≤ (r3.getD (x3).toNat 0) ∧ (r3.getD (x3).toNat 0) < 10 then (if 0 ≤ (r1.getD (x1).toNat 0) ∧ (r1.getD (x1).toNat 0) < 10 then (if 0 ≤ ((a0.t ((r2.getD (x2).toNat 0)).toNat) ((r3.getD (x3).toNat 0)).toNat) ∧ ((a0.t ((r2.getD (x2).toNat 0)).toNat) ((r3.getD (x3).toNat 0)).toNat) < 10 then (cond (((a0.t (((a0.t ((r1.getD (x1).toNat 0)).toNat) ((r2.getD (x2).toNat 0)).toNat)).toNat) ((r3.getD (x3).toNat 0)).toNat) != ((a0.t ((r1.getD (x1).toNat 0)).toNat) (((a0.t ((r2.getD (x2).toNat 0)).toNat) ((r3.getD (x3).toNat 0)).toNat)).toNat)) (some (.ret false)) (some (.next (IntKind.i64.wrap (x3 + 1))))) else none) else none) else none) else none) else none) else none) else none) else none) else none) (some (.stop x3 4)))
noncomputable def m_impl_Square_isAssociative_l1 (a0 : Sq) (r1 : (List Int)) (x1 : Int) (r2 : (List Int)) : Int → Option (Out (Int) Bool)
  | x2 => (cond (decide (x2 < ((r2.length : Nat) : Int))) (if 0 ≤ x2 ∧ x2 < (r2.length : Nat) then ((m_impl_Square_elements a0).bind fun r3 => ((loopV (m_impl_Square_isAssociative_l2 a0 r1 x1 r2 x2 r3) 0).bind fun R => match R with | .stop x4 id => (if id = 4 then some (.next (IntKind.i64.wrap (x2 + 1))) else none) | .ret r => some (.ret r) | .next _ => none)) else none) (some (.stop x2 2)))
noncomputable def m_impl_Square_isAssociative_l0 (a0 : Sq) (r1 : (List Int)) : Int → Option (Out (Int) Bool)
  | x1 => (cond (decide (x1 < ((r1.length : Nat) : Int))) (if 0 ≤ x1 ∧ x1 < (r1.length : Nat) then ((m_impl_Square_elements a0).bind fun r2 => ((loopV (m_impl_Square_isAssociative_l1 a0 r1 x1 r2) 0).bind fun R => match R with | .stop x5 id => (if id = 2 then some (.next (IntKind.i64.wrap (x1 + 1))) else none) | .ret r => some (.ret r) | .next _ => none)) else none) (some (.stop x1 0)))
noncomputable def m_impl_Square_isAssociative (a0 : Sq) : Option Bool := ((m_impl_Square_elements a0).bind fun r1 => ((loopV (m_impl_Square_isAssociative_l0 a0 r1) 0).bind fun R => match R with | .stop x6 id => (if id = 0 then some true else none) | .ret r => some r | .next _ => none))

/-! loop.example/g01195/impl.IsGroup -/
noncomputable def m_impl_IsGroup (a0 : Sq) : Option Bool := ((m_impl_IsLoop a0).bind fun r1 => (cond r1 ((m_impl_Square_isAssociative a0).bind fun r2 => some r2) (some false)))

/-! loop.example/g01195/spec.l01Near -/
/-! loop.example/g01195/spec.DrawCyclicSquare -/
/-! loop.example/g01195/impl.cyclic$1 -/
/-! loop.example/g01195/impl.cyclic -/
/-! loop.example/g01195/impl.CyclicSquare -/
/-! loop.example/g01195/spec.CyclicSquare -/
/-! loop.example/g01195/spec.DrawElementarySquare -/
/-! loop.example/g01195/impl.ElementarySquare$1 -/
/-! loop.example/g01195/impl.ElementarySquare -/
/-! loop.example/g01195/spec.ElementarySquare -/
/-! loop.example/g01195/laws.FnPermutations -/
/-! loop.example/g01195/spec.l02Draw -/
/-! loop.example/g01195/spec.DrawIsotopeOf -/
/-! loop.example/g01195/impl.IsTriple -/
/-! loop.example/g01195/impl.isotope -/
/-! loop.example/g01195/impl.IsotopeOf -/
/-! loop.example/g01195/spec.l02Is -/
/-! loop.example/g01195/spec.l02Code -/
/-! loop.example/g01195/spec.l02Isotope -/
/-! loop.example/g01195/spec.IsotopeOf -/
/-! loop.example/g01195/spec.l02Order -/
/-! loop.example/g01195/spec.DrawThenTriples -/
/-! loop.example/g01195/impl.thenTriples -/
/-! loop.example/g01195/impl.ThenTriples -/
/-! loop.example/g01195/spec.l02Then -/
/-! loop.example/g01195/spec.ThenTriples -/
/-! loop.example/g01195/spec.DrawIsTriple -/
/-! loop.example/g01195/spec.DrawBackTriple -/
/-! loop.example/g01195/impl.backTriple -/
/-! loop.example/g01195/impl.BackTriple -/
/-! loop.example/g01195/spec.l02Back -/
/-! loop.example/g01195/spec.BackTriple -/
/-! loop.example/g01195/spec.IsTriple -/
/-! loop.example/g01195/spec.l02Start -/
/-! loop.example/g01195/spec.l02Places -/
/-! loop.example/g01195/spec.l02Close -/
/-! loop.example/g01195/spec.l02Maps -/
/-! loop.example/g01195/spec.l02All -/
/-! loop.example/g01195/spec.DrawIsAutotopism -/
/-! loop.example/g01195/impl.IsAutotopism -/
/-! loop.example/g01195/spec.IsAutotopism -/
/-! loop.example/g01195/spec.DrawLoopAt -/
/-! (loop.example/g01195/impl.Square).has -/
noncomputable def m_impl_Square_has_l0 (a0 : Sq) (l1 : (List Int)) : Int → Option (Out (Int) Bool)
  | x1 => (cond (decide (x1 < ((l1.length : Nat) : Int))) (if 0 ≤ x1 ∧ x1 < (l1.length : Nat) then (cond (decide ((IntKind.i64.wrap (l1.getD (x1).toNat 0)) ≥ a0.order)) (some (.ret false)) (some (.next (IntKind.i64.wrap (x1 + 1))))) else none) (some (.stop x1 0)))
noncomputable def m_impl_Square_has (a0 : Sq) (l1 : (List Int)) : Option Bool := ((loopV (m_impl_Square_has_l0 a0 l1) 0).bind fun R => match R with | .stop x2 id => (if id = 0 then some true else none) | .ret r => some r | .next _ => none)

/-! loop.example/g01195/impl.checked -/
noncomputable def m_impl_checked (a0 : Sq) (l1 : (List Int)) : Option Int := ((m_impl_IsSquare a0).bind fun r1 => (cond (!r1) (some 1) ((m_impl_Square_has a0 l1).bind fun r2 => (cond (!r2) (some 2) (some 0)))))

/-! loop.example/g01195/impl.identity -/
/-! (loop.example/g01195/impl.Square).column -/
noncomputable def m_impl_Square_column_l0 (a0 : Sq) (a1 : Int) : (Int × (Nat → Int)) → Option (Out (Int × (Nat → Int)) (Nat → Int))
  | (x1, x2) => (cond (decide (x1 < 10)) (if 0 ≤ x1 ∧ x1 < 10 then (if 0 ≤ a1 ∧ a1 < 10 then (if 0 ≤ x1 ∧ x1 < 10 then some (.next ((IntKind.i64.wrap (x1 + 1)), (fset x2 (x1).toNat (a0.t (x1).toNat (a1).toNat)))) else none) else none) else none) (some (.stop (x1, x2) 0)))
noncomputable def m_impl_Square_column (a0 : Sq) (a1 : Int) : Option (Nat → Int) := ((loopV (m_impl_Square_column_l0 a0 a1) (0, pl0)).bind fun R => match R with | .stop (x3, x4) id => (if id = 0 then some x4 else none) | .ret r => none | .next _ => none)

/-! (loop.example/g01195/impl.Square).row -/
noncomputable def m_impl_Square_row (a0 : Sq) (a1 : Int) : Option (Nat → Int) := (if 0 ≤ a1 ∧ a1 < 10 then some (a0.t (a1).toNat) else none)

/-! loop.example/g01195/impl.toLoop -/
/-! loop.example/g01195/impl.LoopAt -/
/-! loop.example/g01195/spec.l02To -/
/-! loop.example/g01195/spec.LoopAt -/
/-! loop.example/g01195/laws.FnTripleIsotopes -/
/-! loop.example/g01195/spec.l04DrawLoop -/
/-! loop.example/g01195/spec.l10DrawSum -/
/-! loop.example/g01195/spec.l10Draw -/
/-! loop.example/g01195/spec.l10Two -/
/-! loop.example/g01195/spec.DrawMultiplySums -/
/-! loop.example/g01195/impl.isPrime -/
/-! (loop.example/g01195/impl.Square).isSum -/
/-! loop.example/g01195/impl.ringCode -/
/-! (loop.example/g01195/impl.Square).times -/
/-! loop.example/g01195/impl.MultiplySums -/
/-! loop.example/g01195/spec.l01Loop -/
noncomputable def m_spec_l01Loop_l0 (a0 : Sq) : Int → Option (Out (Int) Bool)
  | x1 => (cond (decide (x1 < a0.order)) (if 0 ≤ x1 ∧ x1 < 10 then (cond ((a0.t 0 (x1).toNat) != (IntKind.u8.wrap x1)) (some (.ret false)) (if 0 ≤ x1 ∧ x1 < 10 then (cond ((a0.t (x1).toNat 0) != (IntKind.u8.wrap x1)) (some (.ret false)) (some (.next (IntKind.i64.wrap (x1 + 1))))) else none)) else none) (some (.stop x1 0)))
noncomputable def m_spec_l01Loop (a0 : Sq) : Option Bool := ((m_spec_l01Is a0).bind fun r1 => (cond (!r1) (some false) ((loopV (m_spec_l01Loop_l0 a0) 0).bind fun R => match R with | .stop x2 id => (if id = 0 then some true else none) | .ret r => some r | .next _ => none)))

/-! loop.example/g01195/spec.l10Prime -/
/-! loop.example/g01195/spec.l10Is -/
/-! loop.example/g01195/spec.l10Code -/
/-! loop.example/g01195/spec.l10Times -/
/-! loop.example/g01195/spec.MultiplySums -/
/-! loop.example/g01195/laws.likeInts -/
/-! loop.example/g01195/impl.AddSums -/
/-! loop.example/g01195/spec.l10Add -/
/-! loop.example/g01195/spec.AddSums -/
/-! loop.example/g01195/spec.l10One -/
/-! loop.example/g01195/spec.DrawPowerOfSum -/
/-! (loop.example/g01195/impl.Square).unit -/
/-! loop.example/g01195/impl.PowerOfSum -/
/-! loop.example/g01195/spec.l10Unit -/
/-! loop.example/g01195/spec.PowerOfSum -/
/-! loop.example/g01195/impl.AugmentationOf -/
/-! loop.example/g01195/spec.l10Augment -/
/-! loop.example/g01195/spec.AugmentationOf -/
/-! loop.example/g01195/laws.roll -/
/-! (*loop.example/g01195/laws.dice).below -/
/-! loop.example/g01195/laws.sum9 -/
/-! loop.example/g01195/laws.FnSums -/
/-! loop.example/g01195/spec.l01Pair -/
noncomputable def m_spec_l01Pair (l0 : (List Int)) : Option (Sq × Int × Int) := ((m_spec_l01From l0).bind fun r1 => ((m_spec_l01Spoil r1 l0).bind fun r2 => ((m_spec_l01Next r2.2 l0 20).bind fun r3 => ((m_spec_l01Next r3.2 l0 (IntKind.i64.wrap (r2.1.order + (IntKind.i64.wrap (r3.1.tdiv 19))))).bind fun r4 => ((m_spec_l01Next r4.2 l0 20).bind fun r5 => ((m_spec_l01Next r5.2 l0 (IntKind.i64.wrap (r2.1.order + (IntKind.i64.wrap (r5.1.tdiv 19))))).bind fun r6 => some (r2.1, (IntKind.u8.wrap r4.1), (IntKind.u8.wrap r6.1))))))))

/-! loop.example/g01195/spec.DrawProductIn -/
noncomputable def m_spec_DrawProductIn (l0 : (List Int)) : Option (Sq × Int × Int) := ((m_spec_l01Pair l0).bind fun r1 => some (r1.1, r1.2.1, r1.2.2))

/-! loop.example/g01195/impl.ProductIn -/
noncomputable def m_impl_ProductIn (a0 : Sq) (a1 : Int) (a2 : Int) : Option (Int × Int) := ((m_impl_checked a0 ([a1, a2])).bind fun r1 => (cond (r1 != 0) (some (0, r1)) (if 0 ≤ a1 ∧ a1 < 10 then (if 0 ≤ a2 ∧ a2 < 10 then some ((a0.t (a1).toNat (a2).toNat), 0) else none) else none)))

/-! loop.example/g01195/spec.l01Two -/
noncomputable def m_spec_l01Two (a0 : Sq) (a1 : Int) (a2 : Int) : Option Int := ((m_spec_l01Is a0).bind fun r1 => (cond (!r1) (some 1) (cond (decide ((IntKind.i64.wrap a1) ≥ a0.order)) (some 2) (cond (decide ((IntKind.i64.wrap a2) ≥ a0.order)) (some 2) (some 0)))))

/-! loop.example/g01195/spec.ProductIn -/
noncomputable def m_spec_ProductIn (a0 : Sq) (a1 : Int) (a2 : Int) : Option (Int × Int) := ((m_spec_l01Two a0 a1 a2).bind fun r1 => (cond (r1 != 0) (some (0, r1)) (if 0 ≤ a1 ∧ a1 < 10 then (if 0 ≤ a2 ∧ a2 < 10 then some ((a0.t (a1).toNat (a2).toNat), 0) else none) else none)))

/-! loop.example/g01195/spec.IsSquare -/
noncomputable def m_spec_IsSquare (a0 : Sq) : Option Bool := ((m_spec_l01Is a0).bind fun r1 => some r1)

/-! loop.example/g01195/spec.IsLoop -/
noncomputable def m_spec_IsLoop (a0 : Sq) : Option Bool := ((m_spec_l01Loop a0).bind fun r1 => some r1)

/-! loop.example/g01195/spec.l01Group -/
noncomputable def m_spec_l01Group_l2 (a0 : Sq) (x1 : Int) (x2 : Int) : Int → Option (Out (Int) Bool)
  | x3 => (cond (decide (x3 < a0.order)) (if 0 ≤ x1 ∧ x1 < 10 then (if 0 ≤ x2 ∧ x2 < 10 then (if 0 ≤ (a0.t (x1).toNat (x2).toNat) ∧ (a0.t (x1).toNat (x2).toNat) < 10 then (if 0 ≤ x3 ∧ x3 < 10 then (if 0 ≤ x2 ∧ x2 < 10 then (if 0 ≤ x3 ∧ x3 < 10 then (if 0 ≤ x1 ∧ x1 < 10 then (if 0 ≤ (a0.t (x2).toNat (x3).toNat) ∧ (a0.t (x2).toNat (x3).toNat) < 10 then (cond (((a0.t ((a0.t (x1).toNat (x2).toNat)).toNat) (x3).toNat) != ((a0.t (x1).toNat) ((a0.t (x2).toNat (x3).toNat)).toNat)) (some (.ret false)) (some (.next (IntKind.i64.wrap (x3 + 1))))) else none) else none) else none) else none) else none) else none) else none) else none) (some (.stop x3 4)))
noncomputable def m_spec_l01Group_l1 (a0 : Sq) (x1 : Int) : Int → Option (Out (Int) Bool)
  | x2 => (cond (decide (x2 < a0.order)) ((loopV (m_spec_l01Group_l2 a0 x1 x2) 0).bind fun R => match R with | .stop x4 id => (if id = 4 then some (.next (IntKind.i64.wrap (x2 + 1))) else none) | .ret r => some (.ret r) | .next _ => none) (some (.stop x2 2)))
noncomputable def m_spec_l01Group_l0 (a0 : Sq) : Int → Option (Out (Int) Bool)
  | x1 => (cond (decide (x1 < a0.order)) ((loopV (m_spec_l01Group_l1 a0 x1) 0).bind fun R => match R with | .stop x5 id => (if id = 2 then some (.next (IntKind.i64.wrap (x1 + 1))) else none) | .ret r => some (.ret r) | .next _ => none) (some (.stop x1 0)))
noncomputable def m_spec_l01Group (a0 : Sq) : Option Bool := ((loopV (m_spec_l01Group_l0 a0) 0).bind fun R => match R with | .stop x6 id => (if id = 0 then some true else none) | .ret r => some r | .next _ => none)

/-! loop.example/g01195/spec.IsGroup -/
noncomputable def m_spec_IsGroup (a0 : Sq) : Option Bool := ((m_spec_l01Loop a0).bind fun r1 => (cond r1 ((m_spec_l01Group a0).bind fun r2 => some r2) (some false)))

/-! (loop.example/g01195/impl.Square).left -/
noncomputable def m_impl_Square_left_l0 (a0 : Sq) (a1 : Int) (a2 : Int) : Int → Option (Out (Int) Int)
  | x1 => (if 0 ≤ a1 ∧ a1 < 10 then (if 0 ≤ x1 ∧ x1 < 10 then (cond ((a0.t (a1).toNat (x1).toNat) != a2) (some (.next (IntKind.u8.wrap (x1 + 1)))) (some (.stop x1 0))) else none) else none)
noncomputable def m_impl_Square_left (a0 : Sq) (a1 : Int) (a2 : Int) : Option Int := ((loopV (m_impl_Square_left_l0 a0 a1 a2) 0).bind fun R => match R with | .stop x2 id => (if id = 0 then some x2 else none) | .ret r => none | .next _ => none)

/-! loop.example/g01195/impl.LeftQuotient -/
noncomputable def m_impl_LeftQuotient (a0 : Sq) (a1 : Int) (a2 : Int) : Option (Int × Int) := ((m_impl_checked a0 ([a1, a2])).bind fun r1 => (cond (r1 != 0) (some (0, r1)) ((m_impl_Square_left a0 a1 a2).bind fun r2 => some (r2, 0))))

/-! (loop.example/g01195/impl.Square).right -/
noncomputable def m_impl_Square_right_l0 (a0 : Sq) (a1 : Int) (a2 : Int) : Int → Option (Out (Int) Int)
  | x1 => (if 0 ≤ x1 ∧ x1 < 10 then (if 0 ≤ a2 ∧ a2 < 10 then (cond ((a0.t (x1).toNat (a2).toNat) != a1) (some (.next (IntKind.u8.wrap (x1 + 1)))) (some (.stop x1 0))) else none) else none)
noncomputable def m_impl_Square_right (a0 : Sq) (a1 : Int) (a2 : Int) : Option Int := ((loopV (m_impl_Square_right_l0 a0 a1 a2) 0).bind fun R => match R with | .stop x2 id => (if id = 0 then some x2 else none) | .ret r => none | .next _ => none)

/-! loop.example/g01195/impl.RightQuotient -/
noncomputable def m_impl_RightQuotient (a0 : Sq) (a1 : Int) (a2 : Int) : Option (Int × Int) := ((m_impl_checked a0 ([a1, a2])).bind fun r1 => (cond (r1 != 0) (some (0, r1)) ((m_impl_Square_right a0 a1 a2).bind fun r2 => some (r2, 0))))

/-! loop.example/g01195/impl.RowMap -/
noncomputable def m_impl_RowMap (a0 : Sq) (a1 : Int) : Option ((Nat → Int) × Int) := ((m_impl_checked a0 ([a1])).bind fun r1 => (cond (r1 != 0) (some (pl0, r1)) ((m_impl_Square_row a0 a1).bind fun r2 => some (r2, 0))))

/-! loop.example/g01195/impl.ColumnMap -/
noncomputable def m_impl_ColumnMap (a0 : Sq) (a1 : Int) : Option ((Nat → Int) × Int) := ((m_impl_checked a0 ([a1])).bind fun r1 => (cond (r1 != 0) (some (pl0, r1)) ((m_impl_Square_column a0 a1).bind fun r2 => some (r2, 0))))

/-! (loop.example/g01195/impl.Square).opposite$1 -/
noncomputable def m_impl_Square_opposite_1 (a0 : Int) (a1 : Int) (v0 : Sq) : Option Int := (if 0 ≤ a1 ∧ a1 < 10 then (if 0 ≤ a0 ∧ a0 < 10 then some (v0.t (a1).toNat (a0).toNat) else none) else none)

/-! (loop.example/g01195/impl.Square).opposite -/
noncomputable def m_impl_Square_opposite (a0 : Sq) : Option Sq := ((m_impl_made a0.order (fun x0_ x1_ => m_impl_Square_opposite_1 x0_ x1_ a0)).bind fun r1 => some r1)

/-! loop.example/g01195/impl.OppositeOf -/
noncomputable def m_impl_OppositeOf (a0 : Sq) : Option (Sq × Int) := ((m_impl_IsSquare a0).bind fun r1 => (cond (!r1) (some (sq0, 1)) ((m_impl_Square_opposite a0).bind fun r2 => some (r2, 0))))

/-! loop.example/g01195/impl.ListsOfSquare -/
noncomputable def m_impl_ListsOfSquare_l1 (a0 : Sq) (r2 : (List Int)) (x2 : Int) (r3 : (List Int)) : ((List Int) × Int) → Option (Out ((List Int) × Int) ((List (List Int)) × Int))
  | (x3, x4) => (cond (decide (x4 < ((r3.length : Nat) : Int))) (if 0 ≤ x4 ∧ x4 < (r3.length : Nat) then (if 0 ≤ (r2.getD (x2).toNat 0) ∧ (r2.getD (x2).toNat 0) < 10 then (if 0 ≤ (r3.getD (x4).toNat 0) ∧ (r3.getD (x4).toNat 0) < 10 then (if x3.length + 1 ≤ 1099511627776 then some (.next ((x3 ++ [(IntKind.i64.wrap ((a0.t ((r2.getD (x2).toNat 0)).toNat) ((r3.getD (x4).toNat 0)).toNat))]), (IntKind.i64.wrap (x4 + 1)))) else none) else none) else none) else none) (some (.stop (x3, x4) 2)))
noncomputable def m_impl_ListsOfSquare_l0 (a0 : Sq) (r2 : (List Int)) : ((List (List Int)) × Int) → Option (Out ((List (List Int)) × Int) ((List (List Int)) × Int))
  | (x1, x2) => (cond (decide (x2 < ((r2.length : Nat) : Int))) (if 0 ≤ x2 ∧ x2 < (r2.length : Nat) then ((m_impl_Square_elements a0).bind fun r3 => ((loopV (m_impl_ListsOfSquare_l1 a0 r2 x2 r3) ([], 0)).bind fun R => match R with | .stop (x5, x6) id => (if id = 2 then (if x1.length + 1 ≤ 1099511627776 then some (.next ((x1 ++ [x5]), (IntKind.i64.wrap (x2 + 1)))) else none) else none) | .ret r => none | .next _ => none)) else none) (some (.stop (x1, x2) 0)))
noncomputable def m_impl_ListsOfSquare (a0 : Sq) : Option ((List (List Int)) × Int) := ((m_impl_IsSquare a0).bind fun r1 => (cond (!r1) (some ([], 1)) ((m_impl_Square_elements a0).bind fun r2 => ((loopV (m_impl_ListsOfSquare_l0 a0 r2) ([], 0)).bind fun R => match R with | .stop (x7, x8) id => (if id = 0 then some (x7, 0) else none) | .ret r => none | .next _ => none))))

/-! loop.example/g01195/impl.SquareOfLists$1 -/
noncomputable def m_impl_SquareOfLists_1 (a0 : Int) (a1 : Int) (lv0 : (List (List Int))) : Option Int := (if 0 ≤ a0 ∧ a0 < (lv0.length : Nat) then (if 0 ≤ a1 ∧ a1 < ((lv0.getD (a0).toNat []).length : Nat) then some (IntKind.u8.wrap ((lv0.getD (a0).toNat []).getD (a1).toNat 0)) else none) else none)

/-! loop.example/g01195/impl.SquareOfLists -/
noncomputable def m_impl_SquareOfLists_l1 (l0 : (List (List Int))) (x1 : Int) : (Int × Sq) → Option (Out (Int × Sq) (Sq × Int))
  | (x3, x4) => (cond (decide (x3 < (((l0.getD (x1).toNat []).length : Nat) : Int))) (if 0 ≤ x3 ∧ x3 < ((l0.getD (x1).toNat []).length : Nat) then ((m_impl_within ((l0.getD (x1).toNat []).getD (x3).toNat 0) 0 (IntKind.i64.wrap (((l0.length : Nat) : Int) - 1))).bind fun r2 => (cond (!r2) (some (.ret (sq0, 2))) (some (.next ((IntKind.i64.wrap (x3 + 1)), x4))))) else none) (some (.stop (x3, x4) 2)))
noncomputable def m_impl_SquareOfLists_l0 (l0 : (List (List Int))) : (Int × Sq) → Option (Out (Int × Sq) (Sq × Int))
  | (x1, x2) => (cond (decide (x1 < ((l0.length : Nat) : Int))) (if 0 ≤ x1 ∧ x1 < (l0.length : Nat) then (cond ((((l0.getD (x1).toNat []).length : Nat) : Int) != ((l0.length : Nat) : Int)) (some (.ret (sq0, 2))) ((loopV (m_impl_SquareOfLists_l1 l0 x1) (0, x2)).bind fun R => match R with | .stop (x5, x6) id => (if id = 2 then some (.next ((IntKind.i64.wrap (x1 + 1)), x6)) else none) | .ret r => some (.ret (r.1, r.2)) | .next _ => none)) else none) (some (.stop (x1, x2) 0)))
noncomputable def m_impl_SquareOfLists (l0 : (List (List Int))) : Option (Sq × Int) := ((m_impl_within ((l0.length : Nat) : Int) 1 10).bind fun r1 => (cond (!r1) (some (sq0, 2)) ((loopV (m_impl_SquareOfLists_l0 l0) (0, sq0)).bind fun R => match R with | .stop (x7, x8) id => (if id = 0 then ((m_impl_made ((l0.length : Nat) : Int) (fun x0_ x1_ => m_impl_SquareOfLists_1 x0_ x1_ l0)).bind fun r3 => ((m_impl_IsSquare r3).bind fun r4 => (cond (!r4) (some (sq0, 5)) (some (r3, 0))))) else none) | .ret r => some (r.1, r.2) | .next _ => none)))

/-! loop.example/g01195/impl.squareText -/
noncomputable def m_impl_squareText_l1 (a0 : Sq) (r1 : (List Int)) (x2 : Int) (r2 : (List Int)) : ((List Int) × Int) → Option (Out ((List Int) × Int) ByteArray)
  | (x3, x4) => (cond (decide (x4 < ((r2.length : Nat) : Int))) (if 0 ≤ x4 ∧ x4 < (r2.length : Nat) then (if 0 ≤ (r1.getD (x2).toNat 0) ∧ (r1.getD (x2).toNat 0) < 10 then (if 0 ≤ (r2.getD (x4).toNat 0) ∧ (r2.getD (x4).toNat 0) < 10 then (if x3.length + 1 ≤ 1099511627776 then some (.next ((x3 ++ [(IntKind.u8.wrap (48 + ((a0.t ((r1.getD (x2).toNat 0)).toNat) ((r2.getD (x4).toNat 0)).toNat)))]), (IntKind.i64.wrap (x4 + 1)))) else none) else none) else none) else none) (some (.stop (x3, x4) 2)))
noncomputable def m_impl_squareText_l2 (a0 : Sq) (r1 : (List Int)) (x2 : Int) (r3 : (List Int)) : ((List Int) × Int) → Option (Out ((List Int) × Int) ByteArray)
  | (x7, x8) => (cond (decide (x8 < ((r3.length : Nat) : Int))) (if 0 ≤ x8 ∧ x8 < (r3.length : Nat) then (if 0 ≤ (r1.getD (x2).toNat 0) ∧ (r1.getD (x2).toNat 0) < 10 then (if 0 ≤ (r3.getD (x8).toNat 0) ∧ (r3.getD (x8).toNat 0) < 10 then (if x7.length + 1 ≤ 1099511627776 then some (.next ((x7 ++ [(IntKind.u8.wrap (48 + ((a0.t ((r1.getD (x2).toNat 0)).toNat) ((r3.getD (x8).toNat 0)).toNat)))]), (IntKind.i64.wrap (x8 + 1)))) else none) else none) else none) else none) (some (.stop (x7, x8) 2)))
noncomputable def m_impl_squareText_l0 (a0 : Sq) (r1 : (List Int)) : ((List Int) × Int) → Option (Out ((List Int) × Int) ByteArray)
  | (x1, x2) => (cond (decide (x2 < ((r1.length : Nat) : Int))) (if 0 ≤ x2 ∧ x2 < (r1.length : Nat) then (cond (decide ((r1.getD (x2).toNat 0) > 0)) (if x1.length + 1 ≤ 1099511627776 then ((m_impl_Square_elements a0).bind fun r2 => ((loopV (m_impl_squareText_l1 a0 r1 x2 r2) ((x1 ++ [47]), 0)).bind fun R => match R with | .stop (x5, x6) id => (if id = 2 then some (.next (x5, (IntKind.i64.wrap (x2 + 1)))) else none) | .ret r => none | .next _ => none)) else none) ((m_impl_Square_elements a0).bind fun r3 => ((loopV (m_impl_squareText_l2 a0 r1 x2 r3) (x1, 0)).bind fun R => match R with | .stop (x9, x10) id => (if id = 2 then some (.next (x9, (IntKind.i64.wrap (x2 + 1)))) else none) | .ret r => none | .next _ => none))) else none) (some (.stop (x1, x2) 0)))
noncomputable def m_impl_squareText (a0 : Sq) : Option ByteArray := ((m_impl_Square_elements a0).bind fun r1 => ((loopV (m_impl_squareText_l0 a0 r1) ([], 0)).bind fun R => match R with | .stop (x11, x12) id => (if id = 0 then some (strOf x11) else none) | .ret r => none | .next _ => none))

/-! loop.example/g01195/impl.SquareText -/
noncomputable def m_impl_SquareText (a0 : Sq) : Option (ByteArray × Int) := ((m_impl_IsSquare a0).bind fun r1 => (cond (!r1) (some (((ByteArray.mk #[])), 1)) ((m_impl_squareText a0).bind fun r2 => some (r2, 0))))

/-! loop.example/g01195/impl.ParseSquare$1 -/
noncomputable def m_impl_ParseSquare_1 (a0 : Int) (a1 : Int) (v0 : ByteArray) (v1 : Int) : Option Int := (if 0 ≤ (IntKind.i64.wrap ((IntKind.i64.wrap ((IntKind.i64.wrap a0) * (IntKind.i64.wrap (v1 + 1)))) + (IntKind.i64.wrap a1))) ∧ (IntKind.i64.wrap ((IntKind.i64.wrap ((IntKind.i64.wrap a0) * (IntKind.i64.wrap (v1 + 1)))) + (IntKind.i64.wrap a1))) < (v0.size : Nat) then some (IntKind.u8.wrap ((bt v0 ((IntKind.i64.wrap ((IntKind.i64.wrap ((IntKind.i64.wrap a0) * (IntKind.i64.wrap (v1 + 1)))) + (IntKind.i64.wrap a1)))).toNat) - 48)) else none)

/-! loop.example/g01195/impl.ParseSquare -/
noncomputable def m_impl_ParseSquare_l0 (a0 : ByteArray) : (Int × Sq) → Option (Out (Int × Sq) (Sq × Int))
  | (x1, x2) => (cond (decide (x1 ≤ 10)) (cond (((a0.size : Nat) : Int) != (IntKind.i64.wrap ((IntKind.i64.wrap (x1 * (IntKind.i64.wrap (x1 + 1)))) - 1))) (some (.next ((IntKind.i64.wrap (x1 + 1)), x2))) ((m_impl_made x1 (fun x0_ x1_ => m_impl_ParseSquare_1 x0_ x1_ a0 x1)).bind fun r1 => ((m_impl_IsSquare r1).bind fun r2 => (cond r2 ((m_impl_squareText r1).bind fun r3 => (cond (r3 == a0) (some (.ret (r1, 0))) (some (.next ((IntKind.i64.wrap (x1 + 1)), x2))))) (some (.next ((IntKind.i64.wrap (x1 + 1)), x2))))))) (some (.stop (x1, x2) 0)))
noncomputable def m_impl_ParseSquare (a0 : ByteArray) : Option (Sq × Int) := ((loopV (m_impl_ParseSquare_l0 a0) (1, sq0)).bind fun R => match R with | .stop (x3, x4) id => (if id = 0 then some (sq0, 6) else none) | .ret r => some (r.1, r.2) | .next _ => none)

/-! loop.example/g01195/spec.DrawLeftQuotient -/
noncomputable def m_spec_DrawLeftQuotient (l0 : (List Int)) : Option (Sq × Int × Int) := ((m_spec_l01Pair l0).bind fun r1 => some (r1.1, r1.2.1, r1.2.2))

/-! loop.example/g01195/spec.l01Left -/
noncomputable def m_spec_l01Left_l0 (a0 : Sq) (a1 : Int) (a2 : Int) : Int → Option (Out (Int) Int)
  | x1 => (if 0 ≤ a1 ∧ a1 < 10 then (if 0 ≤ x1 ∧ x1 < 10 then (cond ((a0.t (a1).toNat (x1).toNat) != a2) (some (.next (IntKind.u8.wrap (x1 + 1)))) (some (.stop x1 0))) else none) else none)
noncomputable def m_spec_l01Left (a0 : Sq) (a1 : Int) (a2 : Int) : Option Int := ((loopV (m_spec_l01Left_l0 a0 a1 a2) 0).bind fun R => match R with | .stop x2 id => (if id = 0 then some x2 else none) | .ret r => none | .next _ => none)

/-! loop.example/g01195/spec.LeftQuotient -/
noncomputable def m_spec_LeftQuotient (a0 : Sq) (a1 : Int) (a2 : Int) : Option (Int × Int) := ((m_spec_l01Two a0 a1 a2).bind fun r1 => (cond (r1 != 0) (some (0, r1)) ((m_spec_l01Left a0 a1 a2).bind fun r2 => some (r2, 0))))

/-! loop.example/g01195/spec.l01Right -/
noncomputable def m_spec_l01Right_l0 (a0 : Sq) (a1 : Int) (a2 : Int) : Int → Option (Out (Int) Int)
  | x1 => (if 0 ≤ x1 ∧ x1 < 10 then (if 0 ≤ a2 ∧ a2 < 10 then (cond ((a0.t (x1).toNat (a2).toNat) != a1) (some (.next (IntKind.u8.wrap (x1 + 1)))) (some (.stop x1 0))) else none) else none)
noncomputable def m_spec_l01Right (a0 : Sq) (a1 : Int) (a2 : Int) : Option Int := ((loopV (m_spec_l01Right_l0 a0 a1 a2) 0).bind fun R => match R with | .stop x2 id => (if id = 0 then some x2 else none) | .ret r => none | .next _ => none)

/-! loop.example/g01195/spec.RightQuotient -/
noncomputable def m_spec_RightQuotient (a0 : Sq) (a1 : Int) (a2 : Int) : Option (Int × Int) := ((m_spec_l01Two a0 a1 a2).bind fun r1 => (cond (r1 != 0) (some (0, r1)) ((m_spec_l01Right a0 a1 a2).bind fun r2 => some (r2, 0))))

/-! loop.example/g01195/spec.ListsOfSquare -/
noncomputable def m_spec_ListsOfSquare_l1 (a0 : Sq) (x2 : Int) : ((List Int) × Int) → Option (Out ((List Int) × Int) ((List (List Int)) × Int))
  | (x3, x4) => (cond (decide (x4 < a0.order)) (if 0 ≤ x2 ∧ x2 < 10 then (if 0 ≤ x4 ∧ x4 < 10 then (if x3.length + 1 ≤ 1099511627776 then some (.next ((x3 ++ [(IntKind.i64.wrap (a0.t (x2).toNat (x4).toNat))]), (IntKind.i64.wrap (x4 + 1)))) else none) else none) else none) (some (.stop (x3, x4) 2)))
noncomputable def m_spec_ListsOfSquare_l0 (a0 : Sq) : ((List (List Int)) × Int) → Option (Out ((List (List Int)) × Int) ((List (List Int)) × Int))
  | (x1, x2) => (cond (decide (x2 < a0.order)) ((loopV (m_spec_ListsOfSquare_l1 a0 x2) ([], 0)).bind fun R => match R with | .stop (x5, x6) id => (if id = 2 then (if x1.length + 1 ≤ 1099511627776 then some (.next ((x1 ++ [x5]), (IntKind.i64.wrap (x2 + 1)))) else none) else none) | .ret r => none | .next _ => none) (some (.stop (x1, x2) 0)))
noncomputable def m_spec_ListsOfSquare (a0 : Sq) : Option ((List (List Int)) × Int) := ((m_spec_l01Is a0).bind fun r1 => (cond (!r1) (some ([], 1)) ((loopV (m_spec_ListsOfSquare_l0 a0) ([], 0)).bind fun R => match R with | .stop (x7, x8) id => (if id = 0 then some (x7, 0) else none) | .ret r => none | .next _ => none)))

/-! loop.example/g01195/spec.DrawSquareOfLists -/
noncomputable def m_spec_DrawSquareOfLists (l0 : (List Int)) : Option (List (List Int)) := ((m_spec_l01From l0).bind fun r1 => ((m_spec_l01DrawSquare r1 l0).bind fun r2 => ((m_spec_ListsOfSquare r2.1).bind fun r3 => ((m_spec_l01Next r2.2 l0 r2.1.order).bind fun r4 => (if 0 ≤ r4.1 ∧ r4.1 < (r3.1.length : Nat) then ((m_spec_l01Next r4.2 l0 12).bind fun r5 => (cond (r5.1 == 0) ((m_spec_l01Pick r5.2 l0 ([(-1), r2.1.order, 0])).bind fun r6 => (if 0 ≤ 0 ∧ 0 < ((r3.1.getD (r4.1).toNat []).length : Nat) then some (r3.1.set (r4.1).toNat ((r3.1.getD (r4.1).toNat []).set 0 r6.1)) else none)) (cond (r5.1 == 1) (if r3.1.length + 1 ≤ 1099511627776 then some (r3.1 ++ [[0]]) else none) (cond (r5.1 == 2) (some ([])) (cond (r5.1 == 3) (if 0 ≤ 0 ∧ 0 < (r3.1.length : Nat) then (if (r3.1.getD 0 []).length + 1 ≤ 1099511627776 then (if 0 ≤ 0 ∧ 0 < (r3.1.length : Nat) then some (r3.1.set 0 ((r3.1.getD 0 []) ++ [0])) else none) else none) else none) (some r3.1)))))) else none)))))

/-! loop.example/g01195/spec.SquareOfLists -/
noncomputable def m_spec_SquareOfLists_l1 (l0 : (List (List Int))) (x1 : Int) : (Int × Sq × Sq) → Option (Out (Int × Sq × Sq) (Sq × Int))
  | (x4, x5, x6) => (if 0 ≤ x1 ∧ x1 < (l0.length : Nat) then (cond (decide (x4 < (((l0.getD (x1).toNat []).length : Nat) : Int))) (if 0 ≤ x1 ∧ x1 < (l0.length : Nat) then (if 0 ≤ x4 ∧ x4 < ((l0.getD (x1).toNat []).length : Nat) then ((m_spec_l01In ((l0.getD (x1).toNat []).getD (x4).toNat 0) 0 (IntKind.i64.wrap (((l0.length : Nat) : Int) - 1))).bind fun r2 => (cond (!r2) (some (.ret (sq0, 2))) (if 0 ≤ x1 ∧ x1 < (l0.length : Nat) then (if 0 ≤ x4 ∧ x4 < ((l0.getD (x1).toNat []).length : Nat) then (if 0 ≤ x1 ∧ x1 < 10 then (if 0 ≤ x4 ∧ x4 < 10 then some (.next ((IntKind.i64.wrap (x4 + 1)), x5, (⟨x6.order, (tset x6.t (x1).toNat (x4).toNat (IntKind.u8.wrap ((l0.getD (x1).toNat []).getD (x4).toNat 0)))⟩ : Sq))) else none) else none) else none) else none))) else none) else none) (some (.stop (x4, x5, x6) 2))) else none)
noncomputable def m_spec_SquareOfLists_l0 (l0 : (List (List Int))) : (Int × Sq × Sq) → Option (Out (Int × Sq × Sq) (Sq × Int))
  | (x1, x2, x3) => (cond (decide (x1 < ((l0.length : Nat) : Int))) (if 0 ≤ x1 ∧ x1 < (l0.length : Nat) then (cond ((((l0.getD (x1).toNat []).length : Nat) : Int) != ((l0.length : Nat) : Int)) (some (.ret (sq0, 2))) ((loopV (m_spec_SquareOfLists_l1 l0 x1) (0, x2, x3)).bind fun R => match R with | .stop (x7, x8, x9) id => (if id = 2 then some (.next ((IntKind.i64.wrap (x1 + 1)), x8, x9)) else none) | .ret r => some (.ret (r.1, r.2)) | .next _ => none)) else none) (some (.stop (x1, x2, x3) 0)))
noncomputable def m_spec_SquareOfLists (l0 : (List (List Int))) : Option (Sq × Int) := ((m_spec_l01In ((l0.length : Nat) : Int) 1 10).bind fun r1 => (cond (!r1) (some (sq0, 2)) ((loopV (m_spec_SquareOfLists_l0 l0) (0, sq0, (⟨((l0.length : Nat) : Int), tb0⟩ : Sq))).bind fun R => match R with | .stop (x10, x11, x12) id => (if id = 0 then ((m_spec_l01Is x12).bind fun r3 => (cond (!r3) (some (sq0, 5)) (some (x12, 0)))) else none) | .ret r => some (r.1, r.2) | .next _ => none)))

/-! loop.example/g01195/spec.l01Text -/
noncomputable def m_spec_l01Text_l1 (a0 : Sq) (x2 : Int) : ((List Int) × Int) → Option (Out ((List Int) × Int) ByteArray)
  | (x3, x4) => (cond (decide (x4 < a0.order)) (if 0 ≤ x2 ∧ x2 < 10 then (if 0 ≤ x4 ∧ x4 < 10 then (if x3.length + 1 ≤ 1099511627776 then some (.next ((x3 ++ [(IntKind.u8.wrap (48 + (a0.t (x2).toNat (x4).toNat)))]), (IntKind.i64.wrap (x4 + 1)))) else none) else none) else none) (some (.stop (x3, x4) 2)))
noncomputable def m_spec_l01Text_l2 (a0 : Sq) (x2 : Int) : ((List Int) × Int) → Option (Out ((List Int) × Int) ByteArray)
  | (x7, x8) => (cond (decide (x8 < a0.order)) (if 0 ≤ x2 ∧ x2 < 10 then (if 0 ≤ x8 ∧ x8 < 10 then (if x7.length + 1 ≤ 1099511627776 then some (.next ((x7 ++ [(IntKind.u8.wrap (48 + (a0.t (x2).toNat (x8).toNat)))]), (IntKind.i64.wrap (x8 + 1)))) else none) else none) else none) (some (.stop (x7, x8) 2)))
noncomputable def m_spec_l01Text_l0 (a0 : Sq) : ((List Int) × Int) → Option (Out ((List Int) × Int) ByteArray)
  | (x1, x2) => (cond (decide (x2 < a0.order)) (cond (decide (x2 > 0)) (if x1.length + 1 ≤ 1099511627776 then ((loopV (m_spec_l01Text_l1 a0 x2) ((x1 ++ [47]), 0)).bind fun R => match R with | .stop (x5, x6) id => (if id = 2 then some (.next (x5, (IntKind.i64.wrap (x2 + 1)))) else none) | .ret r => none | .next _ => none) else none) ((loopV (m_spec_l01Text_l2 a0 x2) (x1, 0)).bind fun R => match R with | .stop (x9, x10) id => (if id = 2 then some (.next (x9, (IntKind.i64.wrap (x2 + 1)))) else none) | .ret r => none | .next _ => none)) (some (.stop (x1, x2) 0)))
noncomputable def m_spec_l01Text (a0 : Sq) : Option ByteArray := ((loopV (m_spec_l01Text_l0 a0) ([], 0)).bind fun R => match R with | .stop (x11, x12) id => (if id = 0 then some (strOf x11) else none) | .ret r => none | .next _ => none)

/-! loop.example/g01195/spec.l01Damage -/
noncomputable def m_spec_l01Damage (a0 : Rng) (l_s : List Int) (a1 : ByteArray) : Option (ByteArray × Rng) := ((m_spec_l01Next a0 l_s ((13 : Nat) : Int)).bind fun r1 => (if 0 ≤ r1.1 ∧ r1.1 < (13 : Nat) then (cond (((a1.size : Nat) : Int) == 0) (some ((([((ByteArray.mk #[48])), ((ByteArray.mk #[49])), ((ByteArray.mk #[50])), ((ByteArray.mk #[57])), ((ByteArray.mk #[120])), ((ByteArray.mk #[42])), ((ByteArray.mk #[47])), ((ByteArray.mk #[92])), ((ByteArray.mk #[61])), ((ByteArray.mk #[40])), ((ByteArray.mk #[41])), ((ByteArray.mk #[32])), ((ByteArray.mk #[10]))]).getD (r1.1).toNat ⟨#[]⟩), r1.2)) ((m_spec_l01Next r1.2 l_s ((a1.size : Nat) : Int)).bind fun r2 => ((m_spec_l01Next r2.2 l_s 3).bind fun r3 => (cond (r3.1 == 0) (if 0 ≤ r2.1 ∧ r2.1 ≤ (a1.size : Nat) then (if (a1.extract 0 (r2.1).toNat).size + (([((ByteArray.mk #[48])), ((ByteArray.mk #[49])), ((ByteArray.mk #[50])), ((ByteArray.mk #[57])), ((ByteArray.mk #[120])), ((ByteArray.mk #[42])), ((ByteArray.mk #[47])), ((ByteArray.mk #[92])), ((ByteArray.mk #[61])), ((ByteArray.mk #[40])), ((ByteArray.mk #[41])), ((ByteArray.mk #[32])), ((ByteArray.mk #[10]))]).getD (r1.1).toNat ⟨#[]⟩).size ≤ 9223372036854775807 then (if 0 ≤ (IntKind.i64.wrap (r2.1 + 1)) ∧ (IntKind.i64.wrap (r2.1 + 1)) ≤ (a1.size : Nat) then (if ((a1.extract 0 (r2.1).toNat) ++ (([((ByteArray.mk #[48])), ((ByteArray.mk #[49])), ((ByteArray.mk #[50])), ((ByteArray.mk #[57])), ((ByteArray.mk #[120])), ((ByteArray.mk #[42])), ((ByteArray.mk #[47])), ((ByteArray.mk #[92])), ((ByteArray.mk #[61])), ((ByteArray.mk #[40])), ((ByteArray.mk #[41])), ((ByteArray.mk #[32])), ((ByteArray.mk #[10]))]).getD (r1.1).toNat ⟨#[]⟩)).size + (a1.extract ((IntKind.i64.wrap (r2.1 + 1))).toNat a1.size).size ≤ 9223372036854775807 then some ((((a1.extract 0 (r2.1).toNat) ++ (([((ByteArray.mk #[48])), ((ByteArray.mk #[49])), ((ByteArray.mk #[50])), ((ByteArray.mk #[57])), ((ByteArray.mk #[120])), ((ByteArray.mk #[42])), ((ByteArray.mk #[47])), ((ByteArray.mk #[92])), ((ByteArray.mk #[61])), ((ByteArray.mk #[40])), ((ByteArray.mk #[41])), ((ByteArray.mk #[32])), ((ByteArray.mk #[10]))]).getD (r1.1).toNat ⟨#[]⟩)) ++ (a1.extract ((IntKind.i64.wrap (r2.1 + 1))).toNat a1.size)), r3.2) else none) else none) else none) else none) (cond (r3.1 == 1) (if 0 ≤ r2.1 ∧ r2.1 ≤ (a1.size : Nat) then (if 0 ≤ (IntKind.i64.wrap (r2.1 + 1)) ∧ (IntKind.i64.wrap (r2.1 + 1)) ≤ (a1.size : Nat) then (if (a1.extract 0 (r2.1).toNat).size + (a1.extract ((IntKind.i64.wrap (r2.1 + 1))).toNat a1.size).size ≤ 9223372036854775807 then some (((a1.extract 0 (r2.1).toNat) ++ (a1.extract ((IntKind.i64.wrap (r2.1 + 1))).toNat a1.size)), r3.2) else none) else none) else none) (if 0 ≤ r2.1 ∧ r2.1 ≤ (a1.size : Nat) then (if (a1.extract 0 (r2.1).toNat).size + (([((ByteArray.mk #[48])), ((ByteArray.mk #[49])), ((ByteArray.mk #[50])), ((ByteArray.mk #[57])), ((ByteArray.mk #[120])), ((ByteArray.mk #[42])), ((ByteArray.mk #[47])), ((ByteArray.mk #[92])), ((ByteArray.mk #[61])), ((ByteArray.mk #[40])), ((ByteArray.mk #[41])), ((ByteArray.mk #[32])), ((ByteArray.mk #[10]))]).getD (r1.1).toNat ⟨#[]⟩).size ≤ 9223372036854775807 then (if 0 ≤ r2.1 ∧ r2.1 ≤ (a1.size : Nat) then (if ((a1.extract 0 (r2.1).toNat) ++ (([((ByteArray.mk #[48])), ((ByteArray.mk #[49])), ((ByteArray.mk #[50])), ((ByteArray.mk #[57])), ((ByteArray.mk #[120])), ((ByteArray.mk #[42])), ((ByteArray.mk #[47])), ((ByteArray.mk #[92])), ((ByteArray.mk #[61])), ((ByteArray.mk #[40])), ((ByteArray.mk #[41])), ((ByteArray.mk #[32])), ((ByteArray.mk #[10]))]).getD (r1.1).toNat ⟨#[]⟩)).size + (a1.extract (r2.1).toNat a1.size).size ≤ 9223372036854775807 then some ((((a1.extract 0 (r2.1).toNat) ++ (([((ByteArray.mk #[48])), ((ByteArray.mk #[49])), ((ByteArray.mk #[50])), ((ByteArray.mk #[57])), ((ByteArray.mk #[120])), ((ByteArray.mk #[42])), ((ByteArray.mk #[47])), ((ByteArray.mk #[92])), ((ByteArray.mk #[61])), ((ByteArray.mk #[40])), ((ByteArray.mk #[41])), ((ByteArray.mk #[32])), ((ByteArray.mk #[10]))]).getD (r1.1).toNat ⟨#[]⟩)) ++ (a1.extract (r2.1).toNat a1.size)), r3.2) else none) else none) else none) else none)))))) else none))

/-! loop.example/g01195/spec.DrawParseSquare -/
noncomputable def m_spec_DrawParseSquare_l0 (l0 : (List Int)) : (ByteArray × Rng) → Option (Out (ByteArray × Rng) ByteArray)
  | (x1, x2) => ((m_spec_l01Next x2 l0 3).bind fun r4 => (cond (r4.1 == 0) ((m_spec_l01Damage r4.2 l0 x1).bind fun r5 => some (.next (r5.1, r5.2))) (some (.stop (x1, r4.2) 0))))
noncomputable def m_spec_DrawParseSquare (l0 : (List Int)) : Option ByteArray := ((m_spec_l01From l0).bind fun r1 => ((m_spec_l01DrawSquare r1 l0).bind fun r2 => ((m_spec_l01Text r2.1).bind fun r3 => ((loopV (m_spec_DrawParseSquare_l0 l0) (r3, r2.2)).bind fun R => match R with | .stop (x3, x4) id => (if id = 0 then some x3 else none) | .ret r => none | .next _ => none))))

/-! loop.example/g01195/spec.ParseSquare -/
noncomputable def m_spec_ParseSquare (a0 : ByteArray) : Option (Sq × Int) := ((m_spec_l01Read a0).bind fun r1 => (cond (!r1.2) (some (sq0, 6)) (some (r1.1, 0))))

/-! loop.example/g01195/laws.FnSquares -/
noncomputable def m_laws_FnSquares (l0 : (List Int)) : Option Bool := ((m_laws_big l0).bind fun r1 => (cond r1 (some true) ((m_spec_DrawProductIn l0).bind fun r2 => ((m_impl_ProductIn r2.1 r2.2.1 r2.2.2).bind fun r3 => ((m_spec_ProductIn r2.1 r2.2.1 r2.2.2).bind fun r4 => (cond (r3.2 != r4.2) (some false) (cond (r3.1 != r4.1) (some false) ((m_impl_IsSquare r2.1).bind fun r5 => ((m_spec_IsSquare r2.1).bind fun r6 => (cond (r5 != r6) (some false) ((m_impl_IsLoop r2.1).bind fun r7 => ((m_spec_IsLoop r2.1).bind fun r8 => (cond (r7 != r8) (some false) ((m_impl_IsGroup r2.1).bind fun r9 => ((m_spec_IsGroup r2.1).bind fun r10 => (cond (r9 != r10) (some false) (cond (r3.2 == 0) ((m_impl_LeftQuotient r2.1 r2.2.1 r3.1).bind fun r11 => ((m_impl_RightQuotient r2.1 r3.1 r2.2.2).bind fun r12 => ((m_impl_RowMap r2.1 r2.2.1).bind fun r13 => ((m_impl_ColumnMap r2.1 r2.2.2).bind fun r14 => ((m_impl_OppositeOf r2.1).bind fun r15 => ((m_impl_OppositeOf r15.1).bind fun r16 => ((m_impl_ProductIn r15.1 r2.2.2 r2.2.1).bind fun r17 => (cond (r11.2 != 0) (some false) (cond (r12.2 != 0) (some false) (cond (r13.2 != 0) (some false) (cond (r14.2 != 0) (some false) (cond (r15.2 != 0) (some false) (cond (r16.2 != 0) (some false) (cond (r17.2 != 0) (some false) (cond (r11.1 != r2.2.2) (some false) (cond (r12.1 != r2.2.1) (some false) (if 0 ≤ r2.2.2 ∧ r2.2.2 < 10 then (cond ((r13.1 (r2.2.2).toNat) != r3.1) (some false) (if 0 ≤ r2.2.1 ∧ r2.2.1 < 10 then (cond ((r14.1 (r2.2.1).toNat) != r3.1) (some false) (cond (!(eqSq r16.1 r2.1)) (some false) (cond (r17.1 != r3.1) (some false) ((m_impl_ListsOfSquare r2.1).bind fun r18 => ((m_impl_SquareOfLists r18.1).bind fun r19 => ((m_impl_SquareText r2.1).bind fun r20 => ((m_impl_ParseSquare r20.1).bind fun r21 => (cond (r18.2 != 0) (some false) (cond (r19.2 != 0) (some false) (cond (r20.2 != 0) (some false) (cond (r21.2 != 0) (some false) (cond (!(eqSq r19.1 r2.1)) (some false) (cond (!(eqSq r21.1 r2.1)) (some false) ((m_spec_DrawLeftQuotient l0).bind fun r22 => ((m_impl_LeftQuotient r22.1 r22.2.1 r22.2.2).bind fun r23 => ((m_spec_LeftQuotient r22.1 r22.2.1 r22.2.2).bind fun r24 => ((m_impl_RightQuotient r22.1 r22.2.1 r22.2.2).bind fun r25 => ((m_spec_RightQuotient r22.1 r22.2.1 r22.2.2).bind fun r26 => ((m_spec_DrawSquareOfLists l0).bind fun r27 => ((m_impl_SquareOfLists r27).bind fun r28 => ((m_spec_SquareOfLists r27).bind fun r29 => ((m_spec_DrawParseSquare l0).bind fun r30 => ((m_impl_ParseSquare r30).bind fun r31 => ((m_spec_ParseSquare r30).bind fun r32 => (cond (r23.2 == r24.2) (cond (r23.1 == r24.1) (cond (r25.2 == r26.2) (cond (r25.1 == r26.1) (cond (r28.2 == r29.2) (cond (eqSq r28.1 r29.1) (cond (r31.2 == r32.2) (some (eqSq r31.1 r32.1)) (some false)) (some false)) (some false)) (some false)) (some false)) (some false)) (some false)))))))))))))))))))))))))) else none)) else none))))))))))))))))) ((m_spec_DrawLeftQuotient l0).bind fun r33 => ((m_impl_LeftQuotient r33.1 r33.2.1 r33.2.2).bind fun r34 => ((m_spec_LeftQuotient r33.1 r33.2.1 r33.2.2).bind fun r35 => ((m_impl_RightQuotient r33.1 r33.2.1 r33.2.2).bind fun r36 => ((m_spec_RightQuotient r33.1 r33.2.1 r33.2.2).bind fun r37 => ((m_spec_DrawSquareOfLists l0).bind fun r38 => ((m_impl_SquareOfLists r38).bind fun r39 => ((m_spec_SquareOfLists r38).bind fun r40 => ((m_spec_DrawParseSquare l0).bind fun r41 => ((m_impl_ParseSquare r41).bind fun r42 => ((m_spec_ParseSquare r41).bind fun r43 => (cond (r34.2 == r35.2) (cond (r34.1 == r35.1) (cond (r36.2 == r37.2) (cond (r36.1 == r37.1) (cond (r39.2 == r40.2) (cond (eqSq r39.1 r40.1) (cond (r42.2 == r43.2) (some (eqSq r42.1 r43.1)) (some false)) (some false)) (some false)) (some false)) (some false)) (some false)) (some false))))))))))))))))))))))))))))))
end Go.Lab
