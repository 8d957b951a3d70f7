/- FnSquares holds for every input: for each list of bytes the law's call returns true, and the bytes read as they did. Conditions: none. -/
import Derived.Test.YthhgemlaiekjpabRows
import Derived.Test.YthhgemlaiekjpabA
import Derived.Test.YthhgemlaiekjpabW4
import Derived.Test.YthhgemlaiekjpabP
set_option linter.unusedVariables false
set_option linter.unusedSimpArgs false
namespace Go.Proofs.Ythhgemlaiekjpab
open Go Go.Abs Go.Lab Go.Pu Go.ChangeShapes Go.WideShapes Go.ChangeAt Go.RowKit

theorem own : ownKnob Try.prog.godebug = none := by kernel_rfl

theorem walk (l : List Int) (A : Option Addr) (c : Nat) (h : Hp) (hb : ∀ n ∈ l, 0 ≤ n ∧ n ≤ 255) (hs : RdS h A (ints .u8 l)) : QC Try.prog 3 #[.slice A l.length c] h (.bool true) := by
  have e : m_laws_FnSquares l = some true := by
    by_cases hl : l.length ≤ 4096
    · have hc : Pu.Code l := ⟨hl, fun i => by
        rw [List.getD_eq_getElem?_getD]
        cases hi : l[i]? with
        | none => simp
        | some v => exact hb v (List.mem_of_getElem? hi)⟩
      obtain ⟨r, e, hr⟩ := FnSquares_W hc
      rw [e, hr]
    · unfold m_laws_FnSquares m_laws_big
      have : decide (((l.length : Nat) : Int) > 4096) = true := decide_eq_true (by omega)
      rw [this]; rfl
  exact c_laws_FnSquares e hs

set_option maxRecDepth 100000 in
theorem lifted (os : Os) (started : os.Started) (H : Type) (enc : TypeId × Value → H) :
    ReturnsInHanded {} Try.checked os 3 .any (Rows.fnSquaresSpec.pre6 enc Try.prog Try.f3 Rows.fnSquaresRow.domain false) (Rows.fnSquaresSpec.post enc Try.prog Try.f3 false true false false) := by
  refine returnsInHanded_of_change (C := Try.checked) own started (by kernel_rfl) Try.func3
    (ChangeSpec.witness6 (enc := enc) (C := Try.checked) false ⟨#[], #[.slice none 0 0], []⟩ 8 (by kernel_rfl) (by kernel_rfl) (by kernel_rfl) (by kernel_rfl)) ?_
  intro W base args ds gs before hval hW hcnd _
  exact lawBytes (s := Rows.fnSquaresSpec) rfl rfl Try.underlying22 Try.underlying5 (by kernel_rfl) Try.underlying4 rfl (fun _ _ => rfl) walk W args ds gs before hval hW

theorem fnSquares_holds : Rows.FnSquaresSaid :=
  OpenClaim.holds_of_wide 3 Try.f3 rfl rfl rfl rfl rfl rfl rfl ⟨rfl, rfl, rfl, rfl, rfl⟩ rfl rfl rfl rfl rfl (by kernel_rfl) Try.func3 (by kernel_rfl)
    (of_decide_eq_true (by kernel_rfl)) (by unfold Func.isWrapper; first | (rw [if_pos (by decide +kernel)]; kernel_rfl) | (rw [if_neg (by decide +kernel)]; exact ⟨rfl, rfl⟩))
    (fun os started H enc _ => lifted os started H enc)
end Go.Proofs.Ythhgemlaiekjpab
#print axioms Go.Proofs.Ythhgemlaiekjpab.fnSquares_holds
