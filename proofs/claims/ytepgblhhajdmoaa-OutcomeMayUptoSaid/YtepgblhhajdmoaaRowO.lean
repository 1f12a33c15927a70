/-
  From a statement's reading to an outcome.
-/
import Derived.Test.YtepgblhhajdmoaaRow2
import Derived.Test.YtepgblhhajdmoaaOutc1
set_option linter.unusedVariables false
set_option linter.unusedSimpArgs false
namespace Go.Proofs.Ytepgblhhajdmoaa
open Go Go.Proofs.Ytepgblhhajdmoaa.Eng Go.ChangeShapes Go.WideShapes Go.ChangeAt Go.RowKit
theorem arg_oc {es : List DV} (h : WT Γ 64 es) : ∃ o, PW (argPV Γ 64 es) (oPV o) ∧ 0 ≤ o.k := by
  have hk : kindOf 64 = some (.struct [(0, 5), (1, 22), (2, 22), (3, 9)]) := by kernel_rfl
  obtain ⟨parts, rfl, hl, hq⟩ := wt_struct h hk
  match parts, hl with
  | [p0, p1, p2, p3], _ =>
    obtain ⟨x0, rfl, hw⟩ := wt_int (k := .u8) (hq 0 _ _ rfl rfl) (by kernel_rfl)
    obtain ⟨x1, rfl, _⟩ := wt_int (k := .u64) (hq 1 _ _ rfl rfl) (by kernel_rfl)
    obtain ⟨x2, rfl, _⟩ := wt_int (k := .u64) (hq 2 _ _ rfl rfl) (by kernel_rfl)
    obtain ⟨x3, rfl⟩ := wt_str (hq 3 _ _ rfl rfl) (by kernel_rfl)
    refine ⟨⟨x0, x1, x2, x3⟩, ?_, ?_⟩
    · rw [arg_struct hk]
      exact PW.refl _
    · have h0 : IntKind.u8.min = 0 := by decide
      simp only [Lit.wf, Bool.and_eq_true, decide_eq_true_eq, h0] at hw
      exact hw.1
end Go.Proofs.Ytepgblhhajdmoaa
