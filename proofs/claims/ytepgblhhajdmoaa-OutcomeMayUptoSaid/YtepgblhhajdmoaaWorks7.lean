/-
  The anchor of layer 7 holds.
-/
import Derived.Test.YtepgblhhajdmoaaPlain
set_option linter.unusedVariables false
namespace Go.Proofs.Ytepgblhhajdmoaa
open Go Go.Proofs.Ytepgblhhajdmoaa.Eng
theorem true_of {r : PV} (h : Eng.isTrue r = true) : WkP r (.d (.bool true)) := by
  unfold Eng.isTrue at h
  cases r with
  | d x =>
    cases x <;> simp [PV.bv, DV.bv] at h
    · subst h; exact .refl _
    · subst h; exact .one (.kb _)
  | _ => simp [PV.bv] at h
/-- a closed call that comes to true -/
theorem works_of {f n : Nat} (h : runX Γ true n noLeaves f [] [] (fun r h => Eng.isTrue r = true ∧ h = []) (fun _ _ => False) = (true = true ∧ ([] : List AB) = [])) : G f [] (.d (.bool true)) := by
  have h1 : CallW Γ Try.prog f [] [] (fun r h => Eng.isTrue r = true ∧ h = []) (fun _ _ => False) := run_sound ctxOK (n := n) (by rw [h]; exact ⟨rfl, rfl⟩)
  exact h1.wk fun r h' hk => ⟨_, true_of hk.1, rfl, hk.2⟩
theorem works7 : G 13 [] (.d (.bool true)) := works_of (n := 400) (by kernel_rfl)
end Go.Proofs.Ytepgblhhajdmoaa
