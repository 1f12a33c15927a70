/-
  From a statement's reading to the contracts' arguments: plain ones, and a law's answer.
-/
import Derived.Test.YtepgblhhajdmoaaRow
set_option linter.unusedVariables false
set_option linter.unusedSimpArgs false
namespace Go.Proofs.Ytepgblhhajdmoaa
open Go Go.Proofs.Ytepgblhhajdmoaa.Eng Go.ChangeShapes Go.WideShapes Go.ChangeAt Go.RowKit
theorem CallW.wkU {f : Nat} {ps : List PV} {h : List AB} {p : PV} {kp : PV → List AB → Prop} (hc : CallW Γ Try.prog f ps h (fun r _ => WkP (unkR r) p) kp) : CallW Γ Try.prog f ps h (fun r _ => r = p) kp :=
  ⟨hc.known, fun E w vs hh ha => (hc.out E w vs hh ha).mono fun e w' he => by
    cases e with
    | returned v =>
      obtain ⟨p', E', h', a, b, c, d⟩ := he
      exact ⟨p, E', h', a, b, Rep.wkp d (Rep.unkR c), rfl⟩
    | panicked ch => exact he
    | outgrown => exact he⟩
theorem arg_int {t : Nat} {k : IntKind} {es : List DV} (h : WT Γ t es) (hk : kindOf t = some (.int k)) : ∃ n, PW (argPV Γ t es) (.d (.int k n)) := by
  obtain ⟨n, rfl, _⟩ := wt_int h hk
  exact ⟨n, by rw [arg_plain (by rw [hk]; rfl) (by rw [hk]; simp)]; exact PW.refl _⟩
theorem arg_str {t : Nat} {es : List DV} (h : WT Γ t es) (hk : kindOf t = some .str) : ∃ s, PW (argPV Γ t es) (.d (.str s)) ∧ s.length ≤ bulkL es := by
  obtain ⟨s, rfl⟩ := wt_str h hk
  exact ⟨s, by rw [arg_plain (by rw [hk]; rfl) (by rw [hk]; simp)]; exact PW.refl _, by simp [bulkL, DV.bulk]⟩
end Go.Proofs.Ytepgblhhajdmoaa
