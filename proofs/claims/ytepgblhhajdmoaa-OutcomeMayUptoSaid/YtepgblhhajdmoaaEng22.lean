/-
  THE ENGINE, part 22: what is reckoned the machine does.
-/
import Derived.Test.YtepgblhhajdmoaaEng21
set_option linter.unusedVariables false
set_option linter.unusedSimpArgs false
namespace Go.Proofs.Ytepgblhhajdmoaa.Eng
open Go

section
variable {Γ : Ctx} {P : Program} {md : Bool}

theorem lin_true (n : Nat) : CodeLin (codeX Γ true noLeaves n) := by
  induction n with
  | zero => intro m cd st; cases m <;> exact Lin.bad _
  | succ n ih => exact codeLin_step ih (fun cd st => Lin.bad _)

theorem enterP_sound (hC : CtxOK Γ P) {c : Bool} {rec : CodeF} (hR : ∀ n0, RecOK Γ P n0 rec) (hl : CodeLin rec) {f : Nat} {ps : List PV} {k : PV → Prop} (hk : enterP Γ c rec f ps k) : PureW Γ P f ps k := by
  obtain ⟨p, hp, hlin⟩ := (callLin_enter (Γ := Γ) (c := c) hl).pcall f ps k hk
  refine ⟨p, pure_of (md := c) ?_, hp⟩
  have := enterX_sound hC (hR _) (hlin (fun q => q = p) rfl)
  exact this.mono (fun _ _ h => h) (fun _ _ h => h.elim)

theorem ok_true (hC : CtxOK Γ P) (n : Nat) : ∀ n0, RecOK Γ P n0 (codeX Γ true noLeaves n) := by
  induction n with
  | zero => exact fun n0 => ⟨fun cd st k hk => hk.elim, fun b cd st k hk => hk.elim, fun b cd st k hk => hk.elim⟩
  | succ n ih => exact fun n0 => codeStep_sound hC (ih n0) (fun cd k st h => h.elim) (fun h => by cases h) (fun _ => ⟨fun f ps h kr kp hk => enterX_sound hC (ih _) hk, fun f ps k hk => enterP_sound hC ih (lin_true n) hk⟩)

/-- A CALL THAT IS CARRIED OUT TO ITS END. -/
theorem run_sound (hC : CtxOK Γ P) {n f : Nat} {ps : List PV} {h : List AB} {kr kp : PV → List AB → Prop} (hk : runX Γ true n noLeaves f ps h kr kp) : CallW Γ P f ps h kr kp := enterX_sound hC (ok_true hC n _) hk

end
end Go.Proofs.Ytepgblhhajdmoaa.Eng
