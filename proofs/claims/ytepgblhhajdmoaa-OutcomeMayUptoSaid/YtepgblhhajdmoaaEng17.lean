/-
  THE ENGINE, part 17: a region whose order is drawn.
-/
import Derived.Test.YtepgblhhajdmoaaEng16
import Derived.StillTail
set_option linter.unusedVariables false
set_option linter.unusedSimpArgs false
namespace Go.Proofs.Ytepgblhhajdmoaa.Eng
open Go

section
variable {Γ : Ctx} {P : Program} {E E' : Env} {w w' : World} {h : List AB} {a : Act} {slots : List (Option PV)} {md : Bool}

theorem pure_same {c : Bool} {o : Oper} (ho : stillB Γ o = true) (hnc : ∀ cl, o.op ≠ .call cl) (hns : ∀ T x lo hi, o.op ≠ .slice T x lo hi none) {kt : PV → Prop} (hk : pureX Γ c slots h o.op fun v _ => kt v) :
    pureX Γ c slots h o.op fun v h' => h' = h ∧ kt v := by
  obtain ⟨dst, op, ty, pos, after, guard⟩ := o
  cases op <;> simp only [stillB] at ho <;> (try (cases ho; done)) <;> dsimp only at hk ⊢
  case call cl => exact absurd rfl (hnc cl)
  case convert => simp only [pureX, convX, true_and] at hk ⊢; exact hk
  case makeFunc fn first caps =>
    cases fn with
    | func f => simp only [pureX, true_and] at hk ⊢; exact hk
    | _ => simp only [pureX] at hk; exact hk.elim
  all_goals (simp only [pureX, true_and] at hk ⊢; exact hk)

theorem thawL_sound (hh : HeapRel Γ E h w) : ∀ {ps : List PV} {vs : List Value} {k : List PV → Prop}, vs.length = ps.length → (∀ (i : Nat) (v : Value) (p : PV), vs[i]? = some v → ps[i]? = some p → Rep E w v p) → thawL md h ps k →
    ∃ qs, vs.length = qs.length ∧ (∀ (i : Nat) (v : Value) (p : PV), vs[i]? = some v → qs[i]? = some p → Rep E w v p) ∧ belows 0 qs = true ∧ k qs
  | [], vs, k, hl, hr, hk => ⟨[], hl, hr, rfl, hk⟩
  | p :: ps, [], k, hl, hr, hk => by simp at hl
  | p :: ps, v :: vs, k, hl, hr, hk => by
    have h0 := hr 0 v p rfl rfl
    have hr' : ∀ (i : Nat) (u : Value) (q : PV), vs[i]? = some u → ps[i]? = some q → Rep E w u q := fun i u q h1 h2 => hr (i + 1) u q (by simpa using h1) (by simpa using h2)
    have fin : ∀ {q : PV} {k : List PV → Prop}, Rep E w v q → q.under 0 = true → thawL md h ps (fun r => k (q :: r)) → ∃ qs, (v :: vs).length = qs.length ∧ (∀ (i : Nat) (u : Value) (p : PV), (v :: vs)[i]? = some u → qs[i]? = some p → Rep E w u p) ∧ belows 0 qs = true ∧ k qs := by
      intro q k hq hu hk
      obtain ⟨qs, g1, g2, g3, g4⟩ := thawL_sound hh (by simpa using hl) hr' hk
      refine ⟨q :: qs, by simp [g1], fun i u p h1 h2 => ?_, by simp [belows, hu, g3], g4⟩
      cases i with
      | zero => simp at h1 h2; subst h1; subst h2; exact hq
      | succ i => exact g2 i u p (by simpa using h1) (by simpa using h2)
    unfold thawL at hk
    split at hk
    · rename_i he; cases he
    · rename_i i n r he
      simp only [List.cons.injEq] at he
      obtain ⟨rfl, rfl⟩ := he
      rw [nth_eq] at hk
      split at hk
      · rename_i T sz xs hxs
        replace hk := (need_iff _ _).1 hk
        obtain ⟨hl', hk⟩ := hk
        have hl' : xs.length = n := by simpa using hl'
        cases h0 with | row A _ _ c hi hn hrv =>
        obtain ⟨_, _, hrep⟩ := hh.at_ i _ hxs
        rw [hl', hrv] at hrep
        exact fin (.d hrep) rfl hk
      · exact hk.elim
    · rename_i q r hna he
      simp only [List.cons.injEq] at he
      obtain ⟨rfl, rfl⟩ := he
      replace hk := (need_iff _ _).1 hk
      exact fin h0 hk.1 hk.2

theorem sliceX_same {T : Nat} {x : DV} {lo hi : Option PV} {kt : PV → Prop} (hk : sliceX Γ md h T (.d x) lo hi fun v _ => kt v) : sliceX Γ md h T (.d x) lo hi fun v h' => h' = h ∧ kt v := by
  unfold sliceX at hk ⊢
  unfold tinfo at hk ⊢
  split at hk
  · rename_i i hi
    unfold bound at hk ⊢
    cases hkd : i.kind <;> simp only [hkd] at hk ⊢ <;> cases x <;> (try simp only [frz, true_and] at hk ⊢) <;> exact hk
  · exact hk.elim

/-- ONE THAT NEITHER ASKS NOR TURNS MEMORY. -/
theorem stillV_sound (hC : CtxOK Γ P) (hh : HeapRel Γ E h w) (hs : SlotsRel E w a.tmps slots) {c : Bool} {o : Oper} (ho : stillB Γ o = true) {kt : PV → Prop} (hk : stillV Γ c (PureW Γ P) slots h o kt)
    {next : Act → World → Prop} {Q : Exit → Act → World → Prop}
    (hn : ∀ (v : Value) (p : PV) (E' : Env) (w' : World), HeapRel Γ E' h w' → Fr E h w E' h w' → Rep E' w' v p → kt p → next (a.put o.dst v) w') : o.wp P a w next Q := by
  have enter : ∀ {f : Nat} {vs : Array Value} {ps : List PV}, (execOp a.eval o).run P w = (callFunc f vs).run P w → ArgsRel E w vs ps → thawL c h ps (fun qs => PureW Γ P f qs kt) → o.wp P a w next Q := by
    intro f vs ps hrun ha hk
    obtain ⟨qs, g1, g2, g3, g4⟩ := thawL_sound hh (vs := vs.toList) (by simpa using ha.1) (fun i v p h1 h2 => ha.2 i v p (by simpa using h1) h2) hk
    obtain ⟨p, hp, hc⟩ := g4.at hh (vs := vs) ⟨by simpa using g1, fun i v p h1 h2 => g2 i v p (by simpa using h1) h2⟩ g3
    unfold Oper.wp
    rw [hrun, run_callFunc g4.known, Oper.upon_enter]
    refine hc.mono fun e w' he => ?_
    cases e with
    | returned v => obtain ⟨q, E', h', a1, a2, a3, rfl, rfl⟩ := he; exact hn v q E' w' a1 a2 a3 hp
    | panicked ch => obtain ⟨_, _, _, _, _, _, _, _, hf⟩ := he; exact hf.elim
    | outgrown => exact he.elim
  unfold stillV at hk
  split at hk
  · rename_i T x lo hi hop
    replace hk := withO_rep hh hs hk
    obtain ⟨p, hp, hk⟩ := hk
    replace hk := withOO_elim hh hs hk
    obtain ⟨pl, l1, l2, hk⟩ := hk
    replace hk := withOO_elim hh hs hk
    obtain ⟨ph, h1, h2, hk⟩ := hk
    have hb : ∀ (o : Option Operand) (q : Option PV), (∀ x, o = some x → ∃ r, q = some r ∧ Rep E w (a.eval x) r) → (o = none → q = none) → BoundRel E w (o.map a.eval) q := by
      intro o q e1 e2
      cases o with
      | none => exact e2 rfl
      | some x => exact e1 x rfl
    replace hk := thawL_sound hh (vs := [a.eval x]) (by simp) (fun i v q e1 e2 => by
      cases i with
      | zero => simp at e1 e2; subst e1; subst e2; exact hp
      | succ i => simp at e1) hk
    obtain ⟨qs, q1, q2, q3, hk⟩ := hk
    split at hk
    · rename_i y
      replace hk := sliceX_same hk
      obtain ⟨r, s, E', h', g1, g2, g3, g4, rfl, g5⟩ := sliceX_sound hC hh (q2 0 _ _ rfl rfl) (hb lo pl l1 l2) (hb hi ph h1 h2) hk
      unfold Oper.wp
      have : (execOp a.eval o).run P w = .ok (.value r) w := by simp [execOp, hop, g3]
      rw [this]
      exact hn r s E' w g1 g2 g4 g5
    · exact hk.elim
  · rename_i cl hop
    replace hk := args_rel hh hs hk
    obtain ⟨ps, ha, hk⟩ := hk
    split at hk
    · rename_i hb
      split at hk
      · rename_i t x hts
        have hk' : builtinX Γ c h .len cl.argTypes.toList [x] fun v h' => h' = h ∧ kt v := by
          simp only [builtinX, hts, true_and]; exact hk
        obtain ⟨v, p, E', h', w', g1, g2, g3, g4, rfl, g5⟩ := builtinX_sound hC hh ha.1 ha.2 hk'
        unfold Oper.wp
        have : (execOp a.eval o).run P w = .ok (.value v) w' := by simp [execOp, hop, resolve, hb, invoke, g4]
        rw [this]
        exact hn v p E' w' g1 g2 g3 g5
      · exact hk.elim
    · rename_i f hf
      replace hk := withO_rep hh hs hk
      obtain ⟨fv, hfv, hk⟩ := hk
      split at hk
      · rename_i g
        refine enter (vs := cl.args.map a.eval) ?_ ha hk
        have : a.eval f = .func (.func g) #[] #[] := by
          generalize a.eval f = u at hfv
          cases hfv with | d hfv => cases hfv with | fn => rfl
        simp [execOp, hop, resolve, hf, this, Deferred.ofValue, invoke]
      · rename_i g caps
        generalize hu : a.eval f = u at hfv
        cases hfv with | clo _ us _ hl hr =>
        refine enter (vs := cl.args.map a.eval ++ us) ?_ (args_append ha ⟨hl, hr⟩) hk
        simp [execOp, hop, resolve, hf, hu, Deferred.ofValue, invoke]
      · exact hk.elim
    · exact hk.elim
  · rename_i op hns hnc
    replace hk := pure_same ho (fun cl he => hnc cl he) (fun T x lo hi he => hns T x lo hi he) hk
    obtain ⟨v, p, E', h', w', g1, g2, g3, ⟨nx, hnx, hrun⟩, rfl, g5⟩ := pureX_sound hC hh hs hk
    unfold Oper.wp
    rw [hrun o rfl]
    rcases hnx with rfl | ⟨rfl, rfl⟩
    · exact hn v p E' w' g1 g2 g3 g5
    · exact hn undef p E' w' g1 g2 g3 g5

end
end Go.Proofs.Ytepgblhhajdmoaa.Eng
