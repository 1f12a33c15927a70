/-
  THE ENGINE, part 15: a region, one operation after the other.
-/
import Derived.Test.YtepgblhhajdmoaaEng14
import Derived.Tactics
set_option linter.unusedVariables false
set_option linter.unusedSimpArgs false
namespace Go.Proofs.Ytepgblhhajdmoaa.Eng
open Go

def XRel (E : Env) (w : World) : Exit → AExit → Prop
  | .normal, .normal => True
  | .exit i, .exit j => i = j
  | .goto i, .goto j => i = j
  | .ret, .ret => True
  | .panic chain, .panic p => ∃ v, chain = [{ v, recovered := false }] ∧ Rep E w v p
  | _, _ => False

/-- what a piece of code leaves behind -/
def Post (Γ : Ctx) (E0 : Env) (h0 : List AB) (w0 : World) (k : AExit → St → Prop) (x : Exit) (a : Act) (w : World) : Prop :=
  ∃ xa st E, XRel E w x xa ∧ Rel Γ E st a w ∧ Fr E0 h0 w0 E st.heap w ∧ k xa st

section
variable {Γ : Ctx} {P : Program} {E E' : Env} {w w' : World} {h : List AB} {a : Act} {slots : List (Option PV)} {md : Bool}

theorem Post.back {E0 E1 : Env} {h0 h1 : List AB} {w0 w1 : World} (f : Fr E0 h0 w0 E1 h1 w1) {k : AExit → St → Prop} {x : Exit} {a : Act} {w : World} (h : Post Γ E1 h1 w1 k x a w) : Post Γ E0 h0 w0 k x a w := by
  obtain ⟨xa, st, E, g1, g2, g3, g4⟩ := h
  exact ⟨xa, st, E, g1, g2, f.trans g3, g4⟩

theorem SlotsRel.put {tmps : Array Value} {slots : List (Option PV)} (hs : SlotsRel E w tmps slots) {v : Value} {p : PV} (hv : Rep E w v p) (d : Nat) : SlotsRel E w (tmps.setIfInBounds d v) (slots.set d (some p)) := by
  refine ⟨by simp [hs.1], fun t q ht => ?_⟩
  rw [List.getElem?_set] at ht
  rw [Array.getElem?_setIfInBounds]
  split at ht
  · rename_i hd
    subst hd
    split at ht
    · rename_i hlt
      cases ht
      rw [if_pos rfl, if_pos (by rw [hs.1]; exact hlt)]
      exact ⟨v, rfl, hv⟩
    · cases ht
  · rename_i hd
    rw [if_neg hd]
    exact hs.2 t q ht

theorem putX_sound {c : Bool} {dst : Option Nat} {p : PV} {k : List (Option PV) → Prop} (hk : putX c slots dst p k) {v : Value} (hs : SlotsRel E w a.tmps slots) (hv : Rep E w v p) :
    ∃ s', SlotsRel E w (a.put dst v).tmps s' ∧ (a.put dst v).defers = a.defers ∧ k s' := by
  unfold putX at hk
  split at hk
  · rename_i d
    replace hk := (need_iff _ _).1 hk
    obtain ⟨_, hk⟩ := hk
    rw [fpv_eq, upd_eq] at hk
    exact ⟨_, hs.put hv d, rfl, hk⟩
  · exact ⟨slots, hs, rfl, hk⟩

theorem yielded_of {ops : Array Oper} {j : Nat} {o : Oper} {d : Nat} (ho : ops[j]? = some o) (hd : o.dst = some d) {tmps : Array Value} {u : Value} (hu : tmps[d]? = some u) :
    yielded ops tmps j = (match u with | .bool b => some b | _ => none) := by
  unfold yielded
  simp only [ho, hd, hu, Option.bind_some]
  cases u <;> rfl

theorem guardX_sound {ops : Array Oper} {o : Oper} {yes no : List (Option PV) → Prop} (hk : guardX md ops.toList slots o.guard yes no) (hs : SlotsRel E w a.tmps slots) :
    ∃ s', SlotsRel E w a.tmps s' ∧ ((Region.wanted o (yielded ops a.tmps) = true ∧ yes s') ∨ (Region.wanted o (yielded ops a.tmps) = false ∧ no s')) := by
  unfold guardX at hk
  split at hk
  · rename_i hg
    exact ⟨slots, hs, .inl ⟨by simp [Region.wanted, hg], hk⟩⟩
  · rename_i j want hg
    rw [nth_eq] at hk
    split at hk
    · rename_i o' ho'
      have ho' : ops[j]? = some o' := by simpa using ho'
      split at hk
      · rename_i d hd
        rw [nth_eq] at hk
        split at hk
        case h_2 => exact hk.elim
        rename_i vv hvv
        obtain ⟨u, hu, hr⟩ := hs.2 d _ hvv
        split at hk
        · rename_i b hbv
          rw [splitB_eq, upd_eq] at hk
          have := bv_sym hr hbv; subst this
          have hy := yielded_of ho' hd hu
          refine ⟨slots.set d (some (.d (.kb b))), ?_, ?_⟩
          · refine ⟨by simp [hs.1], fun t p ht => ?_⟩
            rw [List.getElem?_set] at ht
            split at ht
            · rename_i e
              subst e
              split at ht
              · cases ht; exact ⟨_, hu, .d (.kb b)⟩
              · cases ht
            · exact hs.2 t p ht
          · have hw : Region.wanted o (yielded ops a.tmps) = (b == want) := by
              simp only [Region.wanted, hg, hy]
              cases b <;> cases want <;> rfl
            rw [hw]
            split at hk
            · rename_i he; exact .inl ⟨he, hk⟩
            · rename_i he; exact .inr ⟨he, hk⟩
        · rename_i b hbv
          have := bv_known hr hbv; subst this
          have hy := yielded_of ho' hd hu
          have hw : Region.wanted o (yielded ops a.tmps) = (b == want) := by
            simp only [Region.wanted, hg, hy]
            cases b <;> cases want <;> rfl
          refine ⟨slots, hs, ?_⟩
          rw [hw]
          split at hk
          · rename_i he; exact .inl ⟨he, hk⟩
          · rename_i he; exact .inr ⟨he, hk⟩
        · split at hk
          · cases hr
            have hy := yielded_of ho' hd hu
            refine ⟨slots, hs, .inr ⟨?_, hk⟩⟩
            simp only [Region.wanted, hg, hy]
            rfl
          · exact hk.elim
      · exact hk.elim
    · exact hk.elim

/-- ONE AFTER THE OTHER. -/
theorem opsX_sound (hC : CtxOK Γ P) {call : CallF} {pcall : PureF} (hcc : Calling Γ P call pcall) {c : Bool} {E0 : Env} {h0 : List AB} {w0 : World} {ops : Array Oper} {k : AExit → St → Prop} : ∀ (l : List Oper) {E : Env} {h : List AB} {w : World} {a : Act} {slots : List (Option PV)},
    HeapRel Γ E h w → SlotsRel E w a.tmps slots → a.defers = [] → Fr E0 h0 w0 E h w → opsX Γ c call pcall ops.toList l slots h k → wpList P ops (Post Γ E0 h0 w0 k) l a w
  | [], E, h, w, a, slots, hh, hs, hd, hf, hk => by
    unfold opsX at hk
    exact ⟨.normal, ⟨slots, h⟩, E, trivial, ⟨hh, hs, hd⟩, hf, hk⟩
  | o :: r, E, h, w, a, slots, hh, hs, hd, hf, hk => by
    unfold opsX at hk
    obtain ⟨s', hs', hk⟩ := guardX_sound hk hs
    refine wpList_step fun K hK => ?_
    rcases hk with ⟨hw, hk⟩ | ⟨hw, hk⟩
    · rw [if_pos hw]
      refine opV_sound hC hcc hh hs' hk (fun v p E' h' w' g1 g2 g3 g4 => ?_) (fun v p E' h' w' g1 g2 g3 g4 => ?_)
      · obtain ⟨s2, q1, q2, q3⟩ := putX_sound (a := a) (v := v) g4 (hs'.mono g2.ext) g3
        exact hK _ _ (opsX_sound hC hcc r g1 q1 (q2.trans hd) (hf.trans g2) q3)
      · exact ⟨.panic p, ⟨s', h'⟩, E', ⟨v, rfl, g3⟩, ⟨g1, hs'.mono g2.ext, hd⟩, hf.trans g2, g4⟩
    · rw [if_neg (by rw [hw]; simp)]
      obtain ⟨s2, q1, q2, q3⟩ := putX_sound (a := a) (v := undef) hk hs' .undef
      exact hK _ _ (opsX_sound hC hcc r hh q1 (q2.trans hd) hf q3)

end
end Go.Proofs.Ytepgblhhajdmoaa.Eng
