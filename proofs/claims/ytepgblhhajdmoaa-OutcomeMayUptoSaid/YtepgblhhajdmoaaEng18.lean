/-
  THE ENGINE, part 18: a region whose order is drawn, whatever order it is.
-/
import Derived.Test.YtepgblhhajdmoaaEng17
set_option linter.unusedVariables false
set_option linter.unusedSimpArgs false
namespace Go.Proofs.Ytepgblhhajdmoaa.Eng
open Go

section
variable {Γ : Ctx} {P : Program} {E E' : Env} {w w' : World} {h : List AB} {a : Act} {slots : List (Option PV)} {md : Bool}

theorem maskX_sound {o : Oper} {i : Nat} : ∀ (heads : List Oper) (j : Nat) (slots : List (Option PV)) (k : List (Option PV) → Prop), maskX o i j heads slots k →
    ∃ ms, ms.length = slots.length ∧ (∀ (t : Nat) (p : PV), ms[t]? = some (some p) → slots[t]? = some (some p) ∧ ∀ (m : Nat) (q : Oper), heads[m]? = some q → q.dst = some t → j + m < i ∧ depB o (j + m) = true) ∧ k ms
  | [], j, slots, k, hk => ⟨slots, rfl, fun t p ht => ⟨ht, fun m q hm => by simp at hm⟩, hk⟩
  | p :: r, j, slots, k, hk => by
    have shift : ∀ {ms : List (Option PV)} {sl : List (Option PV)} {t : Nat} {x : PV}, (sl[t]? = some (some x) ∧ ∀ (m : Nat) (q : Oper), r[m]? = some q → q.dst = some t → j + 1 + m < i ∧ depB o (j + 1 + m) = true) →
        (p.dst = some t → j < i ∧ depB o j = true) → ∀ (m : Nat) (q : Oper), (p :: r)[m]? = some q → q.dst = some t → j + m < i ∧ depB o (j + m) = true := by
      intro ms sl t x h1 h2 m q hm hq
      cases m with
      | zero => simp at hm; subst hm; exact h2 hq
      | succ m =>
        have := h1.2 m q (by simpa using hm) hq
        rw [show j + (m + 1) = j + 1 + m by omega]; exact this
    unfold maskX at hk
    split at hk
    · rename_i hd
      obtain ⟨ms, g1, g2, g3⟩ := maskX_sound r (j + 1) slots k hk
      exact ⟨ms, g1, fun t x ht => ⟨(g2 t x ht).1, shift (ms := ms) (g2 t x ht) (fun hp => by rw [hd] at hp; cases hp)⟩, g3⟩
    · rename_i d hd
      split at hk
      · rename_i hb
        simp only [Bool.and_eq_true, Nat.blt_eq] at hb
        obtain ⟨ms, g1, g2, g3⟩ := maskX_sound r (j + 1) slots k hk
        exact ⟨ms, g1, fun t x ht => ⟨(g2 t x ht).1, shift (ms := ms) (g2 t x ht) (fun _ => hb)⟩, g3⟩
      · rw [upd_eq] at hk
        obtain ⟨ms, g1, g2, g3⟩ := maskX_sound r (j + 1) _ k hk
        refine ⟨ms, by rw [g1]; simp, fun t x ht => ?_, g3⟩
        have h1 := g2 t x ht
        have hne : d ≠ t := fun e => by
          have := h1.1
          rw [List.getElem?_set, if_pos e] at this
          split at this
          · cases this
          · cases this
        rw [List.getElem?_set, if_neg hne] at h1
        exact ⟨h1.1, shift (ms := ms) h1 (fun hp => by rw [hd] at hp; cases hp; exact absurd rfl hne)⟩

theorem guardX_lin {all : List Oper} {g : Option (Nat × Bool)} {yes no : List (Option PV) → Prop} (hk : guardX md all slots g yes no) :
    (∃ s, yes s ∧ ∀ yes' no' : List (Option PV) → Prop, yes' s → guardX md all slots g yes' no') ∨ (∃ s, no s ∧ ∀ yes' no' : List (Option PV) → Prop, no' s → guardX md all slots g yes' no') := by
  unfold guardX at hk
  split at hk
  · exact .inl ⟨slots, hk, fun _ _ h => h⟩
  · rename_i j want
    split at hk
    · rename_i o ho
      split at hk
      · rename_i d hd
        split at hk
        case h_2 => exact hk.elim
        rename_i vv hvv
        split at hk
        · rename_i b hb
          rw [splitB_eq, upd_eq] at hk
          split at hk
          · rename_i he
            refine .inl ⟨_, hk, fun yes' no' h => ?_⟩
            unfold guardX
            simp only [ho, hd, hvv, hb, splitB_eq, upd_eq, he]
            exact h
          · rename_i he
            refine .inr ⟨_, hk, fun yes' no' h => ?_⟩
            unfold guardX
            simp only [ho, hd, hvv, hb, splitB_eq, upd_eq, he]
            exact h
        · rename_i b hb
          split at hk
          · rename_i he
            refine .inl ⟨_, hk, fun yes' no' h => ?_⟩
            unfold guardX
            simp only [ho, hd, hvv, hb, he]
            exact h
          · rename_i he
            refine .inr ⟨_, hk, fun yes' no' h => ?_⟩
            unfold guardX
            simp only [ho, hd, hvv, hb, he]
            exact h
        · rename_i hb
          split at hk
          · refine .inr ⟨slots, hk, fun yes' no' h => ?_⟩
            unfold guardX
            simp only [ho, hd, hvv, hb]
            exact h
          · exact hk.elim
      · exact hk.elim
    · exact hk.elim

theorem putX_elim {c : Bool} {dst : Option Nat} {p : PV} {k : List (Option PV) → Prop} (hk : putX c slots dst p k) :
    ∃ s, k s ∧ s.length = slots.length ∧ (∀ t, dst ≠ some t → s[t]? = slots[t]?) ∧ (∀ d, dst = some d → s[d]? = some (some p)) := by
  unfold putX at hk
  split at hk
  · rename_i d
    replace hk := (need_iff _ _).1 hk
    obtain ⟨hd, hk⟩ := hk
    rw [fpv_eq, upd_eq] at hk
    refine ⟨_, hk, by simp, fun t ht => ?_, fun d' hd' => ?_⟩
    · rw [List.getElem?_set, if_neg (fun e => ht (by rw [e]))]
    · cases hd'
      rw [List.getElem?_set, if_pos rfl, if_pos (by simpa using hd)]
  · exact ⟨slots, hk, rfl, fun _ _ => rfl, fun d hd => by cases hd⟩

/-- what is known of operation number i: it sees what it waits for, and comes to what stands in F -/
def OpFact (Γ : Ctx) (P : Program) (c : Bool) (h : List AB) (all heads : List Oper) (F : List (Option PV)) (i : Nat) (o : Oper) : Prop :=
  ∃ ms : List (Option PV), ms.length = F.length ∧
    (∀ (t : Nat) (p : PV), ms[t]? = some (some p) → F[t]? = some (some p) ∧ ∀ (m : Nat) (q : Oper), heads[m]? = some q → q.dst = some t → m < i ∧ depB o m = true) ∧
    guardX c all ms o.guard (fun s => ∃ p, (∀ k : PV → Prop, k p → stillV Γ c (PureW Γ P) s h o k) ∧ ∀ d, o.dst = some d → F[d]? = some (some p)) (fun _ => ∀ d, o.dst = some d → F[d]? = some (some .undef))

theorem PureW.lin (f : Nat) (vs : List PV) : Lin (PureW Γ P f vs) := fun k hk => by
  obtain ⟨p, h1, h2⟩ := hk.out
  exact ⟨p, h2, fun k' hk' => ⟨p, h1, hk'⟩⟩

theorem nodup_mem : ∀ {l : List (Option Nat)} {d : Nat}, nodupB (some d :: l) = true → ∀ x ∈ l, x ≠ some d
  | l, d, h, x, hx, he => by
    simp only [nodupB, Bool.and_eq_true, Bool.not_eq_true', List.any_eq_false] at h
    have := h.1 x hx
    subst he
    simp at this

theorem withOs_mono : ∀ {xs : List Operand} {k k' : List PV → Prop}, (∀ vs, k vs → k' vs) → withOs Γ slots xs k → withOs Γ slots xs k'
  | [], k, k', hm, hk => hm _ hk
  | x :: r, k, k', hm, hk => by
    unfold withOs at hk ⊢
    obtain ⟨p, hp, hk⟩ := withO_elim hk
    unfold withO
    rw [hp]
    exact withOs_mono (fun vs h => hm _ h) hk
theorem thawL_mono : ∀ {vs : List PV} {k k' : List PV → Prop}, (∀ vs, k vs → k' vs) → thawL md h vs k → thawL md h vs k'
  | [], k, k', hm, hk => hm _ hk
  | v :: r, k, k', hm, hk => by
    cases v with
    | row i n =>
      unfold thawL at hk ⊢
      split at hk
      · exact (need_iff _ _).2 ⟨((need_iff _ _).1 hk).1, thawL_mono (fun vs h => hm _ h) ((need_iff _ _).1 hk).2⟩
      · exact hk.elim
    | _ => exact (need_iff _ _).2 ⟨((need_iff _ _).1 hk).1, thawL_mono (fun vs h => hm _ h) ((need_iff _ _).1 hk).2⟩
theorem stillV_mono {c : Bool} {pcall pcall' : PureF} (hp : ∀ f ps k, pcall f ps k → pcall' f ps k) {o : Oper} {kt : PV → Prop} (hk : stillV Γ c pcall slots h o kt) : stillV Γ c pcall' slots h o kt := by
  unfold stillV at hk ⊢
  split at hk
  · exact hk
  · refine withOs_mono (fun vs hk => ?_) hk
    split at hk
    · exact hk
    · rename_i f hf
      obtain ⟨fv, hfv, hk⟩ := withO_elim hk
      unfold withO
      rw [hfv]
      dsimp only
      split at hk
      · exact thawL_mono (fun vs h => hp _ _ _ h) hk
      · exact thawL_mono (fun vs h => hp _ _ _ h) hk
      · exact hk.elim
    · exact hk
  · exact hk

theorem headX_facts {pcall : PureF} (hp : ∀ f ps k, pcall f ps k → PureW Γ P f ps k) {c : Bool} {all heads : List Oper} : ∀ (r : List Oper) (i : Nat) (slots : List (Option PV)) (k : List (Option PV) → Prop), (∀ m, r[m]? = heads[i + m]?) → (∀ o ∈ r, stillB Γ o = true) → nodupB (r.map (·.dst)) = true →
    headX Γ c pcall all heads i r slots h k →
    ∃ F, k F ∧ F.length = slots.length ∧ (∀ t, (∀ o ∈ r, o.dst ≠ some t) → F[t]? = slots[t]?) ∧ ∀ (m : Nat) (o : Oper), r[m]? = some o → OpFact Γ P c h all heads F (i + m) o
  | [], i, slots, k, hr, hst, hnd, hk => ⟨slots, hk, rfl, fun _ _ => rfl, fun m o hm => by simp at hm⟩
  | o :: r, i, slots, k, hr, hst, hnd, hk => by
    unfold headX at hk
    obtain ⟨ms, m1, m2, hk⟩ := maskX_sound heads 0 slots _ hk
    have hr' : ∀ m, r[m]? = heads[i + 1 + m]? := fun m => by have := hr (m + 1); rw [List.getElem?_cons_succ] at this; rw [this]; congr 1; omega
    have hnd' : nodupB (r.map (·.dst)) = true := by
      rw [List.map_cons] at hnd
      cases hd : o.dst with
      | none => rw [hd] at hnd; exact hnd
      | some d => rw [hd] at hnd; simp only [nodupB, Bool.and_eq_true] at hnd; exact hnd.2
    have hout : ∀ d, o.dst = some d → ∀ q ∈ r, q.dst ≠ some d := fun d hd q hq => by
      rw [List.map_cons, hd] at hnd
      exact nodup_mem hnd q.dst (List.mem_map_of_mem hq)
    -- what is seen stays
    have seen : ∀ {s F : List (Option PV)}, (∀ t, o.dst ≠ some t → s[t]? = slots[t]?) → (∀ t, (∀ q ∈ r, q.dst ≠ some t) → F[t]? = s[t]?) →
        ∀ (t : Nat) (p : PV), ms[t]? = some (some p) → F[t]? = some (some p) ∧ ∀ (m : Nat) (q : Oper), heads[m]? = some q → q.dst = some t → m < i ∧ depB o m = true := by
      intro s F hs hF t p ht
      obtain ⟨h1, h2⟩ := m2 t p ht
      have h2' : ∀ (m : Nat) (q : Oper), heads[m]? = some q → q.dst = some t → m < i ∧ depB o m = true := fun m q hm hq => by simpa using h2 m q hm hq
      refine ⟨?_, h2'⟩
      rw [hF t (fun q hq e => ?_), hs t (fun e => ?_), h1]
      · have := (h2' i o (by simpa using (hr 0).symm) e).1; omega
      · obtain ⟨m, hm, rfl⟩ := List.getElem_of_mem hq
        have := (h2' (i + 1 + m) _ (by rw [← hr' m]; exact List.getElem?_eq_getElem hm) e).1
        omega
    have wrap : ∀ {s : List (Option PV)} {k : List (Option PV) → Prop}, s.length = slots.length → (∀ t, o.dst ≠ some t → s[t]? = slots[t]?) → headX Γ c pcall all heads (i + 1) r s h k →
        ∃ F, k F ∧ F.length = slots.length ∧ (∀ t, (∀ q ∈ r, q.dst ≠ some t) → F[t]? = s[t]?) ∧ (∀ t, (∀ q ∈ o :: r, q.dst ≠ some t) → F[t]? = slots[t]?) ∧
          (∀ (m : Nat) (q : Oper), r[m]? = some q → OpFact Γ P c h all heads F (i + 1 + m) q) := by
      intro s k hl hs hk
      obtain ⟨F, f1, f2, f3, f4⟩ := headX_facts hp r (i + 1) s k hr' (fun q hq => hst q (List.mem_cons_of_mem _ hq)) hnd' hk
      refine ⟨F, f1, f2.trans hl, f3, fun t ht => ?_, f4⟩
      rw [f3 t (fun q hq => ht q (List.mem_cons_of_mem _ hq)), hs t (ht o List.mem_cons_self)]
    rcases guardX_lin hk with ⟨s0, hk, hg⟩ | ⟨s0, hk, hg⟩
    · obtain ⟨p, hk, hlin⟩ := Lin.stillV (c := c) (pcall := PureW Γ P) PureW.lin (hst o List.mem_cons_self) _ (stillV_mono hp hk)
      obtain ⟨s, hk, hl, hs, hd⟩ := putX_elim hk
      obtain ⟨F, f1, f2, f3, f4, f5⟩ := wrap hl hs hk
      refine ⟨F, f1, f2, f4, fun m q hm => ?_⟩
      cases m with
      | zero =>
        simp at hm; subst hm
        refine ⟨ms, by rw [m1, f2], seen hs f3, hg _ _ ⟨p, hlin, fun d hd' => ?_⟩⟩
        rw [f3 d (hout d hd')]; exact hd d hd'
      | succ m => have := f5 m q (by simpa using hm); rw [show i + (m + 1) = i + 1 + m by omega]; exact this
    · obtain ⟨s, hk, hl, hs, hd⟩ := putX_elim hk
      obtain ⟨F, f1, f2, f3, f4, f5⟩ := wrap hl hs hk
      refine ⟨F, f1, f2, f4, fun m q hm => ?_⟩
      cases m with
      | zero =>
        simp at hm; subst hm
        refine ⟨ms, by rw [m1, f2], seen hs f3, hg _ _ fun d hd' => ?_⟩
        rw [f3 d (hout d hd')]; exact hd d hd'
      | succ m => have := f5 m q (by simpa using hm); rw [show i + (m + 1) = i + 1 + m by omega]; exact this

end
end Go.Proofs.Ytepgblhhajdmoaa.Eng
