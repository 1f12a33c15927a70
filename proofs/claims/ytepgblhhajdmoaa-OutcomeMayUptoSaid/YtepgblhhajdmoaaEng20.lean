/-
  THE ENGINE, part 20: code, and functions.
-/
import Derived.Test.YtepgblhhajdmoaaEng19
import Derived.Scope
set_option linter.unusedVariables false
set_option linter.unusedSimpArgs false
namespace Go.Proofs.Ytepgblhhajdmoaa.Eng
open Go

/-- what stays, of what stood before the call: from the call's own memory on (from number n0 on) nothing is told -/
structure FrB (n0 : Nat) (E : Env) (h : List AB) (w : World) (E' : Env) (h' : List AB) (w' : World) : Prop where
  os : w'.os = w.os
  tape : w'.tape = w.tape
  output : w'.output = w.output
  size : w.heap.size ≤ w'.heap.size
  same : ∀ b, b < w.heap.size → ¬ Foot E h b → w'.heap[b]? = w.heap[b]?
  K : ∀ b, E.K b → E'.K b
  sameK : ∀ b, E.K b → w'.heap[b]? = w.heap[b]?
  n : n0 ≤ E'.n
  bx : ∀ i, i < n0 → E'.bx i = E.bx i
  len : ∀ i, i < n0 → E.len i ≤ E'.len i
  rv : ∀ i m, i < n0 → m ≤ E.len i → E'.rv i m = E.rv i m
  sz : ∀ i, i < n0 → E'.sz i = E.sz i
  newK : ∀ b, E'.K b → E.K b ∨ w.heap.size ≤ b ∨ Foot E h b
  foot : ∀ b, Foot E' h' b → w.heap.size ≤ b ∨ Foot E h b
theorem FrB.refl {n0 : Nat} {E : Env} {h : List AB} {w : World} (hn : n0 ≤ E.n) : FrB n0 E h w E h w :=
  ⟨rfl, rfl, rfl, Nat.le_refl _, fun _ _ _ => rfl, fun _ h => h, fun _ _ => rfl, hn, fun _ _ => rfl, fun _ _ => Nat.le_refl _, fun _ _ _ _ => rfl, fun _ _ => rfl, fun _ h => .inl h, fun _ h => .inr h⟩
theorem Fr.toB {n0 : Nat} {E E' : Env} {h h' : List AB} {w w' : World} (f : Fr E h w E' h' w') (hn : n0 ≤ E.n) : FrB n0 E h w E' h' w' :=
  ⟨f.os, f.tape, f.output, f.size, f.same, f.ext.K, f.ext.same, Nat.le_trans hn f.ext.n, fun i hi => f.ext.bx i (by omega), fun i hi => f.ext.len i (by omega), fun i m hi => f.ext.rv i m (by omega), fun i hi => f.ext.sz i (by omega), f.newK, f.foot⟩
theorem FrB.full {E E' : Env} {h h' : List AB} {w w' : World} (f : FrB E.n E h w E' h' w') : Fr E h w E' h' w' :=
  ⟨f.os, f.tape, f.output, f.size, f.same, ⟨f.K, f.sameK, f.n, f.bx, f.len, f.rv, f.sz⟩, f.newK, f.foot⟩
theorem FrB.trans {n0 : Nat} {E E1 E2 : Env} {h h1 h2 : List AB} {w w1 w2 : World} (f : FrB n0 E h w E1 h1 w1) (g : FrB n0 E1 h1 w1 E2 h2 w2) : FrB n0 E h w E2 h2 w2 := by
  refine ⟨g.os.trans f.os, g.tape.trans f.tape, g.output.trans f.output, Nat.le_trans f.size g.size, fun b hb hn => ?_, fun b hb => g.K b (f.K b hb), fun b hb => (g.sameK b (f.K b hb)).trans (f.sameK b hb), g.n,
    fun i hi => (g.bx i hi).trans (f.bx i hi), fun i hi => Nat.le_trans (f.len i hi) (g.len i hi), fun i m hi hm => (g.rv i m hi (Nat.le_trans hm (f.len i hi))).trans (f.rv i m hi hm), fun i hi => (g.sz i hi).trans (f.sz i hi), fun b hb => ?_, fun b hb => ?_⟩
  · refine (g.same b (Nat.lt_of_lt_of_le hb f.size) fun hf => ?_).trans (f.same b hb hn)
    rcases f.foot b hf with h | h
    · omega
    · exact hn h
  · rcases g.newK b hb with h | h | h
    · exact f.newK b h
    · exact .inr (.inl (Nat.le_trans f.size h))
    · exact .inr (f.foot b h)
  · rcases g.foot b hb with h | h
    · exact .inl (Nat.le_trans f.size h)
    · exact f.foot b h

def PostB (Γ : Ctx) (n0 : Nat) (E0 : Env) (h0 : List AB) (w0 : World) (k : AExit → St → Prop) (x : Exit) (a : Act) (w : World) : Prop :=
  ∃ xa st E, XRel E w x xa ∧ Rel Γ E st a w ∧ FrB n0 E0 h0 w0 E st.heap w ∧ k xa st
theorem PostB.back {Γ : Ctx} {n0 : Nat} {E0 E1 : Env} {h0 h1 : List AB} {w0 w1 : World} (f : FrB n0 E0 h0 w0 E1 h1 w1) {k : AExit → St → Prop} {x : Exit} {a : Act} {w : World} (h : PostB Γ n0 E1 h1 w1 k x a w) : PostB Γ n0 E0 h0 w0 k x a w := by
  obtain ⟨xa, st, E, g1, g2, g3, g4⟩ := h
  exact ⟨xa, st, E, g1, g2, f.trans g3, g4⟩
theorem Post.toB {Γ : Ctx} {n0 : Nat} {E0 : Env} {h0 : List AB} {w0 : World} (hn : n0 ≤ E0.n) {k : AExit → St → Prop} {x : Exit} {a : Act} {w : World} (h : Post Γ E0 h0 w0 k x a w) : PostB Γ n0 E0 h0 w0 k x a w := by
  obtain ⟨xa, st, E, g1, g2, g3, g4⟩ := h
  exact ⟨xa, st, E, g1, g2, g3.toB hn, g4⟩

/-- IN EVERY MEMORY THAT HOLDS THIS the code comes to that. -/
structure CodeW (Γ : Ctx) (P : Program) (n0 : Nat) (cd : Code) (k : AExit → St → Prop) (st : St) : Prop where
  out : ∀ (E : Env) (a : Act) (w : World), n0 ≤ E.n → Rel Γ E st a w → cd.wp P (PostB Γ n0 E st.heap w k) a w

/-- the rest of a scope's body -/
structure ScopeW (Γ : Ctx) (P : Program) (n0 : Nat) (b cd : Code) (k : AExit → St → Prop) (st : St) : Prop where
  out : ∀ (E : Env) (a : Act) (w : World), n0 ≤ E.n → Rel Γ E st a w → ∀ (bf : Frame) (kk : List Item) (cs : List Frame),
    ∃ e a' w', PostB Γ n0 E st.heap w k e a' w' ∧ Arrives P (lone (bf.at a (.code cd :: .inScope b :: kk)) cs w) bf kk cs e a' w'

structure LoopW (Γ : Ctx) (P : Program) (n0 : Nat) (b cd : Code) (k : AExit → St → Prop) (st : St) : Prop where
  out : ∀ (E : Env) (a : Act) (w : World), n0 ≤ E.n → Rel Γ E st a w → ∀ (bf : Frame) (kk : List Item) (cs : List Frame),
    ∃ e a' w', PostB Γ n0 E st.heap w k e a' w' ∧ Arrives P (lone (bf.at a (.code cd :: .inLoop b :: kk)) cs w) bf kk cs e a' w'

structure RecOK (Γ : Ctx) (P : Program) (n0 : Nat) (rec : CodeF) : Prop where
  code : ∀ cd st k, rec .plain cd st k → CodeW Γ P n0 cd k st
  scope : ∀ b cd st k, rec (.scope b) cd st k → ScopeW Γ P n0 b cd k st
  loop : ∀ b cd st k, rec (.loop b) cd st k → LoopW Γ P n0 b cd k st

section
variable {Γ : Ctx} {P : Program} {E E' : Env} {w w' : World} {h : List AB} {a : Act} {slots : List (Option PV)} {md : Bool} {n0 : Nat}

theorem CodeW.from {cd : Code} {k : AExit → St → Prop} {st : St} (hc : CodeW Γ P n0 cd k st) {E0 : Env} {h0 : List AB} {w0 : World} (hr : Rel Γ E st a w) (f : FrB n0 E0 h0 w0 E st.heap w) : cd.wp P (PostB Γ n0 E0 h0 w0 k) a w :=
  wp_mono (hc.out E a w f.n hr) fun _ _ _ => PostB.back f

theorem codeStep_sound (hC : CtxOK Γ P) {c : Bool} {L : Leaves} {rec : CodeF} (hR : RecOK Γ P n0 rec) (hL : ∀ cd k st, L.code cd k st → CodeW Γ P n0 cd k st)
    (hcc : c = false → Calling Γ P L.call L.pcall) (hce : c = true → Calling Γ P (enterX Γ c rec) (enterP Γ c rec)) : RecOK Γ P n0 (codeStep Γ c L rec) := by
  refine ⟨fun cd st k hk => ⟨fun E a w hn hr => ?_⟩, fun b cd st k hk => ⟨fun E a w hn hr bf kk cs => ?_⟩, fun b cd st k hk => ⟨fun E a w hn hr bf kk cs => ?_⟩⟩
  · unfold codeStep at hk
    dsimp only at hk
    split at hk
    · exact wp_skip ⟨.normal, st, E, trivial, hr, FrB.refl hn, hk⟩
    · exact wp_label ⟨.normal, st, E, trivial, hr, FrB.refl hn, hk⟩
    · -- seq
      rename_i x y
      refine wp_seq (wp_mono ((hR.code _ _ _ hk).out E a w hn hr) fun e a1 w1 hp => ?_)
      obtain ⟨xa, st1, E1, hx, hr1, hf, hk1⟩ := hp
      cases e <;> cases xa <;> simp only [XRel] at hx
      · exact (hR.code _ _ _ hk1).from hr1 hf
      · exact ⟨.exit _, st1, E1, hx, hr1, hf, hk1⟩
      · exact ⟨.goto _, st1, E1, hx, hr1, hf, hk1⟩
      · exact ⟨.ret, st1, E1, trivial, hr1, hf, hk1⟩
      · exact ⟨.panic _, st1, E1, hx, hr1, hf, hk1⟩
    · -- cond
      rename_i b x y
      replace hk := withO_rep hr.heap hr.slots hk
      obtain ⟨p, hp, hk⟩ := hk
      split at hk
      · rename_i t hbv
        rw [splitB_eq] at hk
        have hb : a.eval b = .bool t := bv_sym hp hbv
        cases t with
        | true => exact wp_cond hb ((hR.code _ _ _ hk).out E a w hn hr)
        | false => exact wp_cond hb ((hR.code _ _ _ hk).out E a w hn hr)
      · rename_i t hbv
        have hb : a.eval b = .bool t := bv_known hp hbv
        cases t with
        | true => exact wp_cond hb ((hR.code _ _ _ hk).out E a w hn hr)
        | false => exact wp_cond hb ((hR.code _ _ _ hk).out E a w hn hr)
      · exact hk.elim
    · -- block
      rename_i id b
      refine wp_block (wp_mono ((hR.code _ _ _ hk).out E a w hn hr) fun e a1 w1 hp => ?_)
      obtain ⟨xa, st1, E1, hx, hr1, hf, hk1⟩ := hp
      cases e <;> cases xa <;> simp only [XRel] at hx
      · exact ⟨.normal, st1, E1, trivial, hr1, hf, hk1⟩
      · rename_i i j
        subst hx
        dsimp only at hk1
        by_cases hid : i = id
        · subst hid
          simp only [Nat.beq_refl] at hk1
          simp only [Exit.inBlock, if_true]
          exact ⟨.normal, st1, E1, trivial, hr1, hf, hk1⟩
        · have : Nat.beq i id = false := by
            cases hb : Nat.beq i id with
            | false => rfl
            | true => exact absurd (Nat.eq_of_beq_eq_true hb) hid
          simp only [this] at hk1
          simp only [Exit.inBlock, if_neg hid]
          exact ⟨.exit i, st1, E1, rfl, hr1, hf, hk1⟩
      · exact ⟨.goto _, st1, E1, hx, hr1, hf, hk1⟩
      · exact ⟨.ret, st1, E1, trivial, hr1, hf, hk1⟩
      · exact ⟨.panic _, st1, E1, hx, hr1, hf, hk1⟩
    · exact wp_exit ⟨.exit _, st, E, rfl, hr, FrB.refl hn, hk⟩
    · exact wp_ret ⟨.ret, st, E, trivial, hr, FrB.refl hn, hk⟩
    · exact wp_goto ⟨.goto _, st, E, rfl, hr, FrB.refl hn, hk⟩
    · -- scope
      rename_i b
      intro bf kk cs
      obtain ⟨e, a', w', hp, harr⟩ := (hR.scope _ _ _ _ hk).out E a w hn hr bf kk cs
      exact ⟨e, a', w', hp, .of_steps (.one step_scope) harr⟩
    · -- region
      rename_i id ops dr
      cases c with
      | false =>
        cases dr with
        | false => exact wp_mono (wp_region_list (opsX_sound hC (hcc rfl) _ hr.heap hr.slots hr.defers (Fr.refl _ _ _) hk)) fun _ _ _ => Post.toB hn
        | true => exact wp_mono (drawX_sound hC (hcc rfl) hr.heap hr.slots hr.defers (Fr.refl _ _ _) hk) fun _ _ _ => Post.toB hn
      | true =>
        cases dr with
        | false => exact wp_mono (wp_region_list (opsX_sound hC (hce rfl) _ hr.heap hr.slots hr.defers (Fr.refl _ _ _) hk)) fun _ _ _ => Post.toB hn
        | true => exact wp_mono (drawX_sound hC (hce rfl) hr.heap hr.slots hr.defers (Fr.refl _ _ _) hk) fun _ _ _ => Post.toB hn
    · -- loop
      rename_i b
      cases c with
      | false => exact (hL _ _ _ hk).out E a w hn hr
      | true =>
        intro bf kk cs
        obtain ⟨e, a', w', hp, harr⟩ := (hR.loop _ _ _ _ hk).out E a w hn hr bf kk cs
        exact ⟨e, a', w', hp, .of_steps (.one step_loop) harr⟩
    · exact (hL _ _ _ hk).out E a w hn hr
  · -- within a scope
    unfold codeStep at hk
    dsimp only at hk
    obtain ⟨e, a1, w1, hp, harr⟩ := (hR.code _ _ _ hk).out E a w hn hr bf (.inScope b :: kk) cs
    obtain ⟨xa, st1, E1, hx, hr1, hf, hk1⟩ := hp
    cases e <;> cases xa <;> simp only [XRel] at hx
    · exact ⟨.normal, a1, w1, ⟨.normal, st1, E1, trivial, hr1, hf, hk1⟩, Steps.trans harr (.one step_inScope)⟩
    · exact ⟨.exit _, a1, w1, ⟨.exit _, st1, E1, hx, hr1, hf, hk1⟩, fun k' hk' => harr k' (by simp [exitTo, hk'])⟩
    · rename_i l l'
      subst hx
      dsimp only at hk1
      split at hk1
      · rename_i rest hl
        have hs := harr (.code rest :: .inScope b :: kk) (by simp [gotoIn, hl])
        obtain ⟨e2, a2, w2, hp2, harr2⟩ := (hR.scope _ _ _ _ hk1).out E1 a1 w1 hf.n hr1 bf kk cs
        exact ⟨e2, a2, w2, hp2.back hf, .of_steps hs harr2⟩
      · rename_i hl
        exact ⟨.goto l, a1, w1, ⟨.goto l, st1, E1, rfl, hr1, hf, hk1⟩, fun k' hk' => harr k' (by simp [gotoIn, hl, hk'])⟩
    · exact ⟨.ret, a1, w1, ⟨.ret, st1, E1, trivial, hr1, hf, hk1⟩, harr⟩
    · exact ⟨.panic _, a1, w1, ⟨.panic _, st1, E1, hx, hr1, hf, hk1⟩, harr⟩
  · -- within a loop
    unfold codeStep at hk
    dsimp only at hk
    obtain ⟨e, a1, w1, hp, harr⟩ := (hR.code _ _ _ hk).out E a w hn hr bf (.inLoop b :: kk) cs
    obtain ⟨xa, st1, E1, hx, hr1, hf, hk1⟩ := hp
    cases e <;> cases xa <;> simp only [XRel] at hx
    · obtain ⟨e2, a2, w2, hp2, harr2⟩ := (hR.loop _ _ _ _ hk1).out E1 a1 w1 hf.n hr1 bf kk cs
      exact ⟨e2, a2, w2, hp2.back hf, .of_steps (Steps.trans harr (.one step_inLoop)) harr2⟩
    · exact ⟨.exit _, a1, w1, ⟨.exit _, st1, E1, hx, hr1, hf, hk1⟩, .pass (x := .inLoop b) rfl (fun _ _ => .inl (by simp)) harr⟩
    · exact ⟨.goto _, a1, w1, ⟨.goto _, st1, E1, hx, hr1, hf, hk1⟩, .pass (x := .inLoop b) rfl (fun _ _ => .inl (by simp)) harr⟩
    · exact ⟨.ret, a1, w1, ⟨.ret, st1, E1, trivial, hr1, hf, hk1⟩, .pass (x := .inLoop b) rfl (fun _ _ => .inl (by simp)) harr⟩
    · exact ⟨.panic _, a1, w1, ⟨.panic _, st1, E1, hx, hr1, hf, hk1⟩, .pass (x := .inLoop b) rfl (fun _ _ => .inl (by simp)) harr⟩

/-! ### functions -/
theorem entry_rel {F : Func} {vs : Array Value} {ps : List PV} (ha : ArgsRel E w vs ps) : SlotsRel E w (vs ++ Array.replicate (F.ntmps - vs.size) undef) (entry F ps) := by
  refine ⟨by simp [entry, ha.1], fun t p ht => ?_⟩
  unfold entry at ht
  rcases Nat.lt_or_ge t ps.length with hlt | hge
  · rw [List.getElem?_append_left (by simpa using hlt), List.getElem?_map] at ht
    obtain ⟨q, hq, he⟩ := Option.map_eq_some_iff.1 ht
    cases he
    have hv : t < vs.size := by rw [ha.1]; exact hlt
    exact ⟨vs[t], by rw [Array.getElem?_append_left hv]; exact Array.getElem?_eq_getElem hv, ha.2 t _ _ (Array.getElem?_eq_getElem hv) hq⟩
  · rw [List.getElem?_append_right (by simpa using hge)] at ht
    have := List.mem_of_getElem? ht
    rw [List.mem_replicate] at this
    have hp : p = .undef := by simpa using this.2
    subst hp
    rw [List.getElem?_replicate] at ht
    split at ht
    · rename_i hlt
      simp only [List.length_map] at hlt
      refine ⟨undef, ?_, .undef⟩
      rw [Array.getElem?_append_right (by rw [ha.1]; exact hge), Array.getElem?_replicate, if_pos (by rw [ha.1]; exact hlt)]
    · cases ht

theorem enterX_sound (hC : CtxOK Γ P) {c : Bool} {rec : CodeF} {f : Nat} {ps : List PV} {kr kp : PV → List AB → Prop} (hR : RecOK Γ P h.length rec) (hk : enterX Γ c rec f ps h kr kp) : CallW Γ P f ps h kr kp := by
  unfold enterX at hk
  split at hk
  · rename_i F hF
    obtain ⟨hf, hname⟩ := hC.fns f F hF
    split at hk
    · rename_i b hb
      rw [lenK_eq, spine_eq, Nat.zero_add] at hk
      refine ⟨⟨F, hf, hname, by rw [hb]; rfl⟩, fun E w vs hh ha => calls_of_wp hf hb ?_⟩
      refine wp_mono ((hR.code _ _ _ hk).out E _ w (Nat.le_of_eq hh.n.symm) ⟨hh, entry_rel ha, rfl⟩) fun e a1 w1 hp => ?_
      obtain ⟨xa, ⟨s1, h1⟩, E1, hx, hr1, hfr0, hk1⟩ := hp
      have hfr : Fr E h w E1 h1 w1 := by rw [← hh.n] at hfr0; exact hfr0.full
      have done : (resultsX Γ c h1 s1 F.results.toList fun vs => oneOrTup vs fun r => settle c h1 r fun r h' => trim h.length r h' kr) →
          a1.defers = [] ∧ ∃ v, (results F a1.tmps).run P w1 = .ok v w1 ∧ Ends Γ E h w kr kp (.returned v) w1 := by
        intro hk2
        obtain ⟨v, p, e1, e2, e3⟩ := results_sound hC hr1.heap hr1.slots hk2
        obtain ⟨q, E2, h2, g1, g2, g3, g4⟩ := settle_sound hr1.heap e2 e3
        obtain ⟨E3, h3, q1, q2, q3, q4⟩ := trim_sound hh.n (hfr.trans g2) g1 g3 g4
        exact ⟨hr1.defers, v, e1, q, E3, h3, q1, q2, q3, q4⟩
      cases e <;> cases xa <;> simp only [XRel] at hx
      · exact done hk1
      · exact hk1.elim
      · exact hk1.elim
      · exact done hk1
      · obtain ⟨v, rfl, hv⟩ := hx
        exact ⟨hr1.defers, v, _, E1, h1, rfl, hr1.heap, hfr, hv, hk1⟩
    · exact hk.elim
  · exact hk.elim

/-- a call by itself whose result is shut -/
theorem pure_of {f : Nat} {ps : List PV} {p : PV} (hc : CallW Γ P f ps [] (fun v h => shutV md v h fun v _ => need md (v.under 0) (v = p)) (fun _ _ => False)) : CallW Γ P f ps [] (fun r h => r = p ∧ h = []) (fun _ _ => False) := by
  refine ⟨hc.known, fun E w vs hh ha => (hc.out E w vs hh ha).mono fun e w' he => ?_⟩
  cases e with
  | returned v =>
    obtain ⟨q, E1, h1, g1, g2, g3, g4⟩ := he
    obtain ⟨r, E2, h2, f1, f2, f3, _, f5⟩ := shutV_sound q g1 g3 g4
    obtain ⟨hu, rfl⟩ := (need_iff _ _).1 f5
    have htr : trim ([] : List AB).length r h2 (fun r' h' => r' = r ∧ h' = []) := by
      unfold trim
      rw [takeK_eq]
      have : (r.under ([] : List AB).length && abelow ([] : List AB).length (h2.take ([] : List AB).length)) = true := by simp [hu, abelow]
      rw [this]
      simp
    obtain ⟨E3, h3, q1, q2, q3, q4⟩ := trim_sound hh.n (g2.trans f2) f1 f3 htr
    exact ⟨r, E3, h3, q1, q2, q3, q4⟩
  | panicked ch => obtain ⟨_, _, _, _, _, _, _, _, hf⟩ := he; exact hf.elim
  | outgrown => exact he.elim

end
end Go.Proofs.Ytepgblhhajdmoaa.Eng
