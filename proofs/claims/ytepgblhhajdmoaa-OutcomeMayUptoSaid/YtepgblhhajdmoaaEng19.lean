/-
  THE ENGINE, part 19: a region whose order is drawn: the whole.
-/
import Derived.Test.YtepgblhhajdmoaaEng18
set_option linter.unusedVariables false
set_option linter.unusedSimpArgs false
namespace Go.Proofs.Ytepgblhhajdmoaa.Eng
open Go

section
variable {Γ : Ctx} {P : Program} {E E' : Env} {w w' : World} {h : List AB} {a : Act} {slots : List (Option PV)} {md : Bool}

theorem backB_spec : ∀ (l : List Oper) (i : Nat), backB i l = true → ∀ (m : Nat) (o : Oper), l[m]? = some o → ∀ e ∈ o.after, Region.binds .any e = true → e.on < i + m
  | [], i, h, m, o, hm => by simp at hm
  | p :: r, i, h, m, o, hm => by
    simp only [backB, Bool.and_eq_true] at h
    cases m with
    | zero =>
      simp at hm; subst hm
      intro e he hb
      have := Array.all_eq_true_iff_forall_mem.1 h.1 e he
      simpa [hb] using this
    | succ m =>
      have := backB_spec r (i + 1) h.2 m o (by simpa using hm)
      intro e he hb
      have := this e he hb
      omega

/-- the state of memory and slots when some of the heads are done -/
structure Half (Γ : Ctx) (E1 : Env) (h : List AB) (w1 : World) (F : List (Option PV)) (heads : List Oper) (listed : Array Bool) (a : Act) (w : World) : Prop where
  out : ∃ E, HeapRel Γ E h w ∧ Fr E1 h w1 E h w ∧ a.defers = [] ∧ a.tmps.size = F.length ∧
    ∀ (t : Nat) (p : PV), F[t]? = some (some p) → (∀ (m : Nat) (q : Oper), heads[m]? = some q → q.dst = some t → listed.getD m false = true) → ∃ u, a.tmps[t]? = some u ∧ Rep E w u p

theorem half_step {c : Bool} (hC : CtxOK Γ P) {E1 : Env} {w1 : World} {F : List (Option PV)} {ops : Array Oper} {heads : List Oper} {listed : Array Bool} (hH : Half Γ E1 h w1 F heads listed a w) {i : Nat} {o : Oper}
    (ho : ops[i]? = some o) (hoh : heads[i]? = some o) (hst : stillB Γ o = true) (hf : OpFact Γ P c h ops.toList heads F i o) (hr : i ∈ Region.ready .any ops listed) {K : Act → World → Prop} {Q : Exit → Act → World → Prop}
    (hK : ∀ a' w', Half Γ E1 h w1 F heads (listed.setIfInBounds i true) a' w' → K a' w') : wpOp P ops Q i K a w := by
  obtain ⟨E, hh, hfr, hd, hsz, hvis⟩ := hH.out
  obtain ⟨ms, m1, m2, hg⟩ := hf
  obtain ⟨hun, o', ho', hall⟩ := mem_ready.1 hr
  have : o' = o := Option.some.inj (ho'.symm.trans ho)
  subst this
  have hms : SlotsRel E w a.tmps ms := by
    refine ⟨hsz.trans m1.symm, fun t p ht => ?_⟩
    obtain ⟨h1, h2⟩ := m2 t p ht
    refine hvis t p h1 fun m q hm hq => ?_
    obtain ⟨_, hdep⟩ := h2 m q hm hq
    obtain ⟨e, he, hb⟩ := Array.any_eq_true'.1 hdep
    simp only [Bool.and_eq_true] at hb
    have := hall e he hb.1
    rwa [Nat.eq_of_beq_eq_true hb.2] at this
  obtain ⟨s', hs', hg⟩ := guardX_sound hg hms
  have after : ∀ {E2 : Env} {w2 : World} {v : Value} {p : PV}, HeapRel Γ E2 h w2 → Fr E h w E2 h w2 → Rep E2 w2 v p → (∀ d, o'.dst = some d → F[d]? = some (some p)) → Half Γ E1 h w1 F heads (listed.setIfInBounds i true) (a.put o'.dst v) w2 := by
    intro E2 w2 v p g1 g2 g3 hF
    refine ⟨E2, g1, hfr.trans g2, ?_, ?_, fun t q ht hv => ?_⟩
    · cases hdst : o'.dst <;> simpa [Act.put] using hd
    · cases hdst : o'.dst <;> simpa [Act.put] using hsz
    · by_cases hdt : o'.dst = some t
      · have := hF t hdt
        rw [this] at ht
        cases ht
        have hlt : t < a.tmps.size := by rw [hsz]; exact (List.getElem?_eq_some_iff.1 this).1
        refine ⟨v, ?_, g3⟩
        simp [Act.put, hdt, Array.getElem?_setIfInBounds, hlt]
      · obtain ⟨u, hu, hrep⟩ := hvis t q ht fun m q' hm hq => by
          have := hv m q' hm hq
          by_cases him : i = m
          · subst him
            rw [hoh] at hm; cases hm
            exact absurd hq hdt
          · rwa [getD_set_ne false him] at this
        refine ⟨u, ?_, hrep.mono g2.ext⟩
        cases hdst : o'.dst with
        | none => simpa [Act.put] using hu
        | some d =>
          have : d ≠ t := fun e => hdt (by rw [hdst, e])
          simp only [Act.put]
          rw [Array.getElem?_setIfInBounds, if_neg this]
          exact hu
  unfold wpOp
  simp only [ho]
  rcases hg with ⟨hw, p, hk, hF⟩ | ⟨hw, hF⟩
  · rw [if_pos hw]
    refine .inl (stillV_sound hC hh hs' hst (hk (fun q => q = p) rfl) fun v q E2 w2 g1 g2 g3 e => ?_)
    subst e
    exact hK _ _ (after g1 g2 g3 hF)
  · rw [if_neg (by rw [hw]; simp)]
    exact hK _ _ (after hh (Fr.refl _ _ _) .undef hF)

theorem heads_any {c : Bool} (hC : CtxOK Γ P) {E1 : Env} {w1 : World} {F : List (Option PV)} {ops : Array Oper} {heads : List Oper} (hoh : ∀ (m : Nat) (o : Oper), heads[m]? = some o → ops[m]? = some o)
    (hle : heads.length ≤ ops.size) (hst : ∀ o ∈ heads, stillB Γ o = true) (hback : backB 0 heads = true) (hsc : heads.length < ops.size → Region.sinkB .any ops heads.length = true ∧ Region.chainB .any ops heads.length = true)
    (hF : ∀ (m : Nat) (o : Oper), heads[m]? = some o → OpFact Γ P c h ops.toList heads F m o) {Q : Exit → Act → World → Prop} {g : Nat}
    (hfin : ∀ listed a w, HeadInv .any ops heads.length listed → (∀ m, m < heads.length → listed.getD m false = true) → Half Γ E1 h w1 F heads listed a w → wpAny P .any ops Q g listed a w) :
    ∀ (f : Nat) (rem : List Nat) (listed : Array Bool) (a : Act) (w : World), rem.length = f → rem.Nodup → (∀ j, j ∈ rem ↔ j < heads.length ∧ listed.getD j true = false) → HeadInv .any ops heads.length listed → Half Γ E1 h w1 F heads listed a w →
      wpAny P .any ops Q (f + g) listed a w
  | 0, rem, listed, a, w, hl, hnd, hmem, inv, hH => by
    rw [Nat.zero_add]
    refine hfin listed a w inv (fun m hm => ?_) hH
    have hr : rem = [] := List.eq_nil_of_length_eq_zero hl
    subst hr
    have hms : m < listed.size := by rw [inv.size]; omega
    have : ¬ (listed.getD m true = false) := fun h => by have := (hmem m).2 ⟨hm, h⟩; cases this
    have h2 : listed.getD m true = true := by simpa using this
    simp [hms] at h2 ⊢; exact h2
  | f + 1, rem, listed, a, w, hl, hnd, hmem, inv, hH => by
    -- something is ready
    have some_ready : ∀ (j : Nat), j ∈ rem → ∃ i, i ∈ Region.ready .any ops listed := by
      intro j
      induction j using Nat.strongRecOn with
      | _ j ih =>
        intro hj
        obtain ⟨hjn, hjun⟩ := (hmem j).1 hj
        have hjo : heads[j]? = some heads[j] := List.getElem?_eq_getElem hjn
        by_cases hall : ∀ e ∈ heads[j].after, Region.binds .any e = true → listed.getD e.on false = true
        · exact ⟨j, mem_ready.2 ⟨hjun, _, hoh j _ hjo, hall⟩⟩
        · simp only [Classical.not_forall] at hall
          obtain ⟨e, he, hb, hne⟩ := hall
          have hlt : e.on < j := by simpa using backB_spec heads 0 hback j _ hjo e he hb
          have hsz : e.on < listed.size := by rw [inv.size]; omega
          refine ih e.on hlt ((hmem e.on).2 ⟨by omega, ?_⟩)
          simp [hsz] at hne ⊢; exact hne
    obtain ⟨j0, hj0⟩ : ∃ j, j ∈ rem := by
      cases rem with
      | nil => simp at hl
      | cons j r => exact ⟨j, List.mem_cons_self⟩
    rw [show f + 1 + g = (f + g) + 1 by omega]
    refine ⟨fun h0 => ?_, fun i hi => ?_⟩
    · obtain ⟨i, hi⟩ := some_ready j0 hj0
      rw [h0] at hi; cases hi
    · obtain ⟨hun, o, ho, hall⟩ := mem_ready.1 hi
      have hin : i < heads.length := by
        rcases Nat.lt_or_ge i heads.length with hlt | hge
        · exact hlt
        · have his : i < ops.size := (Array.getElem?_eq_some_iff.1 ho).1
          obtain ⟨hs, hc⟩ := hsc (by omega)
          obtain ⟨h1, h2⟩ := (hmem j0).1 hj0
          exact absurd hi (tail_waits hs hc (by omega) inv _ j0 rfl h1 h2 i hge)
      have hoi : heads[i]? = some o := by
        have h1 : heads[i]? = some heads[i] := List.getElem?_eq_getElem hin
        have h2 := hoh i _ h1
        rw [ho] at h2; cases h2; exact h1
      have hir : i ∈ rem := (hmem i).2 ⟨hin, hun⟩
      refine half_step hC hH ho hoi (hst o (List.mem_of_getElem? hoi)) (hF i o hoi) hi fun a' w' hH' => ?_
      refine heads_any hC hoh hle hst hback hsc hF hfin f (rem.erase i) _ a' w' (by rw [List.length_erase_of_mem hir]; omega) (hnd.erase i) (fun j => ?_) (inv.set hi hin) hH'
      rw [hnd.mem_erase_iff, hmem j]
      constructor
      · rintro ⟨hne, h1, h2⟩
        exact ⟨h1, by rw [getD_set_ne true (Ne.symm hne)]; exact h2⟩
      · rintro ⟨h1, h2⟩
        have hne : j ≠ i := fun e => by
          subst e
          have hsz : j < listed.size := by rw [inv.size]; omega
          simp [hsz] at h2
        exact ⟨hne, h1, by rwa [getD_set_ne true (Ne.symm hne)] at h2⟩

theorem takeWhile_get {α : Type} (p : α → Bool) : ∀ (l : List α) (m : Nat) (x : α), (l.takeWhile p)[m]? = some x → l[m]? = some x ∧ p x = true
  | [], m, x, h => by simp at h
  | y :: l, m, x, h => by
    rw [List.takeWhile_cons] at h
    split at h
    · rename_i hy
      cases m with
      | zero => simp at h; subst h; exact ⟨rfl, hy⟩
      | succ m => exact takeWhile_get p l m x (by simpa using h)
    · simp at h
theorem dropWhile_get {α : Type} (p : α → Bool) : ∀ (l : List α) (m : Nat), (l.dropWhile p)[m]? = l[(l.takeWhile p).length + m]?
  | [], m => by simp
  | y :: l, m => by
    rw [List.dropWhile_cons, List.takeWhile_cons]
    split
    · rw [dropWhile_get p l m, List.length_cons]
      rw [show (List.takeWhile p l).length + 1 + m = ((List.takeWhile p l).length + m) + 1 by omega, List.getElem?_cons_succ]
    · simp
theorem takeDrop_length {α : Type} (p : α → Bool) (l : List α) : (l.takeWhile p).length + (l.dropWhile p).length = l.length := by
  have := congrArg List.length (List.takeWhile_append_dropWhile (p := p) (l := l))
  rw [List.length_append] at this
  exact this

/-- IN WHATEVER ORDER. -/
theorem drawX_sound (hC : CtxOK Γ P) {call : CallF} {pcall : PureF} (hcc : Calling Γ P call pcall) {c : Bool} {E0 : Env} {h0 : List AB} {w0 : World} {id : Nat} {ops : Array Oper} {k : AExit → St → Prop} (hh : HeapRel Γ E h w) (hs : SlotsRel E w a.tmps slots) (hd : a.defers = []) (hf : Fr E0 h0 w0 E h w)
    (hk : drawX Γ c call pcall ops slots h k) : (Code.region id ops true).wp P (Post Γ E0 h0 w0 k) a w := by
  unfold drawX at hk
  replace hk := (need_iff _ _).1 hk
  obtain ⟨hB, hk⟩ := hk
  generalize hheads : ops.toList.takeWhile (stillB Γ) = heads at hB hk
  generalize htail : ops.toList.dropWhile (stillB Γ) = tail at hB hk
  have hth : ∀ (m : Nat) (o : Oper), heads[m]? = some o → ops[m]? = some o ∧ stillB Γ o = true := fun m o hm => by
    rw [← hheads] at hm
    have := takeWhile_get _ _ _ _ hm
    exact ⟨by simpa using this.1, this.2⟩
  have htl : ∀ m, tail[m]? = ops[heads.length + m]? := fun m => by
    rw [← htail, dropWhile_get, hheads]; simp
  have hlen : heads.length + tail.length = ops.size := by
    rw [← hheads, ← htail, takeDrop_length]; simp
  simp only [orderB, Bool.and_eq_true] at hB
  obtain ⟨⟨⟨⟨hnd, hback⟩, hsel⟩, hsc⟩, hseq⟩ := hB
  have hst : ∀ o ∈ heads, stillB Γ o = true := fun o ho => by
    obtain ⟨m, hm, rfl⟩ := List.getElem_of_mem ho
    exact (hth m _ (List.getElem?_eq_getElem hm)).2
  obtain ⟨F, hkF, hFl, hF0, hFact⟩ := headX_facts (P := P) hcc.pcall heads 0 slots _ (fun m => by rw [Nat.zero_add]) hst hnd hk
  -- the world is one draw on
  let w1 : World := { w with drawn := w.drawn + 1 }
  obtain ⟨hh1, hf1⟩ := grow_sound (w' := w1) hh rfl rfl rfl (Nat.le_refl _) (fun _ _ => rfl)
  have hs1 := hs.mono hf1.ext
  refine wp_region_any hC.mixed ?_
  rw [← hlen]
  have inv0 : HeadInv .any ops heads.length (Array.replicate ops.size false) :=
    ⟨by simp, fun j oj _ hl => (by rw [getD_replicate_false] at hl; cases hl), fun t _ ht => getD_in (by simpa using ht) (getD_replicate_false _ _)⟩
  have half0 : Half Γ (newK E w w1) h w1 F heads (Array.replicate ops.size false) a w1 := by
    refine ⟨_, hh1, Fr.refl _ _ _, hd, by rw [hs.1, hFl], fun t p ht hv => hs1.2 t p ?_⟩
    rw [hF0 t fun o ho e => ?_] at ht
    · exact ht
    · obtain ⟨m, hm, rfl⟩ := List.getElem_of_mem ho
      have := hv m _ (List.getElem?_eq_getElem hm) e
      rw [getD_replicate_false] at this; cases this
  rw [hlen]
  have main := heads_any (Γ := Γ) (P := P) (h := h) (c := c) hC (E1 := newK E w w1) (w1 := w1) (F := F) (ops := ops) (heads := heads) (fun m o hm => (hth m o hm).1) (by omega) hst hback
    (fun hlt => by
      simp only [Bool.or_eq_true, Bool.and_eq_true] at hsc
      rcases hsc with h | h
      · have : tail = [] := by simpa using h
        subst this; simp at hlen; omega
      · exact h)
    (fun m o hm => by have := hFact m o hm; rwa [Nat.zero_add] at this) (Q := Post Γ E0 h0 w0 k) (g := tail.length)
    (fun listed a' w' inv hall hH => by
      obtain ⟨E', g1, g2, g3, g4, g5⟩ := hH.out
      have hlisted : listed = seqMask heads.length tail.length := by
        apply Array.ext
        · rw [inv.size]; simp [seqMask]; omega
        · intro i h1 h2
          rcases Nat.lt_or_ge i heads.length with hlt | hge
          · have := hall i hlt
            simp [h1] at this
            simp [seqMask, hlt, this]
          · have := inv.tail i hge (by rw [← inv.size]; exact h1)
            simp [h1] at this
            rw [this]
            simp [seqMask, Array.getElem_append, Nat.not_lt.2 hge]
      refine wpAny_of_seq tail heads.length listed a' w' htl (by rw [hlisted]; exact hseq) ?_
      refine opsX_sound hC hcc tail g1 ⟨g4, fun t p ht => g5 t p ht fun m q hm _ => hall m (List.getElem?_eq_some_iff.1 hm).1⟩ g3 ((hf.trans hf1).trans g2) hkF)
    heads.length (List.range heads.length) (Array.replicate ops.size false) a w1 (by simp) List.nodup_range (fun j => by
      rw [List.mem_range]
      constructor
      · intro hj; exact ⟨hj, getD_in (by simp; omega) (getD_replicate_false _ _)⟩
      · exact fun h => h.1) inv0 half0
  rw [hlen] at main
  exact main

end
end Go.Proofs.Ytepgblhhajdmoaa.Eng
