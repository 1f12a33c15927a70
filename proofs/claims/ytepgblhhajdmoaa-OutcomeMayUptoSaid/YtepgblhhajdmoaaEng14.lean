/-
  THE ENGINE, part 14: calls.
-/
import Derived.Test.YtepgblhhajdmoaaEng13
set_option linter.unusedVariables false
set_option linter.unusedSimpArgs false
namespace Go.Proofs.Ytepgblhhajdmoaa.Eng
open Go

def ArgsRel (E : Env) (w : World) (vs : Array Value) (ps : List PV) : Prop :=
  vs.size = ps.length ∧ ∀ (i : Nat) (v : Value) (p : PV), vs[i]? = some v → ps[i]? = some p → Rep E w v p

/-- what a call ends in -/
def Ends (Γ : Ctx) (E : Env) (h : List AB) (w : World) (kr kp : PV → List AB → Prop) : Ending → World → Prop
  | .returned v, w' => ∃ p E' h', HeapRel Γ E' h' w' ∧ Fr E h w E' h' w' ∧ Rep E' w' v p ∧ kr p h'
  | .panicked chain, w' => ∃ v p E' h', chain = [{ v, recovered := false }] ∧ HeapRel Γ E' h' w' ∧ Fr E h w E' h' w' ∧ Rep E' w' v p ∧ kp p h'
  | .outgrown, _ => False

/-- IN EVERY MEMORY THAT HOLDS THIS the call comes to that. -/
structure CallW (Γ : Ctx) (P : Program) (f : Nat) (ps : List PV) (h : List AB) (kr kp : PV → List AB → Prop) : Prop where
  known : ∃ fn, P.funcs[f]? = some fn ∧ (fn.name == "runtime.NumGoroutine") = false ∧ fn.body.isSome = true
  out : ∀ (E : Env) (w : World) (vs : Array Value), HeapRel Γ E h w → ArgsRel E w vs ps → Calls P f vs w (Ends Γ E h w kr kp)

/-- the same of a call that is handed data and makes data: what it makes is told once for all memories -/
structure PureW (Γ : Ctx) (P : Program) (f : Nat) (ps : List PV) (k : PV → Prop) : Prop where
  out : ∃ p, CallW Γ P f ps [] (fun r h => r = p ∧ h = []) (fun _ _ => False) ∧ k p

section
variable {Γ : Ctx} {P : Program} {E E' : Env} {w w' : World} {h : List AB} {a : Act} {slots : List (Option PV)} {md : Bool}

theorem Ends.mono {kr kr' kp kp' : PV → List AB → Prop} (h1 : ∀ p h, kr p h → kr' p h) (h2 : ∀ p h, kp p h → kp' p h) {e : Ending} {w' : World} (he : Ends Γ E h w kr kp e w') : Ends Γ E h w kr' kp' e w' := by
  cases e with
  | returned v => obtain ⟨p, E', h', a, b, c, d⟩ := he; exact ⟨p, E', h', a, b, c, h1 _ _ d⟩
  | panicked ch => obtain ⟨v, p, E', h', z, a, b, c, d⟩ := he; exact ⟨v, p, E', h', z, a, b, c, h2 _ _ d⟩
  | outgrown => exact he

theorem CallW.mono {f : Nat} {ps : List PV} {kr kr' kp kp' : PV → List AB → Prop} (hc : CallW Γ P f ps h kr kp) (h1 : ∀ p h, kr p h → kr' p h) (h2 : ∀ p h, kp p h → kp' p h) : CallW Γ P f ps h kr' kp' :=
  ⟨hc.known, fun E w vs hh ha => (hc.out E w vs hh ha).mono fun e w' he => Ends.mono h1 h2 he⟩

/-- a part of memory that nobody is handed -/
def cut0 (E : Env) : Env := { E with n := 0 }
theorem agree0 (E : Env) : Agree 0 E (cut0 E) := ⟨fun _ h => h, Nat.le_refl _, fun _ h => absurd h (Nat.not_lt_zero _), fun _ _ h => absurd h (Nat.not_lt_zero _), fun _ h => absurd h (Nat.not_lt_zero _), fun _ h => absurd h (Nat.not_lt_zero _)⟩
theorem heap0 (hh : HeapRel Γ E h w) : HeapRel Γ (cut0 E) [] w :=
  ⟨rfl, hh.K, fun i ab hi => by simp at hi, fun i j ab ab' b hi => by simp at hi, fun b ⟨i, ab, hi, _⟩ => by simp at hi, fun g cs hg => (hh.glob g cs hg).cut (agree0 E) rfl⟩
theorem foot0 {E : Env} {b : Nat} : ¬ Foot E [] b := fun ⟨i, ab, hi, _⟩ => by simp at hi

/-- THE FRAME: what was done beside the call's own memory. -/
theorem unframe (hh : HeapRel Γ E h w) {E1 : Env} (hh1 : HeapRel Γ E1 [] w') (f : Fr (cut0 E) [] w E1 [] w') :
    ∃ E', HeapRel Γ E' h w' ∧ Fr E h w E' h w' ∧ ∀ (v : Value) (p : PV), Rep E1 w' v p → Rep E' w' v p := by
  let E' : Env := { E with K := E1.K }
  have hold : ∀ b, b < w.heap.size → w'.heap[b]? = w.heap[b]? := fun b hb => f.same b hb foot0
  have hx : Ext E w E' w' := ⟨fun b hb => f.ext.K b hb, fun b hb => hold b (hh.K b hb), Nat.le_refl _, fun _ _ => rfl, fun _ _ => Nat.le_refl _, fun _ _ _ _ => rfl, fun _ _ => rfl⟩
  have hblk : ∀ i ab, BlkOf E' i ab = BlkOf E i ab := fun i ab => by cases ab <;> rfl
  have hfoot : ∀ b, Foot E' h b → Foot E h b := fun b ⟨i, ab, hi, hib⟩ => ⟨i, ab, hi, by rw [← hblk]; exact hib⟩
  have hag : Agree 0 E1 E' := ⟨fun _ h => h, Nat.zero_le _, fun _ h => absurd h (Nat.not_lt_zero _), fun _ _ h => absurd h (Nat.not_lt_zero _), fun _ h => absurd h (Nat.not_lt_zero _), fun _ h => absurd h (Nat.not_lt_zero _)⟩
  refine ⟨E', ⟨hh.n, hh1.K, fun i ab hi => ?_, fun i j ab ab' b hi hj h1 h2 => ?_, fun b hf hk => ?_, fun g cs hg => (hh.glob g cs hg).mono hx⟩,
    ⟨f.os, f.tape, f.output, f.size, fun b hb _ => hold b hb, hx, fun b hb => ?_, fun b hb => .inr (hfoot b hb)⟩, fun v p hr => hr.cut hag (hr.none hh1.n)⟩
  · exact (hh.at_ i ab hi).mono hx (hh.lt hi) rfl (fun b hb => hold b (hh.blk_lt hi hb))
  · rw [hblk] at h1 h2; exact hh.apart i j ab ab' b hi hj h1 h2
  · obtain ⟨i, ab, hi, hib⟩ := hfoot b hf
    rcases f.newK b hk with h1 | h1 | h1
    · exact hh.notK b ⟨i, ab, hi, hib⟩ h1
    · have := hh.blk_lt hi hib; omega
    · exact foot0 h1
  · rcases f.newK b hb with h1 | h1 | h1
    · exact .inl h1
    · exact .inr (.inl h1)
    · exact absurd h1 foot0

/-- a call that is handed data, beside whatever is there -/
theorem PureW.known {f : Nat} {ps : List PV} {k : PV → Prop} (hc : PureW Γ P f ps k) : ∃ fn, P.funcs[f]? = some fn ∧ (fn.name == "runtime.NumGoroutine") = false ∧ fn.body.isSome = true := by
  obtain ⟨p, hp, _⟩ := hc.out
  exact hp.known
theorem PureW.at {f : Nat} {ps : List PV} {k : PV → Prop} (hc : PureW Γ P f ps k) (hh : HeapRel Γ E h w) {vs : Array Value} (ha : ArgsRel E w vs ps) (hb : belows 0 ps = true) :
    ∃ p, k p ∧ Calls P f vs w (Ends Γ E h w (fun r h' => r = p ∧ h' = h) fun _ _ => False) := by
  obtain ⟨p, hp, hk⟩ := hc.out
  refine ⟨p, hk, ?_⟩
  have ha0 : ArgsRel (cut0 E) w vs ps := ⟨ha.1, fun i v q hv hq => (ha.2 i v q hv hq).cut (agree0 E) (belows_mem hb q (List.mem_of_getElem? hq))⟩
  refine (hp.out (cut0 E) w vs (heap0 hh) ha0).mono fun e w' he => ?_
  cases e with
  | returned v =>
    obtain ⟨q, E1, h1, a1, a2, a3, rfl, rfl⟩ := he
    obtain ⟨E', b1, b2, b3⟩ := unframe hh a1 a2
    exact ⟨q, E', h, b1, b2, b3 v q a3, rfl, rfl⟩
  | panicked ch => obtain ⟨_, _, _, _, _, _, _, _, hf⟩ := he; exact hf.elim
  | outgrown => exact he.elim

theorem run_callFunc {f : Nat} (hk : ∃ fn, P.funcs[f]? = some fn ∧ (fn.name == "runtime.NumGoroutine") = false ∧ fn.body.isSome = true) (args : Array Value) (w : World) : (callFunc f args).run P w = .ok (.enter f args) w := by
  obtain ⟨fn, hf, hn, hb⟩ := hk
  have h1 : fn.name ≠ "runtime.NumGoroutine" := by simpa using hn
  obtain ⟨c, hc⟩ := Option.isSome_iff_exists.1 hb
  simp [callFunc, hf, h1, hc]

/-- these callers tell the truth -/
structure Calling (Γ : Ctx) (P : Program) (call : CallF) (pcall : PureF) : Prop where
  call : ∀ f ps h kr kp, call f ps h kr kp → CallW Γ P f ps h kr kp
  pcall : ∀ f ps k, pcall f ps k → PureW Γ P f ps k
theorem calling : Calling Γ P (CallW Γ P) (PureW Γ P) := ⟨fun _ _ _ _ _ h => h, fun _ _ _ h => h⟩

theorem ArgsRel.unk {vs : Array Value} {ps : List PV} (h : ArgsRel E w vs ps) : ArgsRel E w vs (ps.map unkA) :=
  ⟨by simpa using h.1, fun i v p hv hp => by
    rw [List.getElem?_map] at hp
    obtain ⟨q, hq, rfl⟩ := Option.map_eq_some_iff.1 hp
    exact (h.2 i v q hv hq).unkA⟩
theorem belows_all {n : Nat} : ∀ {cs : List PV}, (∀ c ∈ cs, c.under n = true) → belows n cs = true
  | [], _ => rfl
  | x :: r, h => by simp only [belows, Bool.and_eq_true]; exact ⟨h x List.mem_cons_self, belows_all fun c hc => h c (List.mem_cons_of_mem _ hc)⟩
theorem unkP_under {n : Nat} {p : PV} (h : p.under n = true) : (unkP p).under n = true := by
  cases p with
  | d x => rfl
  | _ => exact h
theorem unkA_under {n : Nat} {p : PV} (h : p.under n = true) : (unkA p).under n = true := by
  cases p with
  | d x => rfl
  | agg cs =>
    simp only [PV.under] at h
    simp only [unkA, PV.under]
    refine belows_all fun c hc => ?_
    obtain ⟨p, hp, rfl⟩ := List.mem_map.1 hc
    exact unkP_under (belows_mem h p hp)
  | _ => exact h
theorem belows_unk {n : Nat} {cs : List PV} (h : belows n cs = true) : belows n (cs.map unkA) = true :=
  belows_all fun c hc => by
    obtain ⟨p, hp, rfl⟩ := List.mem_map.1 hc
    exact unkA_under (belows_mem h p hp)

theorem callX_sound {call : CallF} {pcall : PureF} (hcc : Calling Γ P call pcall) (hh : HeapRel Γ E h w) {f : Nat} {vs : Array Value} {ps : List PV} (ha : ArgsRel E w vs ps) {kt kp : PV → List AB → Prop} (hk : callX Γ md call pcall f ps h kt kp) :
    (∃ fn, P.funcs[f]? = some fn ∧ (fn.name == "runtime.NumGoroutine") = false ∧ fn.body.isSome = true) ∧ Calls P f vs w (Ends Γ E h w kt kp) := by
  unfold callX at hk
  split at hk
  · replace hk := shutL_sound ps hh ha.1 ha.2 hk
    obtain ⟨qs, E1, h1, g1, g2, g3, g4, _, hk⟩ := hk
    replace hk := (need_iff _ _).1 hk
    obtain ⟨hb, hk⟩ := hk
    replace hk := hcc.pcall _ _ _ hk
    obtain ⟨p, hp, hc⟩ := hk.at g1 ⟨g3, g4⟩ hb
    refine ⟨hk.known, hc.mono fun e w' he => ?_⟩
    cases e with
    | returned v =>
      obtain ⟨q, E2, h2, a1, a2, a3, rfl, rfl⟩ := he
      exact ⟨q, E2, _, a1, g2.trans a2, a3, hp⟩
    | panicked ch => obtain ⟨_, _, _, _, _, _, _, _, hf⟩ := he; exact hf.elim
    | outgrown => exact he.elim
  · replace hk := hcc.call _ _ _ _ _ hk
    exact ⟨hk.known, hk.out E w vs hh ha⟩

theorem args_rel (hh : HeapRel Γ E h w) (hs : SlotsRel E w a.tmps slots) {xs : Array Operand} {k : List PV → Prop} (hk : withOs Γ slots xs.toList k) : ∃ ps, ArgsRel E w (xs.map a.eval) ps ∧ k ps := by
  obtain ⟨ps, hl, hr, hk⟩ := withOs_rep hh hs hk
  refine ⟨ps, ⟨by rw [Array.size_map, ← Array.length_toList]; exact hl.symm, fun i v p hv hp => ?_⟩, hk⟩
  rw [Array.getElem?_map] at hv
  obtain ⟨x, hx, rfl⟩ := Option.map_eq_some_iff.1 hv
  exact hr i x p (by simpa using hx) hp

theorem args_append {vs us : Array Value} {ps qs : List PV} (h1 : ArgsRel E w vs ps) (h2 : ArgsRel E w us qs) : ArgsRel E w (vs ++ us) (ps ++ qs) := by
  refine ⟨by simp [h1.1, h2.1], fun i v p hv hp => ?_⟩
  rcases Nat.lt_or_ge i vs.size with hlt | hge
  · rw [Array.getElem?_append_left hlt] at hv
    rw [List.getElem?_append_left (by rw [← h1.1]; exact hlt)] at hp
    exact h1.2 i v p hv hp
  · rw [Array.getElem?_append_right hge] at hv
    rw [List.getElem?_append_right (by rw [← h1.1]; exact hge), ← h1.1] at hp
    exact h2.2 _ v p hv hp

/-- ONE OPERATION. -/
theorem opV_sound (hC : CtxOK Γ P) {call : CallF} {pcall : PureF} (hcc : Calling Γ P call pcall) (hh : HeapRel Γ E h w) (hs : SlotsRel E w a.tmps slots) {c : Bool} {o : Oper} {kt kp : PV → List AB → Prop} (hk : opV Γ c call pcall slots h o kt kp)
    {next : Act → World → Prop} {Q : Exit → Act → World → Prop}
    (hn : ∀ (v : Value) (p : PV) (E' : Env) (h' : List AB) (w' : World), HeapRel Γ E' h' w' → Fr E h w E' h' w' → Rep E' w' v p → kt p h' → next (a.put o.dst v) w')
    (hp : ∀ (v : Value) (p : PV) (E' : Env) (h' : List AB) (w' : World), HeapRel Γ E' h' w' → Fr E h w E' h' w' → Rep E' w' v p → kp p h' → Q (.panic [{ v, recovered := false }]) a w') : o.wp P a w next Q := by
  have enter : ∀ {f : Nat} {vs : Array Value} {ps : List PV}, (execOp a.eval o).run P w = (callFunc f vs).run P w → ArgsRel E w vs ps → callX Γ c call pcall f ps h kt kp → o.wp P a w next Q := by
    intro f vs ps hrun ha hk
    obtain ⟨hkn, hc⟩ := callX_sound hcc hh ha hk
    unfold Oper.wp
    rw [hrun, run_callFunc hkn, Oper.upon_enter]
    refine hc.mono fun e w' he => ?_
    cases e with
    | returned v => obtain ⟨p, E', h', a1, a2, a3, a4⟩ := he; exact hn v p E' h' w' a1 a2 a3 a4
    | panicked ch => obtain ⟨v, p, E', h', rfl, a1, a2, a3, a4⟩ := he; exact hp v p E' h' w' a1 a2 a3 a4
    | outgrown => exact he.elim
  unfold opV at hk
  split at hk
  · rename_i cl hop
    replace hk := args_rel hh hs hk
    obtain ⟨ps, ha, hk⟩ := hk
    split at hk
    · rename_i b hb
      obtain ⟨v, p, E', h', w', g1, g2, g3, g4, g5⟩ := builtinX_sound hC hh ha.1 ha.2 hk
      unfold Oper.wp
      have : (execOp a.eval o).run P w = .ok (.value v) w' := by simp [execOp, hop, resolve, hb, invoke, g4]
      rw [this]
      exact hn v p E' h' w' g1 g2 g3 g5
    · rename_i f hf
      replace hk := withO_rep hh hs hk
      obtain ⟨fv, hfv, hk⟩ := hk
      split at hk
      · rename_i g
        refine enter (vs := cl.args.map a.eval) ?_ ha hk
        have : a.eval f = .func (.func g) #[] #[] := by
          generalize a.eval f = u at hfv
          cases hfv with | d hfv => cases hfv with | fn => rfl
        simp [execOp, hop, resolve, hf, this, Deferred.ofValue, invoke]
      · rename_i g caps
        rw [spine_eq] at hk
        generalize hu : a.eval f = u at hfv
        cases hfv with | clo _ us _ hl hr =>
        refine enter (vs := cl.args.map a.eval ++ us) ?_ (args_append ha ⟨hl, hr⟩) hk
        simp [execOp, hop, resolve, hf, hu, Deferred.ofValue, invoke]
      · exact hk.elim
    · exact hk.elim
  · rename_i op hnc
    obtain ⟨v, p, E', h', w', g1, g2, g3, ⟨nx, hnx, hrun⟩, g5⟩ := pureX_sound hC hh hs hk
    unfold Oper.wp
    rw [hrun o rfl]
    rcases hnx with rfl | ⟨rfl, rfl⟩
    · exact hn v p E' h' w' g1 g2 g3 g5
    · exact hn undef p E' h' w' g1 g2 g3 g5

end
end Go.Proofs.Ytepgblhhajdmoaa.Eng
