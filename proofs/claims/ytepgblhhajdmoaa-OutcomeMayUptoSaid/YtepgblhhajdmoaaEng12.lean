/-
  THE ENGINE, part 12: every operation that is no call.
-/
import Derived.Test.YtepgblhhajdmoaaEng11
set_option linter.unusedVariables false
set_option linter.unusedSimpArgs false
namespace Go.Proofs.Ytepgblhhajdmoaa.Eng
open Go

section
variable {Γ : Ctx} {P : Program} {E E' : Env} {w w' : World} {h : List AB} {a : Act} {slots : List (Option PV)} {md : Bool}

theorem storeX_sound (hC : CtxOK Γ P) (hh : HeapRel Γ E h w) {c : Bool} {T : Nat} {va v : Value} {pa p : PV} {k : List AB → Prop} (hva : Rep E w va pa) (hv : Rep E w v p) (hk : storeX Γ c h T pa p k) :
    ∃ E' h' w', HeapRel Γ E' h' w' ∧ Fr E h w E' h' w' ∧ (Instr.storeAt T va v).run P w = .ok () w' ∧ k h' := by
  unfold storeX at hk
  replace hk := tinfo_elim hC hk
  obtain ⟨i, hT, hk⟩ := hk
  replace hk := (need_iff _ _).1 hk
  obtain ⟨hc, hk⟩ := hk
  simp only [Bool.and_eq_true, beq_iff_eq] at hc
  obtain ⟨hsz, h1⟩ := hc
  split at hk
  · rename_i b off
    cases hva with | box _ _ hb =>
    simp only [nth_eq] at hk
    split at hk
    · rename_i U cs hx
      replace hk := (need_iff _ _).1 hk
      obtain ⟨hle, hk⟩ := hk
      rw [fcells_eq, upd_eq] at hk
      obtain ⟨w', g1, g2, g3⟩ := store_box hh hT hx hv h1 hsz (by simpa using hle)
      exact ⟨E, _, w', g1, g2, g3, hk⟩
    · exact hk.elim
  · rename_i b n j off
    obtain ⟨ha, hb1, hcr⟩ := cells_rep hv h1
    replace hk := frzs_sound p.cells v.cells.toList _ hh (by simpa using ha) (fun i v c hv hc => hcr i v c (by simpa using hv) hc) hk
    obtain ⟨ds, E1, h1', hh1, f1, hl, hr, hk⟩ := hk
    have hva1 := hva.mono f1.ext
    cases hva1 with | rowel g _ _ _ _ cp hb hn hrv =>
    simp only [nth_eq] at hk
    split at hk
    · rename_i U sz xs hx
      replace hk := (need_iff _ _).1 hk
      obtain ⟨hxl, hk⟩ := hk
      have hxl : xs.length = n := by simpa using hxl
      subst hxl
      · replace hk := elemAt_elim hk
        obtain ⟨e, hj, hk⟩ := hk
        replace hk := (need_iff _ _).1 hk
        obtain ⟨hle, hk⟩ := hk
        rw [fdvs_eq, setK_eq, upd_eq] at hk
        obtain ⟨e1, _, _, e4, _⟩ := hh1.at_ b _ hx
        have hel := e4 e (List.mem_of_getElem? hj)
        have hle : off + i.size ≤ e.length := by simpa using hle
        obtain ⟨E', w', g1, g2, g3⟩ := store_rowel hh1 hT hx hj (new := ds) (off := off) (by omega) (by omega) (v := v) (by omega) (fun k u d hu hd => hr k u d (by simpa using hu) hd) hrv
        rw [e1]
        exact ⟨E', _, w', g1, f1.trans g2, g3, hk⟩
    · exact hk.elim
  · exact hk.elim

/-- what carrying out one operation leaves behind -/
def OpRuns (P : Program) (a : Act) (w : World) (op : Op) (v : Value) (w' : World) : Prop :=
  ∃ nx : Next, (nx = .value v ∨ (nx = .skip ∧ v = undef)) ∧ ∀ o : Oper, o.op = op → (execOp a.eval o).run P w = .ok nx w'

theorem OpRuns.val {op : Op} {v : Value} {w' : World} (h : ∀ o : Oper, o.op = op → (execOp a.eval o).run P w = .ok (.value v) w') : OpRuns P a w op v w' := ⟨_, .inl rfl, h⟩

theorem pureX_sound (hC : CtxOK Γ P) (hh : HeapRel Γ E h w) (hs : SlotsRel E w a.tmps slots) {c : Bool} {op : Op} {kt : PV → List AB → Prop} (hk : pureX Γ c slots h op kt) :
    ∃ v p E' h' w', HeapRel Γ E' h' w' ∧ Fr E h w E' h' w' ∧ Rep E' w' v p ∧ OpRuns P a w op v w' ∧ kt p h' := by
  have still : ∀ {v : Value} {p : PV}, Rep E w v p → OpRuns P a w op v w → kt p h → ∃ v p E' h' w', HeapRel Γ E' h' w' ∧ Fr E h w E' h' w' ∧ Rep E' w' v p ∧ OpRuns P a w op v w' ∧ kt p h' :=
    fun h1 h2 h3 => ⟨_, _, E, h, w, hh, Fr.refl _ _ _, h1, h2, h3⟩
  cases op <;> simp only [pureX] at hk <;> (try exact hk.elim)
  case move x =>
    obtain ⟨p, hp, hk⟩ := withO_rep hh hs hk
    exact still hp (.val fun o ho => by simp [execOp, ho]) hk
  case assign x =>
    obtain ⟨p, hp, hk⟩ := withO_rep hh hs hk
    exact still hp (.val fun o ho => by simp [execOp, ho]) hk
  case pick b x y =>
    replace hk := withO_rep hh hs hk
    obtain ⟨p, hp, hk⟩ := hk
    split at hk
    · rename_i b' hbv
      rw [splitB_eq] at hk
      have hb : a.eval b = .bool b' := bv_sym hp hbv
      cases b' with
      | true =>
        obtain ⟨q, hq, hk⟩ := withO_rep hh hs hk
        exact still hq (.val fun o ho => by simp [execOp, ho, hb, asBool]) hk
      | false =>
        obtain ⟨q, hq, hk⟩ := withO_rep hh hs hk
        exact still hq (.val fun o ho => by simp [execOp, ho, hb, asBool]) hk
    · rename_i b' hbv
      have hb : a.eval b = .bool b' := bv_known hp hbv
      cases b' with
      | true =>
        obtain ⟨q, hq, hk⟩ := withO_rep hh hs hk
        exact still hq (.val fun o ho => by simp [execOp, ho, hb, asBool]) hk
      | false =>
        obtain ⟨q, hq, hk⟩ := withO_rep hh hs hk
        exact still hq (.val fun o ho => by simp [execOp, ho, hb, asBool]) hk
    · exact hk.elim
  case alloc T =>
    replace hk := tinfo_elim hC hk
    obtain ⟨i, hT, hk⟩ := hk
    rw [fcells_eq, lenK_eq, snoc_eq, Nat.zero_add] at hk
    obtain ⟨E', v, w', g1, g2, g3, g4⟩ := alloc_sound hC hh hT
    exact ⟨v, _, E', _, w', g1, g2, g4, .val fun o ho => by simp [execOp, ho, g3], hk⟩
  case box T x =>
    replace hk := withO_rep hh hs hk
    obtain ⟨p, hp, hk⟩ := hk
    replace hk := tinfo_elim hC hk
    obtain ⟨i, hT, hk⟩ := hk
    replace hk := (need_iff _ _).1 hk
    obtain ⟨hc, hk⟩ := hk
    simp only [Bool.and_eq_true, beq_iff_eq] at hc
    rw [fcells_eq, lenK_eq, snoc_eq, Nat.zero_add] at hk
    obtain ⟨E', g1, g2, g3, g4⟩ := box_sound hC hh (T := T) hp hc.2
    exact ⟨_, _, E', _, _, g1, g2, g4, .val fun o ho => by simp [execOp, ho, g3], hk⟩
  case build T ps =>
    replace hk := tinfo_elim hC hk
    obtain ⟨i, hT, hk⟩ := hk
    split at hk
    · rename_i fs hi
      replace hk := (need_iff _ _).1 hk
      obtain ⟨hall, hk⟩ := hk
      replace hk := withParts_rep hh hs hk
      obtain ⟨pl, hl, hf, hr, hk⟩ := hk
      obtain ⟨vs', cs', g1, g2, g3⟩ := build_sound (E := E) (w := w) hC hT hi hall (l := ps.toList.map fun x => (x.1, a.eval x.2)) (by rw [hf, List.map_map]; rfl)
        (fun i v p hv hp => by
          rw [List.getElem?_map] at hv
          obtain ⟨x, hx, rfl⟩ := Option.map_eq_some_iff.1 hv
          exact hr i _ p (by rw [List.getElem?_map, hx]; rfl) hp) hk
      refine still g2 (.val fun o ho => ?_) g3
      have e : ((ps.toList.map fun x => (x.1, a.eval x.2)).toArray) = ps.map fun x => (x.1, a.eval x.2) := by
        apply Array.ext'; simp
      rw [e] at g1
      simp [execOp, ho, g1]
    · exact hk.elim
  case buildSlice T n ps =>
    replace hk := tinfo_elim hC hk
    obtain ⟨i, hT, hk⟩ := hk
    split at hk
    · rename_i e hi
      replace hk := tinfo_elim hC hk
      obtain ⟨u, hU, hk⟩ := hk
      replace hk := withParts_rep hh hs hk
      obtain ⟨pl, hl, hf, hr, hk⟩ := hk
      replace hk := (need_iff _ _).1 hk
      obtain ⟨hc, hk⟩ := hk
      simp only [Bool.and_eq_true, beq_iff_eq, Nat.blt_eq, Nat.ble_eq] at hc
      obtain ⟨⟨⟨h1, h2⟩, h3⟩, h4⟩ := hc
      obtain ⟨es, E', h', w', v, g1, g2, g3, g4, g5, g6⟩ := buildSlice_sound hC hh hT hi hU hl hf hr h1 h2 h3 h4 hk
      rw [frows_eq, lenK_eq, snoc_eq, Nat.zero_add] at g6
      refine ⟨v, _, E', _, w', g1, g2, g4, .val fun o ho => ?_, g6⟩
      have e : ((ps.toList.map fun x => (x.1, a.eval x.2)).toArray) = ps.map fun x => (x.1, a.eval x.2) := by
        apply Array.ext'; simp
      rw [e] at g5
      simp [execOp, ho, g5]
    · exact hk.elim
  case load T x =>
    replace hk := withO_rep hh hs hk
    obtain ⟨p, hp, hk⟩ := hk
    obtain ⟨u, q, g1, g2, g3⟩ := loadX_sound hC hh hp hk
    exact still g2 (.val fun o ho => by simp [execOp, ho, g1]) g3
  case store T x y =>
    replace hk := withO_rep hh hs hk
    obtain ⟨p, hp, hk⟩ := hk
    replace hk := withO_rep hh hs hk
    obtain ⟨q, hq, hk⟩ := hk
    obtain ⟨E', h', w', g1, g2, g3, g4⟩ := storeX_sound hC hh hp hq hk
    exact ⟨undef, .undef, E', h', w', g1, g2, .undef, ⟨.skip, .inr ⟨rfl, rfl⟩, fun o ho => by simp [execOp, ho, g3]⟩, g4⟩
  case fieldAddr T x f =>
    replace hk := withO_rep hh hs hk
    obtain ⟨p, hp, hk⟩ := hk
    obtain ⟨u, q, g1, g2, g3⟩ := fieldAddrX_sound (P := P) hC hp hk
    exact still g2 (.val fun o ho => by simp [execOp, ho, g1]) g3
  case field T x f =>
    replace hk := withO_rep hh hs hk
    obtain ⟨p, hp, hk⟩ := hk
    obtain ⟨u, q, g1, g2, g3⟩ := fieldX_sound (P := P) hC hp hk
    exact still g2 (.val fun o ho => by simp [execOp, ho, g1]) g3
  case indexAddr T x j =>
    replace hk := withO_rep hh hs hk
    obtain ⟨p, hp, hk⟩ := hk
    replace hk := withO_rep hh hs hk
    obtain ⟨r, hr, hk⟩ := hk
    obtain ⟨u, q, g1, g2, g3⟩ := indexAddrX_sound (P := P) hC hh hp hr hk
    exact still g2 (.val fun o ho => by simp [execOp, ho, g1]) g3
  case index T x j =>
    replace hk := withO_rep hh hs hk
    obtain ⟨p, hp, hk⟩ := hk
    replace hk := withO_rep hh hs hk
    obtain ⟨r, hr, hk⟩ := hk
    obtain ⟨u, q, g1, g2, g3⟩ := indexX_sound (P := P) hC hp hr hk
    exact still g2 (.val fun o ho => by simp [execOp, ho, g1]) g3
  case binOp op T x y U =>
    replace hk := withO_rep hh hs hk
    obtain ⟨p, hp, hk⟩ := hk
    replace hk := withO_rep hh hs hk
    obtain ⟨r, hr, hk⟩ := hk
    obtain ⟨u, q, g0, g1, g2, g3⟩ := binX_sound (P := P) (x := x) (y := y) hC hp hr hk
    exact still g2 (.val fun o ho => by simp [execOp, ho, g0, g1]) g3
  case unOp op T x =>
    replace hk := withO_rep hh hs hk
    obtain ⟨p, hp, hk⟩ := hk
    obtain ⟨u, q, g1, g2, g3⟩ := unX_sound (P := P) hp hk
    exact still g2 (.val fun o ho => by simp [execOp, ho, g1]) g3
  case convert s t x =>
    replace hk := withO_rep hh hs hk
    obtain ⟨p, hp, hk⟩ := hk
    obtain ⟨u, q, E', w', g1, g2, g3, g4, g5⟩ := convX_sound hC hh hp hk
    exact ⟨u, q, E', h, w', g1, g2, g4, .val fun o ho => by simp [execOp, ho, g3], g5⟩
  case makeInterface T x =>
    replace hk := tinfo_elim hC hk
    obtain ⟨i, hT, hk⟩ := hk
    split at hk
    · exact hk.elim
    · rename_i hni
      obtain ⟨p, hp, hk⟩ := withO_rep hh hs hk
      refine still (.ifc T _ p hp) (.val fun o ho => ?_) hk
      obtain ⟨d, hd, hkd⟩ := hT.under'
      have : ∀ m, d ≠ .interface m := fun m e => by subst e; exact hni hkd.symm
      cases d <;> first | exact absurd rfl (this _) | simp [execOp, ho, Instr.makeInterface, run_underlying hd]
  case extract x j =>
    replace hk := withO_rep hh hs hk
    obtain ⟨p, hp, hk⟩ := hk
    split at hk
    · rename_i vs
      rw [nth_eq] at hk
      split at hk
      · rename_i q hq
        generalize hu : a.eval x = u at hp
        cases hp with | tup va _ hl hr =>
        have hj : j < va.size := by rw [hl]; exact (List.getElem?_eq_some_iff.1 hq).1
        refine still (hr j va[j] q (Array.getElem?_eq_getElem hj) hq) (.val fun o ho => ?_) hk
        simp [execOp, ho, hu, Instr.extract, hj]
      · exact hk.elim
    · exact hk.elim
  case nilCheck x =>
    replace hk := withO_rep hh hs hk
    obtain ⟨p, hp, hk⟩ := hk
    split at hk
    all_goals first
      | exact hk.elim
      | (refine still hp (.val fun o ho => ?_) hk
         generalize hu : a.eval x = u at hp
         cases hp <;> (try (rename_i hp; cases hp)) <;> simp [execOp, ho, hu])
  case makeFunc fn first caps =>
    cases fn with
    | func f =>
      simp only [pureX] at hk
      replace hk := (need_iff _ _).1 hk
      obtain ⟨h0, hk⟩ := hk
      have hf : first.map a.eval = #[] := by apply Array.eq_empty_of_size_eq_zero; simpa using h0
      replace hk := withOs_rep hh hs hk
      obtain ⟨vs, hl, hr, hk⟩ := hk
      split at hk
      · have hc : caps.map a.eval = #[] := by apply Array.eq_empty_of_size_eq_zero; rw [Array.size_map, ← Array.length_toList]; exact hl.symm
        exact still (.d (.fn f)) (.val fun o ho => by simp [execOp, ho, Instr.makeFunc, hf, hc]) hk
      · refine still (.clo f (caps.map a.eval) vs (by rw [Array.size_map, ← Array.length_toList]; exact hl.symm) (fun i v p hv hp => ?_)) (.val fun o ho => by simp [execOp, ho, Instr.makeFunc, hf]) hk
        rw [Array.getElem?_map] at hv
        obtain ⟨x, hx, rfl⟩ := Option.map_eq_some_iff.1 hv
        exact hr i x p (by simpa using hx) hp
    | _ => simp only [pureX] at hk; exact hk.elim
  case slice T x lo hi mx =>
    cases mx with
    | some m => simp only [pureX] at hk; exact hk.elim
    | none =>
      simp only [pureX] at hk
      replace hk := withO_rep hh hs hk
      obtain ⟨p, hp, hk⟩ := hk
      replace hk := withOO_elim hh hs hk
      obtain ⟨pl, l1, l2, hk⟩ := hk
      replace hk := withOO_elim hh hs hk
      obtain ⟨ph, h1, h2, hk⟩ := hk
      have hb : ∀ (o : Option Operand) (q : Option PV), (∀ x, o = some x → ∃ r, q = some r ∧ Rep E w (a.eval x) r) → (o = none → q = none) → BoundRel E w (o.map a.eval) q := by
        intro o q e1 e2
        cases o with
        | none => exact e2 rfl
        | some x => exact e1 x rfl
      obtain ⟨r, s, E', h', g1, g2, g3, g4, g5⟩ := sliceX_sound hC hh hp (hb lo pl l1 l2) (hb hi ph h1 h2) hk
      exact ⟨r, s, E', h', w, g1, g2, g4, .val fun o ho => by simp [execOp, ho, g3], g5⟩
  case makeSlice T n m =>
    replace hk := withO_rep hh hs hk
    obtain ⟨p, hp, hk⟩ := hk
    replace hk := withO_rep hh hs hk
    obtain ⟨q, hq, hk⟩ := hk
    replace hp := hp.unk
    replace hq := hq.unk
    generalize unkP p = p at hp hk
    generalize unkP q = q at hq hk
    split at hk
    · rename_i n' m'
      replace hk := tinfo_elim hC hk
      obtain ⟨i, hT, hk⟩ := hk
      split at hk
      · rename_i e hi
        replace hk := tinfo_elim hC hk
        obtain ⟨u, hU, hk⟩ := hk
        replace hk := (need_iff _ _).1 hk
        obtain ⟨hc0, hk⟩ := hk
        replace hk := (need_iff _ _).1 hk
        obtain ⟨hc, hk⟩ := hk
        simp only [Bool.and_eq_true, beq_iff_eq, decide_eq_true_eq, Nat.blt_eq, fits, Nat.ble_eq] at hc hc0
        obtain ⟨⟨h1, h2⟩, h3⟩ := hc
        obtain ⟨h4, h5⟩ := hc0
        subst h1
        rw [frows_eq, lenK_eq, snoc_eq, Nat.zero_add] at hk
        obtain ⟨E', w', v, g1, g2, g3, g4⟩ := make_sound hC hh hT hi hU h3 h4 h5
        refine ⟨v, _, E', _, w', g1, g2, g3, .val fun o ho => ?_, hk⟩
        have e1 : a.eval n = .int .i64 n' := by
          generalize a.eval n = u at hp
          cases hp with | d hp => cases hp with | int => rfl
        have e2 : a.eval m = .int .i64 n' := by
          generalize a.eval m = u at hq
          cases hq with | d hq => cases hq with | int => rfl
        have e3 : ((n'.toNat : Nat) : Int) = n' := Int.toNat_of_nonneg h2
        rw [e3] at g4
        simp [execOp, ho, e1, e2, g4]
      · exact hk.elim
    · exact hk.elim

end
end Go.Proofs.Ytepgblhhajdmoaa.Eng
