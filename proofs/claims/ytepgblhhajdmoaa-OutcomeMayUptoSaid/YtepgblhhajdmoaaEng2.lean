/-
  THE ENGINE, part 2: operations that read: what was reckoned of them is what the machine comes to.
-/
import Derived.Test.YtepgblhhajdmoaaEng1
set_option linter.unusedVariables false
set_option linter.unusedSimpArgs false
namespace Go.Proofs.Ytepgblhhajdmoaa.Eng
open Go

section
variable {β : Sort _}
theorem fnat_eq (n : Nat) (k : Nat → β) : fnat n k = k n := by unfold fnat; split <;> rfl
theorem fint_eq (c : Bool) (n : Int) (k : Int → β) : fint c n k = k n := by
  unfold fint; split
  · rfl
  · split <;> exact fnat_eq _ _
theorem fbool_eq (c b : Bool) (k : Bool → β) : fbool c b k = k b := by unfold fbool; split <;> (try rfl); split <;> rfl
theorem fu8_eq (b : UInt8) (k : UInt8 → β) : fu8 b k = k b := by unfold fu8; rw [fnat_eq, UInt8.ofNat_toNat]
theorem fbytes_eq : ∀ (s : List UInt8) (k : List UInt8 → β), fbytes s k = k s
  | [], k => rfl
  | b :: r, k => by unfold fbytes; rw [fu8_eq, fbytes_eq r]
theorem fstr_eq (c : Bool) (s : List UInt8) (k : List UInt8 → β) : fstr c s k = k s := by
  unfold fstr; split
  · rfl
  · exact fbytes_eq _ _
theorem fdv_eq (c : Bool) (v : DV) (k : DV → β) : fdv c v k = k v := by
  unfold fdv; split
  · rfl
  · split
    · exact fint_eq _ _ _
    · exact fint_eq _ _ _
    · exact fbool_eq _ _ _
    · exact fbool_eq _ _ _
    · exact fstr_eq _ _ _
    · rfl
theorem fdvs_eq (c : Bool) : ∀ (l : List DV) (k : List DV → β), fdvs c l k = k l
  | [], k => rfl
  | b :: r, k => by unfold fdvs; rw [fdv_eq, fdvs_eq c r]
theorem fels_eq (c : Bool) : ∀ (l : List (List DV)) (k : List (List DV) → β), fels c l k = k l
  | [], k => rfl
  | b :: r, k => by unfold fels; rw [fdvs_eq, fels_eq c r]
theorem frows_eq (c : Bool) (l : List (List DV)) (k : List (List DV) → β) : frows c l k = k l := by
  unfold frows; split
  · rfl
  · exact fels_eq _ _ _
theorem fcell_eq (c : Bool) (v : PV) (k : PV → β) : fcell c v k = k v := by
  unfold fcell; split
  · rfl
  · split
    · exact fdv_eq _ _ _
    · rfl
theorem fcells_eq (c : Bool) : ∀ (l : List PV) (k : List PV → β), fcells c l k = k l
  | [], k => rfl
  | b :: r, k => by unfold fcells; rw [fcell_eq, fcells_eq c r]
theorem fpv_eq (c : Bool) (v : PV) (k : PV → β) : fpv c v k = k v := by
  unfold fpv; split
  · exact fcells_eq _ _ _
  · split
    · rfl
    · split
      · exact frows_eq _ _ _
      · exact fdv_eq _ _ _
  · rfl
theorem spine_eq {α : Type} : ∀ (l : List α) (k : List α → β), spine l k = k l
  | [], k => rfl
  | b :: r, k => by unfold spine; rw [spine_eq r]
theorem takeK_eq {α : Type} : ∀ (n : Nat) (l : List α) (k : List α → β), takeK n l k = k (l.take n)
  | 0, l, k => by unfold takeK; simp
  | n + 1, [], k => by unfold takeK; simp
  | n + 1, b :: r, k => by unfold takeK; rw [takeK_eq n r]; simp
theorem lenK_eq {α : Type} (c : Bool) : ∀ (l : List α) (n : Nat) (k : Nat → β), lenK c l n k = k (n + l.length)
  | [], n, k => by
    unfold lenK; split
    · exact fnat_eq _ _
    · rfl
  | b :: r, n, k => by unfold lenK; rw [lenK_eq c r]; simp [Nat.add_assoc, Nat.add_comm 1]
theorem upd_eq {α : Type} : ∀ (l : List α) (n : Nat) (v : α) (k : List α → β), upd l n v k = k (l.set n v)
  | [], n, v, k => by unfold upd; simp
  | b :: r, 0, v, k => by unfold upd; simp
  | b :: r, n + 1, v, k => by unfold upd; rw [upd_eq r]; simp
theorem snoc_eq {α : Type} : ∀ (l : List α) (v : α) (k : List α → β), snoc l v k = k (l ++ [v])
  | [], v, k => rfl
  | b :: r, v, k => by unfold snoc; rw [snoc_eq r]; rfl
end
theorem splitB_eq {c : Bool} (b : Bool) (k : Bool → Prop) : splitB c b k = k b := by
  cases c
  · refine propext ⟨fun h => ?_, fun h => ⟨fun e => by rw [← e]; exact h, fun e => by rw [← e]; exact h⟩⟩
    cases b with
    | true => exact h.yes rfl
    | false => exact h.no rfl
  · cases b <;> rfl
theorem need_iff {c : Bool} (b : Bool) (k : Prop) : need c b k ↔ b = true ∧ k := by
  cases c
  · exact ⟨fun h => ⟨h.is, h.then_⟩, fun h => ⟨h.1, h.2⟩⟩
  · cases b with
    | true => exact ⟨fun h => ⟨rfl, h⟩, fun h => h.2⟩
    | false => exact ⟨fun h => (nomatch (show Bad 0 from h)), fun h => (nomatch h.1)⟩
theorem lenC_eq {α : Type} {β : Sort _} (c : Bool) (l : List α) (k : Nat → β) : lenC c l k = k l.length := by
  cases c
  · rfl
  · unfold lenC; simp only [lenK_eq, Nat.zero_add]
theorem setK_eq {α : Type} {β : Sort _} (c : Bool) (l : List α) (n : Nat) (v : α) (k : List α → β) : setK c l n v k = k (l.set n v) := by
  cases c
  · rfl
  · unfold setK; simp only [upd_eq]
theorem Bad.elim {n : Nat} {p : Prop} (h : Bad n) : p := nomatch h
theorem BadO.elim {x : Operand} {p : Prop} (h : BadO x) : p := nomatch h

theorem DV.ofV_rep {K : Nat → Prop} {w : World} {v : Value} {x : DV} (h : DV.ofV v = some x) : RepD K w v x := by
  unfold DV.ofV at h
  split at h
  case h_3 =>
    split at h
    · rename_i hb
      simp at h; subst h
      exact .str _ (Nat.le_of_ble_eq_true hb)
    · cases h
  all_goals (simp at h; try (subst h; constructor))
theorem dvsOfV_rep {K : Nat → Prop} {w : World} : ∀ {l : List Value} {xs : List DV}, dvsOfV l = some xs → l.length = xs.length ∧ ∀ (i : Nat) (v : Value) (x : DV), l[i]? = some v → xs[i]? = some x → RepD K w v x
  | [], xs, h => by simp [dvsOfV] at h; subst h; simp
  | v :: r, xs, h => by
    unfold dvsOfV at h
    split at h
    · rename_i x l h1 h2
      simp at h; subst h
      obtain ⟨e, ih⟩ := dvsOfV_rep (K := K) (w := w) h2
      refine ⟨by simp [e], fun i v' x' hv hx => ?_⟩
      cases i with
      | zero => simp at hv hx; subst hv; subst hx; exact DV.ofV_rep h1
      | succ i => exact ih i v' x' (by simpa using hv) (by simpa using hx)
    · simp at h

theorem agg_dvs {E : Env} {w : World} {vs : Array Value} {xs : List DV} (hl : vs.size = xs.length) (h : ∀ (i : Nat) (v : Value) (x : DV), vs[i]? = some v → xs[i]? = some x → RepD E.K w v x) :
    Rep E w (.agg vs) (.agg (xs.map .d)) := by
  refine .agg vs _ (by simpa using hl) (fun c hc => ?_) (fun i v c hv hc => ?_)
  · simp at hc; obtain ⟨x, _, rfl⟩ := hc; rfl
  · simp at hc; obtain ⟨x, hx, rfl⟩ := hc; exact .d (h i v x hv hx)

theorem PV.ofV_rep {E : Env} {w : World} {v : Value} {p : PV} (h : PV.ofV v = some p) : Rep E w v p := by
  unfold PV.ofV at h
  split at h
  · rename_i cs
    split at h
    · rename_i l hl
      simp at h; subst h
      obtain ⟨e, ih⟩ := dvsOfV_rep (K := E.K) (w := w) hl
      exact agg_dvs (by simpa using e) (fun i v x hv hx => ih i v x (by simpa using hv) hx)
    · simp at h
  · split at h
    · rename_i x hx
      simp at h; subst h
      exact .d (DV.ofV_rep hx)
    · simp at h

section
variable {Γ : Ctx} {P : Program} {E : Env} {w : World} {h : List AB} {a : Act} {slots : List (Option PV)} {md : Bool}

theorem evalO_rep (hh : HeapRel Γ E h w) (hs : SlotsRel E w a.tmps slots) {x : Operand} {p : PV} (hx : evalO Γ slots x = some p) : Rep E w (a.eval x) p := by
  cases x with
  | tmp t =>
    simp only [evalO, nth_eq] at hx
    split at hx
    · rename_i v hv
      simp at hx; subst hx
      obtain ⟨u, hu, hr⟩ := hs.2 t v hv
      have : a.eval (.tmp t) = u := by simp [Act.eval, Array.getD_eq_getD_getElem?, hu]
      rw [this]; exact hr
    · simp at hx
  | const v => exact PV.ofV_rep hx
  | global g =>
    simp only [evalO] at hx
    split at hx
    · rename_i cs hc; simp at hx; subst hx; exact hh.glob g cs hc
    · simp at hx
  | func f => simp only [evalO] at hx; simp at hx; subst hx; exact .d (.fn f)

theorem withO_elim {x : Operand} {k : PV → Prop} (hk : withO Γ slots x k) : ∃ p, evalO Γ slots x = some p ∧ k p := by
  unfold withO at hk
  split at hk
  · rename_i v hv; exact ⟨v, hv, hk⟩
  · exact hk.elim
theorem withO_rep (hh : HeapRel Γ E h w) (hs : SlotsRel E w a.tmps slots) {x : Operand} {k : PV → Prop} (hk : withO Γ slots x k) : ∃ p, Rep E w (a.eval x) p ∧ k p := by
  obtain ⟨p, hp, hk⟩ := withO_elim hk
  exact ⟨p, evalO_rep hh hs hp, hk⟩
theorem withOs_rep (hh : HeapRel Γ E h w) (hs : SlotsRel E w a.tmps slots) : ∀ {xs : List Operand} {k : List PV → Prop}, withOs Γ slots xs k → ∃ ps, ps.length = xs.length ∧ (∀ (i : Nat) (x : Operand) (p : PV), xs[i]? = some x → ps[i]? = some p → Rep E w (a.eval x) p) ∧ k ps
  | [], k, hk => ⟨[], rfl, fun i x p hx => by simp at hx, hk⟩
  | x :: r, k, hk => by
    unfold withOs at hk
    obtain ⟨p, hp, hk⟩ := withO_rep hh hs hk
    obtain ⟨ps, hl, hr, hk⟩ := withOs_rep hh hs hk
    refine ⟨p :: ps, by simp [hl], fun i x' p' hx hp' => ?_, hk⟩
    cases i with
    | zero => simp at hx hp'; subst hx; subst hp'; exact hp
    | succ i => exact hr i x' p' (by simpa using hx) (by simpa using hp')
theorem withOO_elim (hh : HeapRel Γ E h w) (hs : SlotsRel E w a.tmps slots) {o : Option Operand} {k : Option PV → Prop} (hk : withOO Γ slots o k) :
    ∃ p, (∀ x, o = some x → ∃ q, p = some q ∧ Rep E w (a.eval x) q) ∧ (o = none → p = none) ∧ k p := by
  unfold withOO at hk
  split at hk
  · exact ⟨none, fun x hx => (by cases hx), fun _ => rfl, hk⟩
  · rename_i x
    obtain ⟨q, hq, hk⟩ := withO_rep hh hs hk
    exact ⟨some q, fun y hy => ⟨q, rfl, by cases hy; exact hq⟩, fun h => (by cases h), hk⟩
theorem tinfo_elim (hC : CtxOK Γ P) {t : Nat} {k : TI → Prop} (hk : tinfo Γ t k) : ∃ i, TIOK P t i ∧ k i := by
  unfold tinfo at hk
  split at hk
  · rename_i i hi; exact ⟨i, hC.tt t i hi, hk⟩
  · exact hk.elim

theorem shaped_expand : ∀ (ps : List CK) (pre x : List DV), shapedB ps x = true → expandD (pre ++ x) pre.length ps = x
  | [], pre, x, h => by
    cases x with
    | nil => rfl
    | cons => simp [shapedB] at h
  | q :: r, pre, [], h => by cases q <;> simp [shapedB] at h
  | q :: r, pre, y :: x, h => by
    have hc : cellD (pre ++ y :: x) pre.length = y := by simp [cellD]
    have ih := fun h' => shaped_expand r (pre ++ [y]) x h'
    simp only [List.append_assoc, List.singleton_append, List.length_append, List.length_singleton] at ih
    cases q with
    | int k =>
      cases y <;> simp only [shapedB, Bool.and_eq_true, decide_eq_true_eq, Bool.false_eq_true] at h
      obtain ⟨rfl, h⟩ := h
      simp only [expandD, hc, DV.gI, DV.iv, ih h]
    | bool =>
      cases y <;> simp only [shapedB, Bool.false_eq_true] at h
      simp only [expandD, hc, DV.gB, DV.bv, ih h]
    | str =>
      cases y <;> simp only [shapedB, Bool.false_eq_true] at h
      simp only [expandD, hc, DV.gS, ih h]
    | sl sz =>
      cases y <;> simp only [shapedB, Bool.and_eq_true, Bool.false_eq_true] at h
      obtain ⟨h1, h⟩ := h
      have := Nat.eq_of_beq_eq_true h1
      subst this
      simp only [expandD, hc, DV.gL, ih h]
    | other =>
      simp only [shapedB] at h
      simp only [expandD, hc, ih h]
theorem elemAt_elim {t : Nat} {es : List (List DV)} {n : Nat} {k : List DV → Prop} (hk : elemAt Γ md t es n k) : ∃ e, es[n]? = some e ∧ k e := by
  unfold elemAt at hk
  split at hk
  · split at hk
    · rename_i e he; rw [nth_eq] at he; exact ⟨e, he, hk⟩
    · exact hk.elim
  · split at hk
    · rename_i ps hps
      obtain ⟨hb, hk⟩ := (need_iff _ _).1 hk
      unfold elemOK at hb
      split at hb
      · rename_i e he
        have h1 := shaped_expand ps [] e hb
        have h2 : nthD es n = e := by unfold nthD; rw [List.getD_eq_getElem?_getD, he]; rfl
        simp only [List.nil_append, List.length_nil] at h1
        rw [h2, h1] at hk
        exact ⟨e, he, hk⟩
      · cases hb
    · exact hk.elim

theorem bv_sym {v : Value} {p : PV} (h : Rep E w v p) {b : Bool} (hb : p.bv = .sym b) : v = .bool b := by
  cases h with
  | d h => cases h <;> simp only [PV.bv, DV.bv, BV.sym.injEq, reduceCtorEq] at hb; rw [hb]
  | _ => simp [PV.bv] at hb
theorem iv_known {v : Value} {p : PV} (h : Rep E w v p) {k : IntKind} {n : Int} (hb : p.iv = .known k n) : v = .int k n := by
  cases h with
  | d h => cases h <;> simp only [PV.iv, DV.iv, IV.known.injEq, reduceCtorEq] at hb; rw [hb.1, hb.2]
  | _ => simp [PV.iv] at hb
theorem bv_known {v : Value} {p : PV} (h : Rep E w v p) {b : Bool} (hb : p.bv = .known b) : v = .bool b := by
  cases h with
  | d h => cases h <;> simp only [PV.bv, DV.bv, BV.known.injEq, reduceCtorEq] at hb; rw [hb]
  | _ => simp [PV.bv] at hb

/-! ### loads -/
theorem dmap_one {l : List DV} {x : PV} (hx : x ∈ l.map PV.d) : x.one = true := by
  obtain ⟨y, _, rfl⟩ := List.mem_map.1 hx; rfl
theorem dmap_get {l : List DV} {j : Nat} {x : PV} (hx : (l.map PV.d)[j]? = some x) : ∃ y, l[j]? = some y ∧ x = .d y := by
  rw [List.getElem?_map] at hx
  obtain ⟨y, hy, rfl⟩ := Option.map_eq_some_iff.1 hx
  exact ⟨y, hy, rfl⟩
theorem take_get {α : Type} {l : List α} {n j : Nat} {x : α} (hx : (l.take n)[j]? = some x) : l[j]? = some x := by
  rw [List.getElem?_take] at hx
  split at hx
  · exact hx
  · cases hx
theorem drop_take_get {α : Type} {l : List α} {o n j : Nat} {x : α} (hx : ((l.drop o).take n)[j]? = some x) : l[o + j]? = some x := by
  have := take_get hx
  rwa [List.getElem?_drop] at this
theorem add_at (b o j : Nat) : (⟨b, o, none⟩ : Addr).add j = ⟨b, o + j, none⟩ := by unfold Addr.add; split <;> simp_all

theorem fin_agg {T : Nat} {i : TI} (hT : TIOK P T i) {blk off : Nat} {cs : List PV} {vals : Nat → Value}
    (hcell : ∀ j, j < i.size → w.cell? ⟨blk, off + j, none⟩ = some (vals j)) (hlen : cs.length = i.size) (h1 : ∀ x ∈ cs, x.one = true)
    (hr : ∀ (j : Nat) (x : PV), cs[j]? = some x → Rep E w (vals j) x) (hag : (isAgg T).run P w = .ok true w) :
    ∃ v, (loadVar T ⟨blk, off, none⟩).run P w = .ok v w ∧ Rep E w v (.agg cs) := by
  refine ⟨.agg ((List.range i.size).map vals).toArray, ?_, ?_⟩
  · simp only [loadVar, Sem.run_bind, hag, Result.andThen_ok, if_true, hT.run_sizeOf w]
    rw [run_loadCells w _ i.size vals (fun j hj => by rw [add_at]; exact hcell j hj)]
    rfl
  · refine .agg _ _ (by simp [hlen]) h1 (fun j v x hv hx => ?_)
    have hj : j < i.size := by rw [← hlen]; exact (List.getElem?_eq_some_iff.1 hx).1
    have : v = vals j := by simp [List.getElem?_map, List.getElem?_range hj] at hv; exact hv.symm
    subst this
    exact hr j x hx
theorem fin_one {T : Nat} {blk off : Nat} {v : Value} (hcell : w.cell? ⟨blk, off, none⟩ = some v) (hag : (isAgg T).run P w = .ok false w) :
    (loadVar T ⟨blk, off, none⟩).run P w = .ok v w := by
  simp only [loadVar, Sem.run_bind, hag, Result.andThen_ok, Bool.false_eq_true, if_false]
  rw [run_load, hcell]
def aggK : TK → Bool
  | .struct _ | .arr _ _ => true
  | _ => false
theorem run_isAgg {T : Nat} {i : TI} (hT : TIOK P T i) : (isAgg T).run P w = .ok (aggK i.kind) w := by
  obtain ⟨d, hd, hkd⟩ := hT.under'
  rw [← hkd]
  cases d <;> simp only [isAgg, underlying, hd, tkOf, Sem.run_bind, Sem.run_pure, Result.andThen_ok, run_program] <;> (try rfl)
  all_goals (rename_i k; cases k <;> rfl)

theorem fin_sound {T : Nat} {i : TI} (hT : TIOK P T i) {c : Bool} {blk off : Nat} {cs : List PV} {vals : Nat → Value} {k : PV → Prop}
    (hcell : ∀ j, j < i.size → w.cell? ⟨blk, off + j, none⟩ = some (vals j)) (h1 : ∀ x ∈ cs, x.one = true)
    (hr : ∀ (j : Nat) (x : PV), cs[j]? = some x → Rep E w (vals j) x) (hk : finX c i cs k) :
    ∃ v p, (loadVar T ⟨blk, off, none⟩).run P w = .ok v w ∧ Rep E w v p ∧ k p := by
  unfold finX at hk
  obtain ⟨hlen, hk⟩ := (need_iff _ _).1 hk
  have hlen : cs.length = i.size := by simpa using hlen
  have hag := run_isAgg (w := w) hT
  split at hk
  · rename_i hi
    rw [fcells_eq] at hk; rw [hi] at hag
    obtain ⟨v, hv, hr⟩ := fin_agg hT hcell hlen h1 hr hag
    exact ⟨v, _, hv, hr, hk⟩
  · rename_i hi
    rw [fcells_eq] at hk; rw [hi] at hag
    obtain ⟨v, hv, hr⟩ := fin_agg hT hcell hlen h1 hr hag
    exact ⟨v, _, hv, hr, hk⟩
  · rename_i hn1 hn2
    have hag' : (isAgg T).run P w = .ok false w := by
      rw [hag]; congr 1; unfold aggK; split
      · rename_i x hx; exact absurd hx (hn1 x)
      · rename_i x y hx; exact absurd hx (hn2 x y)
      · rfl
    split at hk
    · exact ⟨vals 0, _, fin_one (hcell 0 (by rw [← hlen]; simp)) hag', hr 0 _ rfl, hk⟩
    · exact hk.elim

/-! ### where cells lie -/
theorem box_cells {i : Nat} {T : Nat} {cs : List PV} (hb : AtB E w i (.box T cs)) :
    ∃ vals : Nat → Value, (∀ (k : Nat) (x : PV), cs[k]? = some x → w.cell? ⟨E.bx i, k, none⟩ = some (vals k) ∧ Rep E w (vals k) x) ∧ ∀ x ∈ cs, x.one = true := by
  obtain ⟨vs, hv, hl, h1, hr⟩ := hb
  refine ⟨fun k => vs.getD k undef, fun k x hx => ?_, h1⟩
  have hk : k < vs.size := by rw [hl]; exact (List.getElem?_eq_some_iff.1 hx).1
  have e : vs[k]? = some (vs.getD k undef) := by simp [Array.getD_eq_getD_getElem?, Array.getElem?_eq_getElem hk]
  exact ⟨by simp only [World.cell?, hv]; exact e, hr k _ x e hx⟩
theorem row_cells {i T sz : Nat} {xs : List (List DV)} (hb : AtB E w i (.row T sz xs)) {g c : Nat} (hv : E.rv i xs.length = .slice (some ⟨g, 0, none⟩) xs.length c) :
    ∃ vals : Nat → Nat → Value, ∀ (j : Nat) (e : List DV) (k : Nat) (d : DV), xs[j]? = some e → e[k]? = some d → w.cell? ⟨g, j * sz + k, none⟩ = some (vals j k) ∧ RepD E.K w (vals j k) d := by
  obtain ⟨h1, h2, h3, h4, vs, ho, hr⟩ := hb
  rw [hv] at ho
  refine ⟨fun j k => vs.getD (j * sz + k) undef, fun j e k d hj hk => ?_⟩
  have hje : j < xs.length := (List.getElem?_eq_some_iff.1 hj).1
  have hke : k < sz := by rw [← h4 e (List.mem_of_getElem? hj)]; exact (List.getElem?_eq_some_iff.1 hk).1
  have hb : j * sz + k < xs.length * sz := by
    calc j * sz + k < j * sz + sz := by omega
      _ = (j + 1) * sz := by rw [Nat.add_mul, Nat.one_mul]
      _ ≤ xs.length * sz := Nat.mul_le_mul_right _ hje
  have he : vs[j * sz + k]? = some (vs.getD (j * sz + k) undef) := by
    have : j * sz + k < vs.length := by rw [ho.1]; exact hb
    simp [List.getD_eq_getElem?_getD, List.getElem?_eq_getElem this]
  exact ⟨by rw [ho.cellAt _ hb]; exact he, hr j e k _ d hj hk he⟩


theorem loadX_sound (hC : CtxOK Γ P) (hh : HeapRel Γ E h w) {c : Bool} {T : Nat} {v : Value} {p : PV} {k : PV → Prop} (hv : Rep E w v p) (hk : loadX Γ c h T p k) :
    ∃ u q, (Instr.loadAt T v).run P w = .ok u w ∧ Rep E w u q ∧ k q := by
  unfold loadX at hk
  obtain ⟨i, hT, hk⟩ := tinfo_elim hC hk
  have go : ∀ a : Addr, v = .pointer (some a) → (Instr.loadAt T v).run P w = (loadVar T a).run P w := by
    intro a e; subst e; simp [Instr.loadAt, Instr.sureAddr]
  cases p with
  | box b off =>
    cases hv with | box _ _ hb =>
    rw [go _ rfl]
    simp only [nth_eq] at hk
    split at hk
    · rename_i U cs hcs
      obtain ⟨vals, hvals, h1⟩ := box_cells (hh.at_ b _ hcs)
      refine fin_sound hT (vals := fun j => vals (off + j)) (fun j hj => ?_) (fun x hx => h1 x (List.mem_of_mem_drop (List.mem_of_mem_take hx))) (fun j x hx => ?_) hk
      · unfold finX at hk
        obtain ⟨hl, _⟩ := (need_iff _ _).1 hk
        have hl : ((cs.drop off).take i.size).length = i.size := by simpa using hl
        have hjl : off + j < cs.length := by simp at hl; omega
        exact (hvals (off + j) _ (List.getElem?_eq_getElem hjl)).1
      · exact (hvals (off + j) x (drop_take_get hx)).2
    · exact hk.elim
  | elem cs =>
    cases hv with | elem b o _ vals hK hc hr =>
    rw [go _ rfl]
    refine fin_sound hT (vals := vals) (fun j hj => ?_) (fun x hx => ?_) (fun j x hx => ?_) hk
    · unfold finX at hk
      obtain ⟨hl, _⟩ := (need_iff _ _).1 hk
      have hl : ((cs.take i.size).map PV.d).length = i.size := by simpa using hl
      exact hc j (by simp at hl; omega)
    · exact dmap_one hx
    · obtain ⟨y, hy, rfl⟩ := dmap_get hx
      exact .d (hr j y (take_get hy))
  | rowel b n j off =>
    cases hv with | rowel g _ _ _ _ c hi hn hrv =>
    rw [go _ rfl]
    simp only [nth_eq] at hk
    split at hk
    · rename_i U sz xs hxs
      obtain ⟨hlen, hk2⟩ := (need_iff _ _).1 hk
      obtain rfl : xs.length = n := by simpa using hlen
      clear hk
      · replace hk2 := elemAt_elim hk2
        obtain ⟨e, he, hk2⟩ := hk2
        obtain ⟨vals, hvals⟩ := row_cells (hh.at_ b _ hxs) hrv
        obtain ⟨hsz, _, _, h4, _⟩ := hh.at_ b _ hxs
        rw [hsz]
        refine fin_sound hT (vals := fun k => vals j (off + k)) (fun k hkk => ?_) (fun x hx => ?_) (fun k x hx => ?_) hk2
        · unfold finX at hk2
          obtain ⟨hl, _⟩ := (need_iff _ _).1 hk2
          have hl : (((e.drop off).take i.size).map PV.d).length = i.size := by simpa using hl
          have : off + k < e.length := by simp at hl; omega
          rw [Nat.add_assoc]
          exact (hvals j e (off + k) _ he (List.getElem?_eq_getElem this)).1
        · exact dmap_one hx
        · obtain ⟨y, hy, rfl⟩ := dmap_get hx
          exact .d (hvals j e (off + k) y he (drop_take_get hy)).2
    · rename_i U sz xs hxs
      obtain ⟨hlen, hk2⟩ := (need_iff _ _).1 hk
      obtain rfl : xs.length = n := by simpa using hlen
      clear hk
      · replace hk2 := elemAt_elim hk2
        obtain ⟨e, he, hk2⟩ := hk2
        obtain ⟨hsz, _, hrep⟩ := hh.at_ b _ hxs
        rw [hrv] at hrep
        cases hrep with | sl _ _ _ _ _ vals _ _ _ hA hs hr =>
        have hj : j < xs.length := (List.getElem?_eq_some_iff.1 he).1
        obtain ⟨b', o', hA', hK, hcell⟩ := hA (by omega)
        simp at hA'
        obtain ⟨rfl, rfl⟩ := hA'
        rw [hsz]
        refine fin_sound hT (vals := fun k => vals j (off + k)) (fun k hkk => ?_) (fun x hx => ?_) (fun k x hx => ?_) hk2
        · unfold finX at hk2
          obtain ⟨hl, _⟩ := (need_iff _ _).1 hk2
          have hl : (((e.drop off).take i.size).map PV.d).length = i.size := by simpa using hl
          have : off + k < e.length := by simp at hl; omega
          have hc := hcell j (off + k) hj (by rw [← hs j e he]; exact this)
          simpa [Nat.add_assoc] using hc
        · exact dmap_one hx
        · obtain ⟨y, hy, rfl⟩ := dmap_get hx
          exact .d (hr j e (off + k) y he (drop_take_get hy))
    · exact hk.elim
  | _ => exact hk.elim

end
end Go.Proofs.Ytepgblhhajdmoaa.Eng
