/-
  THE ENGINE, part 11: structs put together; a row's element written.
-/
import Derived.Test.YtepgblhhajdmoaaEng10
set_option linter.unusedVariables false
set_option linter.unusedSimpArgs false
namespace Go.Proofs.Ytepgblhhajdmoaa.Eng
open Go

section
variable {Γ : Ctx} {P : Program} {E E' : Env} {w w' : World} {h : List AB} {a : Act} {md : Bool}

/-- what the cells of a struct stand for -/
def CellsRel (E : Env) (w : World) (vs : Array Value) (cs : List PV) : Prop :=
  vs.size = cs.length ∧ (∀ c ∈ cs, c.one = true) ∧ ∀ (i : Nat) (v : Value) (c : PV), vs[i]? = some v → cs[i]? = some c → Rep E w v c

theorem splice_rel {vs : Array Value} {cs : List PV} (hv : CellsRel E w vs cs) {new : Array Value} {ns : List PV} (hn : CellsRel E w new ns) {off : Nat} (hle : off + ns.length ≤ cs.length) :
    CellsRel E w (new.toList.zipIdx.foldl (fun cs (x : Value × Nat) => cs.setIfInBounds (off + x.2) x.1) vs) (splice cs off ns) := by
  obtain ⟨g1, g2⟩ := Great.foldl_set off new.toList 0 vs
  refine ⟨by rw [g1, splice_length hle, hv.1], fun c hc => ?_, fun i v c hi hc => ?_⟩
  · rcases splice_mem hc with h | h
    · exact hv.2.1 c h
    · exact hn.2.1 c h
  · rw [g2 i] at hi
    have hnl : new.toList.length = ns.length := by simpa using hn.1
    have hvl := hv.1
    simp only [Nat.add_zero] at hi
    rcases splice_get hle hc with ⟨h1, h2⟩ | ⟨h1, h2, h3⟩ | ⟨h1, h2⟩
    · rw [if_neg (by omega)] at hi; exact hv.2.2 i v c hi h2
    · rw [if_pos (by omega)] at hi; exact hn.2.2 _ v c (by simpa using hi) h3
    · rw [if_neg (by omega)] at hi; exact hv.2.2 i v c hi h2

theorem fill_sound (hC : CtxOK Γ P) {c : Bool} {fs : List (Nat × Nat)} {place : Nat → Option (Nat × Nat)} (hp : ∀ f off U u, nth fs f = some (off, U) → TIOK P U u → place f = some (off, u.size)) :
    ∀ (l : List (Nat × Value)) (ps : List (Nat × PV)) (vs : Array Value) (cs : List PV) (k : List PV → Prop), l.map Prod.fst = ps.map Prod.fst →
      (∀ (i : Nat) (v : Nat × Value) (p : Nat × PV), l[i]? = some v → ps[i]? = some p → Rep E w v.2 p.2) → CellsRel E w vs cs → fillX Γ c fs ps cs k →
      ∃ vs' cs', Instr.fill place vs l = some vs' ∧ CellsRel E w vs' cs' ∧ k cs'
  | [], ps, vs, cs, k, hl, hr, hv, hk => by
    have : ps = [] := by cases ps with | nil => rfl | cons => simp at hl
    subst this
    exact ⟨vs, cs, rfl, hv, hk⟩
  | (f, v) :: l, [], vs, cs, k, hl, hr, hv, hk => by simp at hl
  | (f, v) :: l, (f', p) :: ps, vs, cs, k, hl, hr, hv, hk => by
    simp only [List.map_cons, List.cons.injEq] at hl
    obtain ⟨rfl, hl⟩ := hl
    unfold fillX at hk
    split at hk
    · rename_i off U hf
      replace hk := tinfo_elim hC hk
      obtain ⟨u, hU, hk⟩ := hk
      replace hk := (need_iff _ _).1 hk
      obtain ⟨hc, hk⟩ := hk
      simp only [Bool.and_eq_true, beq_iff_eq, Nat.ble_eq] at hc
      obtain ⟨⟨h1, h2⟩, h3⟩ := hc
      rw [fcells_eq] at hk
      have hrep := cells_rep (hr 0 (f, v) (f, p) rfl rfl) h2
      have hsp := splice_rel hv (new := v.cells) (ns := p.cells) hrep (off := off) (by omega)
      obtain ⟨vs', cs', e1, e2, e3⟩ := fill_sound hC (c := c) hp l ps _ _ k hl (fun i v p h1 h2 => hr (i + 1) v p h1 h2) hsp hk
      refine ⟨vs', cs', ?_, e2, e3⟩
      unfold Instr.fill
      rw [hp f off U u hf hU]
      have hs : v.cells.size = u.size := by rw [← h1]; exact hrep.1
      have hvs : vs.size = cs.length := hv.1
      simp only
      rw [if_neg (by simp; omega), ← Array.foldl_toList, Array.toList_zipIdx]
      exact e1
    · exact hk.elim

theorem places_ok (hC : CtxOK Γ P) : ∀ (fl : List Field), (fl.map fun f => (f.offset, f.type)).all (fun f => (assoc Γ.tt f.2).isSome) = true →
    ∃ places, fl.mapM (fun f => (P.info? f.type).map fun i => (f.offset, i.size)) = some places ∧
      ∀ (j : Nat) (f : Field) (u : TI), fl[j]? = some f → TIOK P f.type u → places[j]? = some (f.offset, u.size)
  | [], _ => ⟨[], rfl, fun j f u hj => by simp at hj⟩
  | f :: fl, h => by
    simp only [List.map_cons, List.all_cons, Bool.and_eq_true] at h
    obtain ⟨i, hi⟩ := Option.isSome_iff_exists.1 h.1
    obtain ⟨j0, z, hj0, hs, _⟩ := (hC.tt _ _ hi).info'
    obtain ⟨places, e1, e2⟩ := places_ok hC fl h.2
    refine ⟨(f.offset, j0.size) :: places, by simp [List.mapM_cons, hj0, e1], fun j g u hj hu => ?_⟩
    cases j with
    | zero =>
      simp at hj; subst hj
      obtain ⟨j1, z1, hj1, hs1, _⟩ := hu.info'
      rw [hj0] at hj1; cases hj1
      simp [hs1]
    | succ j => exact e2 j g u (by simpa using hj) hu

theorem build_sound (hC : CtxOK Γ P) {c : Bool} {T : Nat} {i : TI} (hT : TIOK P T i) {fs : List (Nat × Nat)} (hi : i.kind = .struct fs) (hall : (fs.all fun f => (assoc Γ.tt f.2).isSome) = true)
    {l : List (Nat × Value)} {ps : List (Nat × PV)} {k : List PV → Prop} (hl : l.map Prod.fst = ps.map Prod.fst) (hr : ∀ (i : Nat) (v : Nat × Value) (p : Nat × PV), l[i]? = some v → ps[i]? = some p → Rep E w v.2 p.2)
    (hk : fillX Γ c fs ps (i.zero.map .d) k) : ∃ vs' cs', (Instr.build T l.toArray).run P w = .ok (.agg vs') w ∧ Rep E w (.agg vs') (.agg cs') ∧ k cs' := by
  obtain ⟨d, hd, hkd⟩ := hT.under'
  obtain ⟨fl, rfl, hfs⟩ := tkOf_struct (hkd.trans hi)
  obtain ⟨j, z, hj, hsz, hby, hz, hdz⟩ := hT.info'
  rw [← hfs] at hall
  obtain ⟨places, e1, e2⟩ := places_ok hC fl.toList hall
  have hz0 : CellsRel E w z.cells (i.zero.map .d) := by
    have hdz' := dvsOfV_rep (K := E.K) (w := w) hdz
    refine ⟨by simpa using hdz'.1, fun c hc => dmap_one hc, fun k v c hv hc => ?_⟩
    obtain ⟨y, hy, rfl⟩ := dmap_get hc
    exact .d (hdz'.2 k v y (by simpa using hv) hy)
  obtain ⟨vs', cs', f1, f2, f3⟩ := fill_sound hC (place := fun n => places.toArray[n]?) (fun f off U u hf hU => by
      rw [nth_eq, ← hfs, List.getElem?_map] at hf
      obtain ⟨fd, hfd, he⟩ := Option.map_eq_some_iff.1 hf
      simp only [Prod.mk.injEq] at he
      obtain ⟨rfl, rfl⟩ := he
      simpa using e2 f fd u hfd hU) l ps _ _ k hl hr hz0 hk
  refine ⟨vs', cs', run_build w T l.toArray vs' ?_, .agg vs' cs' f2.1 f2.2.1 f2.2.2, f3⟩
  simp only [Program.built, hj, hd, hz, e1]
  exact f1

theorem get_of_take {α : Type} {l : List α} {n j : Nat} {x : α} (hx : (l.take n)[j]? = some x) : j < n ∧ l[j]? = some x := by
  rw [List.getElem?_take] at hx
  split at hx
  · exact ⟨by assumption, hx⟩
  · cases hx

theorem store_rowel (hh : HeapRel Γ E h w) {T : Nat} {i : TI} (hT : TIOK P T i) {b U sz : Nat} {xs : List (List DV)} (hb : h[b]? = some (.row U sz xs)) {j off : Nat} {e new : List DV} (hj : xs[j]? = some e)
    (hle : off + new.length ≤ sz) (hsz : new.length = i.size) {v : Value} (hvs : v.cells.size = new.length) (hv : ∀ (k : Nat) (u : Value) (d : DV), v.cells[k]? = some u → new[k]? = some d → RepD E.K w u d)
    {g c : Nat} (hrv : E.rv b xs.length = .slice (some ⟨g, 0, none⟩) xs.length c) :
    ∃ E' w', HeapRel Γ E' (h.set b (.row U sz (xs.set j (splice e off new)))) w' ∧ Fr E h w E' (h.set b (.row U sz (xs.set j (splice e off new)))) w' ∧
      (Instr.storeAt T (.pointer (some ⟨g, j * sz + off, none⟩)) v).run P w = .ok () w' := by
  obtain ⟨e1, e2, e3, e4, vals, ho, hr⟩ := hh.at_ b _ hb
  rw [hrv] at ho
  rcases ho.2 with ⟨h', _⟩ | ⟨g', cap', cur, h', hbase, hg, hnc, hcm, hcs, htake⟩
  · simp at h'
  simp only [Value.slice.injEq, Option.some.injEq, Addr.mk.injEq, and_true, true_and] at h'
  obtain ⟨rfl, rfl⟩ := h'
  have hel : e.length = sz := e4 e (List.mem_of_getElem? hj)
  have hjl : j < xs.length := (List.getElem?_eq_some_iff.1 hj).1
  have hrow : j * sz + sz ≤ xs.length * sz := by
    calc j * sz + sz = (j + 1) * sz := by rw [Nat.add_mul, Nat.one_mul]
      _ ≤ xs.length * sz := Nat.mul_le_mul_right _ hjl
  have hcapsz : xs.length * sz ≤ c * sz := Nat.mul_le_mul_right _ hnc
  have hvl : v.cells.toList.length = new.length := by simpa using hvs
  have hone : ∀ u ∈ v.cells.toList, u.oneCell' = true := fun u hu => by
    obtain ⟨k, hk, rfl⟩ := List.getElem_of_mem hu
    exact (hv k _ _ (by simp) (List.getElem?_eq_getElem (by rw [← hvl]; exact hk))).one
  have hrun := run_storeVar_at hT hg (v := v) (o := j * sz + off) (by omega) (by rw [hvs, hcs]; omega) hone
  let cur' := splice cur.toList (j * sz + off) v.cells.toList
  have hcl : cur'.length = cur.toList.length := splice_length (by simp; omega)
  have hgr : w.grownBy (w.setRow g cur'.toArray) (E.rv b xs.length).ownBlock := by
    rw [hrv]
    exact ⟨rfl, rfl, rfl, by rw [setRow_size]; exact Nat.le_refl _, fun k _ hk => setRow_other w _ _ _ (fun e => hk (by simp [Value.ownBlock, e]))⟩
  have hown : (w.setRow g cur'.toArray).ownsRow 0 U sz (E.rv b xs.length) xs.length (cur'.take (xs.length * sz)) := by
    rw [hrv]
    refine ⟨by rw [List.length_take, hcl]; simp; omega, .inr ⟨g, c, cur'.toArray, rfl, Nat.zero_le _, setRow_heap w _ _ _ _ _ hg, hnc, hcm, by simpa [hcl] using hcs, by simp⟩⟩
  have hlen' : (xs.set j (splice e off new)).length = xs.length := by simp
  have hold : ∀ k, E.K k → (w.setRow g cur'.toArray).heap[k]? = w.heap[k]? := fun k hk => setRow_other w _ _ _ (fun e => hh.notK k ⟨b, _, hb, by simp [BlkOf, hrv, Value.ownBlock, e]⟩ hk)
  obtain ⟨E', g1, g2, _⟩ := upd_row hh hb hgr (xs' := xs.set j (splice e off new)) (v' := E.rv b xs.length) (vals' := cur'.take (xs.length * sz)) (fun x hx => by
      rcases List.mem_or_eq_of_mem_set hx with hx | rfl
      · exact e4 x hx
      · rw [splice_length (by omega)]; exact hel) (by rw [hlen']; exact hown) (fun k hk => .inl hk) (.inr ⟨hlen', rfl⟩) (fun q e' m u d hq hm hu => by
      obtain ⟨hlt, hu⟩ := get_of_take hu
      have hms : m < sz := by
        have : e'.length = sz := by
          rw [List.getElem?_set] at hq
          split at hq
          · cases hq; rw [splice_length (by omega)]; exact hel
          · exact e4 e' (List.mem_of_getElem? hq)
        rw [← this]; exact (List.getElem?_eq_some_iff.1 hm).1
      have hval : ∀ {n : Nat} {y : Value}, n < xs.length * sz → cur.toList[n]? = some y → vals[n]? = some y := fun hn hy => by rw [← htake, List.getElem?_take_of_lt hn]; exact hy
      rw [List.getElem?_set] at hq
      split at hq
      · rename_i hjq
        subst hjq
        cases hq
        have hcont := splice_get (by simp; omega) hu
        rcases splice_get (by omega) hm with ⟨a1, a2⟩ | ⟨a1, a2, a3⟩ | ⟨a1, a2⟩
        · rcases hcont with ⟨b1, b2⟩ | ⟨b1, b2, b3⟩ | ⟨b1, b2⟩
          · exact (hr j e m u d hj a2 (hval hlt b2)).ext (fun _ h => h) hold
          · omega
          · omega
        · rcases hcont with ⟨b1, b2⟩ | ⟨b1, b2, b3⟩ | ⟨b1, b2⟩
          · omega
          · refine (hv (m - off) u d ?_ a3).ext (fun _ h => h) hold
            have : j * sz + m - (j * sz + off) = m - off := by omega
            rw [this] at b3; simpa using b3
          · omega
        · rcases hcont with ⟨b1, b2⟩ | ⟨b1, b2, b3⟩ | ⟨b1, b2⟩
          · omega
          · omega
          · exact (hr j e m u d hj a2 (hval hlt b2)).ext (fun _ h => h) hold
      · rename_i hjq
        have hsep : q * sz + m < j * sz + off ∨ j * sz + off + v.cells.toList.length ≤ q * sz + m := by
          rcases Nat.lt_or_gt_of_ne hjq with hlt2 | hgt
          · right
            have : (j + 1) * sz ≤ q * sz := Nat.mul_le_mul_right _ hlt2
            rw [Nat.add_mul, Nat.one_mul] at this
            omega
          · left
            have : (q + 1) * sz ≤ j * sz := Nat.mul_le_mul_right _ hgt
            rw [Nat.add_mul, Nat.one_mul] at this
            omega
        rcases splice_get (by simp; omega) hu with ⟨b1, b2⟩ | ⟨b1, b2, b3⟩ | ⟨b1, b2⟩
        · exact (hr q e' m u d hq hm (hval hlt b2)).ext (fun _ h => h) hold
        · omega
        · exact (hr q e' m u d hq hm (hval hlt b2)).ext (fun _ h => h) hold)
  exact ⟨E', _, g1, g2, by simpa [Instr.storeAt, Instr.sureAddr] using hrun⟩

end
end Go.Proofs.Ytepgblhhajdmoaa.Eng
