/-
  THE ENGINE, part 7: rows of the call's own: made, appended to, written.
-/
import Derived.Test.YtepgblhhajdmoaaEng6
import Derived.Great.BuildSlice
set_option linter.unusedVariables false
set_option linter.unusedSimpArgs false
namespace Go.Proofs.Ytepgblhhajdmoaa.Eng
open Go

section
variable {Γ : Ctx} {P : Program} {E E' : Env} {w w' : World} {h : List AB} {md : Bool}

theorem own_form {base e size n : Nat} {v : Value} {xs : List Value} (h : w.ownsRow base e size v n xs) : ∃ A c, v = .slice A n c := by
  rcases h.2 with ⟨rfl, rfl⟩ | ⟨g, cap, cur, rfl, _⟩
  · exact ⟨none, 0, rfl⟩
  · exact ⟨_, cap, rfl⟩

/-- A NEW ROW. -/
theorem add_row (hh : HeapRel Γ E h w) (hg : w.grownBy w' none) {T sz : Nat} {xs : List (List DV)} {v : Value} {vals : List Value} (hsz : 0 < sz) (hs : ∀ e ∈ xs, e.length = sz)
    (ho : w'.ownsRow 0 T sz v xs.length vals) (hblk : ∀ b, v.ownBlock = some b → w.heap.size ≤ b)
    (hr : ∀ (j : Nat) (e : List DV) (k : Nat) (u : Value) (d : DV), xs[j]? = some e → e[k]? = some d → vals[j * sz + k]? = some u → RepD E.K w u d) :
    ∃ E', HeapRel Γ E' (h ++ [.row T sz xs]) w' ∧ Fr E h w E' (h ++ [.row T sz xs]) w' ∧ Rep E' w' v (.row h.length xs.length) := by
  let E' : Env := { E with n := E.n + 1, rv := fun i m => if i = E.n then v else E.rv i m, len := fun i => if i = E.n then xs.length else E.len i, sz := fun i => if i = E.n then sz else E.sz i }
  have hold : ∀ b, b < w.heap.size → w'.heap[b]? = w.heap[b]? := fun b hb => hg.block b hb (by simp)
  have hx : Ext E w E' w' := by
    refine ⟨fun b hb => hb, fun b hb => hold b (hh.K b hb), Nat.le_succ _, fun _ _ => rfl, fun i hi => ?_, fun i m hi _ => ?_, fun i hi => ?_⟩
    · show E.len i ≤ if i = E.n then _ else _; rw [if_neg (by omega)]; exact Nat.le_refl _
    · show (if i = E.n then _ else _) = _; rw [if_neg (by omega)]
    · show (if i = E.n then _ else _) = _; rw [if_neg (by omega)]
  have erv : ∀ m, E'.rv h.length m = v := fun m => by show (if h.length = E.n then _ else _) = _; rw [if_pos hh.n.symm]
  have elen : E'.len h.length = xs.length := by show (if h.length = E.n then _ else _) = _; rw [if_pos hh.n.symm]
  have esz : E'.sz h.length = sz := by show (if h.length = E.n then _ else _) = _; rw [if_pos hh.n.symm]
  have hh' : HeapRel Γ E' (h ++ [.row T sz xs]) w' := by
    refine hh.add hx rfl (fun b hb => Nat.lt_of_lt_of_le (hh.K b hb) hg.size) (fun j hj => ?_) ⟨esz, elen, hsz, hs, vals, by rw [erv]; exact ho, fun j e k u d hj hk hu => (hr j e k u d hj hk hu).mono hx⟩
      (fun j ab b hj hb => ⟨hold b (hh.blk_lt hj hb), ?_, hh.notK b ⟨j, ab, hj, hb⟩⟩) (fun b hb hk => ?_)
    · show (if j = E.n then _ else _) = _; rw [if_neg (by omega)]
    · have := hh.blk_lt hj hb
      simp only [BlkOf, erv]
      intro e; have := hblk b e; omega
    · simp only [BlkOf, erv] at hb
      have := hblk b hb; have := hh.K b hk; omega
  refine ⟨E', hh', ⟨hg.os, hg.tape, hg.output, hg.size, fun b hb _ => hold b hb, hx, fun b hb => .inl hb, fun b hb => ?_⟩, ?_⟩
  · rcases foot_add hh hx hb with hb | hb
    · simp only [BlkOf, erv] at hb; exact .inl (hblk b hb)
    · exact .inr hb
  · obtain ⟨A, c, rfl⟩ := own_form ho
    exact .row A h.length xs.length c (by show h.length < E.n + 1; rw [hh.n]; omega) (by rw [elen]; exact Nat.le_refl _) (erv _)

/-- A ROW TURNS. -/
theorem upd_row (hh : HeapRel Γ E h w) {i T sz : Nat} {xs xs' : List (List DV)} (hi : h[i]? = some (.row T sz xs)) (hg : w.grownBy w' (E.rv i xs.length).ownBlock) {v' : Value} {vals' : List Value}
    (hs : ∀ e ∈ xs', e.length = sz) (ho : w'.ownsRow 0 T sz v' xs'.length vals') (hblk : ∀ b, v'.ownBlock = some b → (E.rv i xs.length).ownBlock = some b ∨ w.heap.size ≤ b)
    (hlen : xs.length < xs'.length ∨ (xs'.length = xs.length ∧ v' = E.rv i xs.length))
    (hr : ∀ (j : Nat) (e : List DV) (k : Nat) (u : Value) (d : DV), xs'[j]? = some e → e[k]? = some d → vals'[j * sz + k]? = some u → RepD E.K w' u d) :
    ∃ E', HeapRel Γ E' (h.set i (.row T sz xs')) w' ∧ Fr E h w E' (h.set i (.row T sz xs')) w' ∧ Rep E' w' v' (.row i xs'.length) ∧ Ext E w E' w' := by
  obtain ⟨e1, e2, e3, e4, vals, ho0, hr0⟩ := hh.at_ i _ hi
  have hin := hh.lt hi
  have hil : i < h.length := (List.getElem?_eq_some_iff.1 hi).1
  let E' : Env := { E with rv := fun j m => if j = i ∧ m = xs'.length then v' else E.rv j m, len := fun j => if j = i then xs'.length else E.len j }
  have hother : ∀ b, b < w.heap.size → (E.rv i xs.length).ownBlock ≠ some b → w'.heap[b]? = w.heap[b]? := fun b hb hne => hg.block b hb (fun e => hne e.symm)
  have hKsame : ∀ b, E.K b → w'.heap[b]? = w.heap[b]? := fun b hb => hother b (hh.K b hb) (fun e => hh.notK b ⟨i, _, hi, e⟩ hb)
  have hx : Ext E w E' w' := by
    refine ⟨fun b hb => hb, hKsame, Nat.le_refl _, fun _ _ => rfl, fun j hj => ?_, fun j m hj hm => ?_, fun _ _ => rfl⟩
    · show E.len j ≤ if j = i then _ else _
      split
      · rename_i e; subst e; omega
      · exact Nat.le_refl _
    · show (if j = i ∧ m = xs'.length then _ else _) = _
      split
      · rename_i e
        obtain ⟨rfl, rfl⟩ := e
        rcases hlen with hl | ⟨hl, hv⟩
        · omega
        · rw [hv, hl]
      · rfl
  have erv : E'.rv i xs'.length = v' := by show (if i = i ∧ xs'.length = xs'.length then _ else _) = _; rw [if_pos ⟨rfl, rfl⟩]
  have elen : E'.len i = xs'.length := by show (if i = i then _ else _) = _; rw [if_pos rfl]
  have hh' : HeapRel Γ E' (h.set i (.row T sz xs')) w' := by
    refine hh.put hil hx rfl (fun b hb => Nat.lt_of_lt_of_le (hh.K b hb) hg.size) (fun j hj => ?_) ⟨e1, elen, e3, hs, vals', by rw [erv]; exact ho, fun j e k u d hj hk hu => (hr j e k u d hj hk hu).ext (fun _ h => h) (fun _ _ => rfl)⟩
      (fun j ab b hj hab hb => ⟨hother b (hh.blk_lt hab hb) (fun e => hj (hh.apart j i ab _ b hab hi hb e)), ?_, hh.notK b ⟨j, ab, hab, hb⟩⟩) (fun b hb hk => ?_)
    · show (if j = i then _ else _) = _; rw [if_neg hj]
    · simp only [BlkOf, erv]
      intro e
      rcases hblk b e with h1 | h1
      · exact hj (hh.apart j i ab _ b hab hi hb h1)
      · have := hh.blk_lt hab hb; omega
    · simp only [BlkOf, erv] at hb
      rcases hblk b hb with h1 | h1
      · exact hh.notK b ⟨i, _, hi, h1⟩ hk
      · have := hh.K b hk; omega
  refine ⟨E', hh', ⟨hg.os, hg.tape, hg.output, hg.size, fun b hb hn => hother b hb (fun e => hn ⟨i, _, hi, e⟩), hx, fun b hb => .inl hb, fun b hb => ?_⟩, ?_, hx⟩
  · rcases foot_put hh hx hb with hb | hb
    · simp only [BlkOf, erv] at hb
      rcases hblk b hb with h1 | h1
      · exact .inr ⟨i, _, hi, h1⟩
      · exact .inl h1
    · exact .inr hb
  · obtain ⟨A, c, rfl⟩ := own_form ho
    exact .row A i xs'.length c hin (by rw [elen]; exact Nat.le_refl _) erv

/-! ### lists of data -/
theorem frzs_sound : ∀ (ps : List PV) (vs : List Value) {E : Env} {h : List AB} (k : List DV → List AB → Prop), HeapRel Γ E h w → vs.length = ps.length →
    (∀ (i : Nat) (v : Value) (p : PV), vs[i]? = some v → ps[i]? = some p → Rep E w v p) → frzs md h ps k →
    ∃ ds E' h', HeapRel Γ E' h' w ∧ Fr E h w E' h' w ∧ ds.length = ps.length ∧ (∀ (i : Nat) (v : Value) (d : DV), vs[i]? = some v → ds[i]? = some d → RepD E'.K w v d) ∧ k ds h'
  | [], vs, E, h, k, hh, hl, hr, hk => ⟨[], E, h, hh, Fr.refl _ _ _, rfl, fun i v d _ hd => by simp at hd, hk⟩
  | p :: ps, vs, E, h, k, hh, hl, hr, hk => by
    cases vs with
    | nil => simp at hl
    | cons v vs =>
    unfold frzs at hk
    obtain ⟨d, E1, h1, hh1, f1, hd, hk⟩ := frz_sound hh (hr 0 v p rfl rfl) hk
    obtain ⟨ds, E2, h2, hh2, f2, hl2, hr2, hk⟩ := frzs_sound ps vs _ hh1 (by simpa using hl) (fun i v p hv hp => (hr (i + 1) v p (by simpa using hv) (by simpa using hp)).mono f1.ext) hk
    refine ⟨unkD d :: ds, E2, h2, hh2, f1.trans f2, by simp [hl2], fun i v' d' hv hd' => ?_, hk⟩
    cases i with
    | zero => simp at hv hd'; subst hv; subst hd'; exact (hd.mono f2.ext).unk
    | succ i => exact hr2 i v' d' (by simpa using hv) (by simpa using hd')

theorem flat_at {s : Nat} (hs : 0 < s) {vs : List Value} (h1 : ∀ v ∈ vs, v.cells.size = s) {j k : Nat} (hk : k < s) : (vs.flatMap fun v => v.cells.toList)[j * s + k]? = (vs[j]?).bind fun v => v.cells[k]? := by
  rw [Great.flat_get hs vs h1]
  have e1 : (j * s + k) / s = j := by rw [Nat.mul_comm, Nat.mul_add_div hs, Nat.div_eq_of_lt hk, Nat.add_zero]
  have e2 : (j * s + k) % s = k := by rw [Nat.mul_comm, Nat.mul_add_mod, Nat.mod_eq_of_lt hk]
  rw [e1, e2]

theorem flat_length {s : Nat} : ∀ {vs : List Value}, (∀ v ∈ vs, v.cells.size = s) → (vs.flatMap fun v => v.cells.toList).length = vs.length * s
  | [], _ => by simp
  | v :: vs, h => by
    simp only [List.flatMap_cons, List.length_append, List.length_cons, Nat.add_mul, Nat.one_mul]
    rw [flat_length (fun u hu => h u (List.mem_cons_of_mem _ hu))]
    have := h v List.mem_cons_self
    simp [this]; omega

/-- The parts of a literal as data. -/
theorem elsX_sound {sz : Nat} : ∀ (ps : List (Nat × PV)) (vs : List Value) {E : Env} {h : List AB} (k : List (List DV) → List AB → Prop), HeapRel Γ E h w → vs.length = ps.length →
    (∀ (i : Nat) (v : Value) (p : Nat × PV), vs[i]? = some v → ps[i]? = some p → Rep E w v p.2) → elsX md h sz ps k →
    ∃ es E' h', HeapRel Γ E' h' w ∧ Fr E h w E' h' w ∧ es.length = ps.length ∧ (∀ e ∈ es, e.length = sz) ∧ (∀ v ∈ vs, v.cells.size = sz) ∧
      (∀ (j : Nat) (v : Value) (e : List DV) (m : Nat) (u : Value) (d : DV), vs[j]? = some v → es[j]? = some e → v.cells[m]? = some u → e[m]? = some d → RepD E'.K w u d) ∧ k es h'
  | [], vs, E, h, k, hh, hl, hr, hk => by
    have : vs = [] := List.eq_nil_of_length_eq_zero (by simpa using hl)
    subst this
    exact ⟨[], E, h, hh, Fr.refl _ _ _, rfl, by simp, by simp, fun j v e m u d hv => by simp at hv, hk⟩
  | p :: ps, vs, E, h, k, hh, hl, hr, hk => by
    cases vs with
    | nil => simp at hl
    | cons v vs =>
    obtain ⟨i, p⟩ := p
    unfold elsX at hk
    replace hk := (need_iff _ _).1 hk
    obtain ⟨hsz, hk⟩ := hk
    have hsz : p.cells.length = sz := by simpa using hsz
    have hrep := hr 0 v (i, p) rfl rfl
    have hcells : v.cells.size = sz ∧ ∀ (m : Nat) (u : Value) (c : PV), v.cells.toList[m]? = some u → p.cells[m]? = some c → Rep E w u c := by
      have single : v.cells = #[v] → p.cells = [p] → v.cells.size = sz ∧ ∀ (m : Nat) (u : Value) (c : PV), v.cells.toList[m]? = some u → p.cells[m]? = some c → Rep E w u c := by
        intro e1 e2
        refine ⟨by rw [← hsz, e1, e2]; rfl, fun m u c hu hc => ?_⟩
        rw [e1] at hu; rw [e2] at hc
        cases m with
        | zero => simp at hu hc; subst hu; subst hc; exact hrep
        | succ m => simp at hc
      cases hrep with
      | agg vs' cs hl' h1' hr' => exact ⟨by rw [← hsz]; exact hl', fun m u c hu hc => hr' m u c (by simpa [Value.cells] using hu) hc⟩
      | d h => cases h <;> exact single rfl rfl
      | undef => exact single rfl rfl
      | tup => exact single rfl rfl
      | _ => exact single rfl rfl
    obtain ⟨ds, E1, h1, hh1, f1, hdl, hd, hk⟩ := frzs_sound p.cells v.cells.toList _ hh (by rw [hsz]; simpa using hcells.1) hcells.2 hk
    obtain ⟨es, E2, h2, hh2, f2, hel, hes, hvs, hr2, hk⟩ := elsX_sound ps vs _ hh1 (by simpa using hl) (fun i v p hv hp => (hr (i + 1) v p (by simpa using hv) (by simpa using hp)).mono f1.ext) hk
    refine ⟨ds :: es, E2, h2, hh2, f1.trans f2, by simp [hel], fun e he => ?_, fun u hu => ?_, fun j v' e m u d hv he hu hd' => ?_, hk⟩
    · simp at he
      rcases he with rfl | he
      · rw [hdl, hsz]
      · exact hes e he
    · simp at hu
      rcases hu with rfl | hu
      · exact hcells.1
      · exact hvs u hu
    · cases j with
      | zero => simp at hv he; subst hv; subst he; exact (hd m u d (by simpa using hu) hd').mono f2.ext
      | succ j => exact hr2 j v' e m u d (by simpa using hv) (by simpa using he) hu hd'

end
end Go.Proofs.Ytepgblhhajdmoaa.Eng
