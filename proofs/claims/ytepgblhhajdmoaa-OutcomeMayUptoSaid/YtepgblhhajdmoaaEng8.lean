/-
  THE ENGINE, part 8: literals, append, make, texts as bytes, slices of slices.
-/
import Derived.Test.YtepgblhhajdmoaaEng7
set_option linter.unusedVariables false
set_option linter.unusedSimpArgs false
namespace Go.Proofs.Ytepgblhhajdmoaa.Eng
open Go

section
variable {Γ : Ctx} {P : Program} {E E' : Env} {w w' : World} {h : List AB} {a : Act} {slots : List (Option PV)} {md : Bool}

theorem withParts_rep (hh : HeapRel Γ E h w) (hs : SlotsRel E w a.tmps slots) : ∀ {l : List (Nat × Operand)} {k : List (Nat × PV) → Prop}, withParts Γ slots l k →
    ∃ ps, ps.length = l.length ∧ ps.map Prod.fst = l.map Prod.fst ∧ (∀ (i : Nat) (v : Value) (p : Nat × PV), (l.map fun x => a.eval x.2)[i]? = some v → ps[i]? = some p → Rep E w v p.2) ∧ k ps
  | [], k, hk => ⟨[], rfl, rfl, fun i v p hv => by simp at hv, hk⟩
  | (n, x) :: r, k, hk => by
    unfold withParts at hk
    obtain ⟨p, hp, hk⟩ := withO_rep hh hs hk
    obtain ⟨ps, hl, hf, hr, hk⟩ := withParts_rep hh hs hk
    refine ⟨(n, p) :: ps, by simp [hl], by simp [hf], fun i v q hv hq => ?_, hk⟩
    cases i with
    | zero => simp at hv hq; subst hv; subst hq; exact hp
    | succ i => exact hr i v q (by simpa using hv) (by simpa using hq)

theorem inOrder_zip : ∀ (n : Nat) (ps : List (Nat × PV)) (l : List (Nat × Operand)), ps.map Prod.fst = l.map Prod.fst → inOrder n ps = true →
    l.map (fun x => (x.1, a.eval x.2)) = ((l.map fun x => a.eval x.2).zipIdx n).map fun x => (x.2, x.1)
  | n, [], [], _, _ => rfl
  | n, [], _ :: _, h, _ => by simp at h
  | n, _ :: _, [], h, _ => by simp at h
  | n, (i, p) :: ps, (j, x) :: l, h, ho => by
    simp only [List.map_cons, List.cons.injEq] at h
    simp only [inOrder, Bool.and_eq_true] at ho
    have hi : i = n := by simpa [Nat.beq_eq] using ho.1
    have hj : j = n := by rw [← h.1]; exact hi
    subst hj
    simp only [List.map_cons, List.zipIdx_cons]
    rw [inOrder_zip (j + 1) ps l h.2 ho.2]

theorem dvsOfV_size {l : List Value} {xs : List DV} (h : dvsOfV l = some xs) : l.length = xs.length := (dvsOfV_rep (K := fun _ => True) (w := default) h).1

/-- A SLICE LITERAL. -/
theorem buildSlice_sound (hC : CtxOK Γ P) (hh : HeapRel Γ E h w) {T e : Nat} {i u : TI} (hT : TIOK P T i) (hi : i.kind = .slice e) (hU : TIOK P e u) {l : List (Nat × Operand)} {n : Nat} {ps : List (Nat × PV)}
    (hl : ps.length = l.length) (hf : ps.map Prod.fst = l.map Prod.fst) (hr : ∀ (i : Nat) (v : Value) (p : Nat × PV), (l.map fun x => a.eval x.2)[i]? = some v → ps[i]? = some p → Rep E w v p.2)
    (ho : inOrder 0 ps = true) (hn : ps.length = n) (hpos : 0 < u.size) (hsmall : n * u.size ≤ 16777216) {k : List (List DV) → List AB → Prop} (hk : elsX md h u.size ps k) :
    ∃ es E' h' w' v, HeapRel Γ E' (h' ++ [.row e u.size es]) w' ∧ Fr E h w E' (h' ++ [.row e u.size es]) w' ∧ es.length = n ∧ Rep E' w' v (.row h'.length n) ∧
      (Instr.buildSlice T n (l.map fun x => (x.1, a.eval x.2)).toArray).run P w = .ok v w' ∧ k es h' := by
  have hd := slice_under hT hi
  obtain ⟨j, z, hj, hsz, hby, hz, hdz⟩ := hU.info'
  obtain ⟨es, E1, h1, hh1, f1, hel, hes, hvs, hrep, hk⟩ := elsX_sound ps (l.map fun x => a.eval x.2) k hh (by simp [hl]) hr hk
  have hvl : (l.map fun x => a.eval x.2).length = n := by rw [← hn, hl]; simp
  have helen : es.length = n := hel.trans hn
  have hzip := inOrder_zip (a := a) 0 ps l hf ho
  -- the row's cells
  let cells : List Value := (l.map fun x => a.eval x.2).flatMap fun v => v.cells.toList
  have hcl : cells.length = n * u.size := by rw [← hvl]; exact flat_length hvs
  have hrun : (Instr.buildSlice T n (l.map fun x => (x.1, a.eval x.2)).toArray).run P w = .ok (.slice (some ⟨w.heap.size, 0, none⟩) n n) (w.alloc (.cells cells.toArray e)) := by
    rcases Nat.eq_zero_or_pos n with h0 | h0
    · have hl0 : l = [] := List.eq_nil_of_length_eq_zero (by omega)
      subst hl0
      subst h0
      have : cells = [] := List.eq_nil_of_length_eq_zero (by rw [hcl]; simp)
      rw [this]
      have hr0 : Array.range 0 = #[] := Array.eq_empty_of_size_eq_zero (by simp)
      simp [Instr.buildSlice, run_underlying hd, hU.run_sizeOf w, Instr.fill, newRow, hr0]
    · refine run_buildSlice w T e n _ _ j z hd hj hz (by rw [hsz]; omega) (by rw [hsz]; have := Nat.mul_pos h0 hpos; omega) ?_
      rw [hsz]
      simp only [hzip]
      exact Great.fill_whole hpos _ _ hvs (by rw [hvl]; simp)
  have hmx : n ≤ maxLen := by
    have : n * 1 ≤ n * u.size := Nat.mul_le_mul_left _ hpos
    unfold maxLen; omega
  have hown : (w.alloc (.cells cells.toArray e)).ownsRow 0 e u.size (.slice (some ⟨w.heap.size, 0, none⟩) es.length n) es.length cells := by
    rw [helen]
    have := World.ownsRow_lit (base := 0) (e := e) (size := u.size) w cells.toArray n (Nat.zero_le _) hmx (by simpa using hcl)
    simpa using this
  obtain ⟨E2, hh2, f2, hrep2⟩ := add_row hh1 (World.grownBy_alloc w _ none) hpos hes hown (fun b hb => by simp [Value.ownBlock] at hb; omega) (fun q e' m x d hq hm hx => by
    have hms : m < u.size := by rw [← hes e' (List.mem_of_getElem? hq)]; exact (List.getElem?_eq_some_iff.1 hm).1
    rw [flat_at hpos hvs hms] at hx
    obtain ⟨v, hv, hvc⟩ := Option.bind_eq_some_iff.1 hx
    exact hrep q v e' m x d hv hq hvc hm)
  exact ⟨es, E2, h1, _, _, hh2, f1.trans f2, helen, by rw [helen] at hrep2; exact hrep2, hrun, hk⟩

/-! ### append -/
theorem els_flat {v : Value} {sz : Nat} {es : List (List DV)} (hE : Els E w v sz es) (h0 : 0 < es.length) :
    ∃ (ad : Addr) (c : Nat) (news : List Value), v = .slice (some ad) es.length c ∧ news.length = es.length * sz ∧ (∀ (j : Nat) (u : Value), news[j]? = some u → w.cell? (ad.add j) = some u) ∧ (∀ u ∈ news, u.oneCell' = true) ∧
      (∀ (j : Nat) (e : List DV) (k : Nat) (u : Value) (d : DV), es[j]? = some e → e[k]? = some d → news[j * sz + k]? = some u → RepD E.K w u d) := by
  obtain ⟨A, c, rfl, hc, hm, hs, hA⟩ := hE
  obtain ⟨b, o, rfl, vals, hv⟩ := hA h0
  have hdiv : ∀ m, m < es.length * sz → 0 < sz ∧ m / sz < es.length ∧ m % sz < sz := by
    intro m hmm
    have hp : 0 < sz := Nat.pos_of_ne_zero (fun e => by subst e; simp at hmm)
    exact ⟨hp, (Nat.div_lt_iff_lt_mul hp).2 hmm, Nat.mod_lt _ hp⟩
  have cell : ∀ m, m < es.length * sz → ∃ d, w.cell? ⟨b, o + m, none⟩ = some (vals (m / sz) (m % sz)) ∧ RepD E.K w (vals (m / sz) (m % sz)) d := by
    intro m hmm
    obtain ⟨hp, hq, hr⟩ := hdiv m hmm
    have he : es[m / sz]? = some es[m / sz] := List.getElem?_eq_getElem hq
    have hlen := hs _ (List.getElem_mem hq)
    have hd : (es[m / sz])[m % sz]? = some ((es[m / sz])[m % sz]'(by omega)) := List.getElem?_eq_getElem _
    obtain ⟨h1, h2⟩ := hv _ _ _ _ he hd
    refine ⟨_, ?_, h2⟩
    have : o + m / sz * sz + m % sz = o + m := by rw [Nat.add_assoc, Nat.mul_comm, Nat.div_add_mod]
    rw [this] at h1
    exact h1
  have get : ∀ (j : Nat) (u : Value), ((List.range (es.length * sz)).map fun m => vals (m / sz) (m % sz))[j]? = some u → j < es.length * sz ∧ u = vals (j / sz) (j % sz) := by
    intro j u hj
    rw [List.getElem?_map] at hj
    obtain ⟨m, hm', rfl⟩ := Option.map_eq_some_iff.1 hj
    obtain ⟨hlt, e⟩ := List.getElem?_eq_some_iff.1 hm'
    simp at hlt e
    subst e
    exact ⟨hlt, rfl⟩
  refine ⟨⟨b, o, none⟩, c, (List.range (es.length * sz)).map fun m => vals (m / sz) (m % sz), rfl, by simp, fun j u hj => ?_, fun u hu => ?_, fun j e k u d hj hk hu => ?_⟩
  · obtain ⟨hlt, rfl⟩ := get j u hj
    obtain ⟨d, h1, _⟩ := cell j hlt
    rw [add_at]; exact h1
  · simp only [List.mem_map, List.mem_range] at hu
    obtain ⟨m, hm', rfl⟩ := hu
    obtain ⟨d, _, h2⟩ := cell m hm'
    exact h2.one
  · obtain ⟨hlt, rfl⟩ := get _ u hu
    have hks : k < sz := by rw [← hs e (List.mem_of_getElem? hj)]; exact (List.getElem?_eq_some_iff.1 hk).1
    have hp : 0 < sz := by omega
    have e1 : (j * sz + k) / sz = j := by rw [Nat.mul_comm, Nat.mul_add_div hp, Nat.div_eq_of_lt hks, Nat.add_zero]
    have e2 : (j * sz + k) % sz = k := by rw [Nat.mul_comm, Nat.mul_add_mod, Nat.mod_eq_of_lt hks]
    rw [e1, e2]
    exact (hv j e k d hj hk).2

/-- nothing is appended -/
theorem run_append_none {T T2 e : Nat} {i u : TI} (hT : TIOK P T i) (hi : i.kind = .slice e) (hU : TIOK P e u) {ty : Nat} {A : Option Addr} {n c : Nat} (hc : n ≤ c) {B : Option Addr} {c2 : Nat} :
    (Builtin.append_ #[T, T] ty #[.slice A n c, .slice B 0 c2]).run P w = .ok (.slice A n c) w := by
  have hd := slice_under hT hi
  have hs := hU.run_sizeOf w
  cases A <;> cases B <;> simp [Builtin.append_, run_underlying hd, hs, Builtin.lenOf, Builtin.firstCells, hc, storeCells, loadCells, loadCellsFrom]

theorem append_row_sound (hC : CtxOK Γ P) (hh : HeapRel Γ E h w) {T e : Nat} {i u : TI} (hT : TIOK P T i) (hi : i.kind = .slice e) (hU : TIOK P e u) {b sz : Nat} {xs new : List (List DV)} (hb : h[b]? = some (.row e sz xs))
    {vx : Value} (hx : Els E w vx u.size new) (hsz : sz = u.size) (hpos : 0 < u.size) (hby : 0 < u.bytes) (hfit : (xs.length + new.length) * u.bytes ≤ mostBytes) {ty : Nat} :
    ∃ E' w' v, HeapRel Γ E' (h.set b (.row e sz (xs ++ new))) w' ∧ Fr E h w E' (h.set b (.row e sz (xs ++ new))) w' ∧ Rep E' w' v (.row b (xs ++ new).length) ∧
      (Builtin.append_ #[T, T] ty #[E.rv b xs.length, vx]).run P w = .ok v w' := by
  subst hsz
  have hd := slice_under hT hi
  obtain ⟨j, z, hj, hsz, hbys, hz, hdz⟩ := hU.info'
  obtain ⟨e1, e2, e3, e4, vals, ho, hr⟩ := hh.at_ b _ hb
  have hx' := hx
  obtain ⟨A0, c0, hvx, _, _, hes, _⟩ := hx
  have hnew : ∀ e ∈ xs ++ new, e.length = u.size := fun e he => by
    rcases List.mem_append.1 he with he | he
    · exact e4 e he
    · obtain ⟨_, _, _, _, _, hs, _⟩ := hx'; exact hs e he
  rcases Nat.eq_zero_or_pos new.length with h0 | h0
  · have hn0 : new = [] := List.eq_nil_of_length_eq_zero h0
    subst hn0
    obtain ⟨A, c, hv⟩ := own_form ho
    have hcap : xs.length ≤ c := by
      rw [hv] at ho
      rcases ho.2 with ⟨hv', h0'⟩ | ⟨g, cap, cur, hv', _, _, hcap, _⟩
      · omega
      · simp at hv'; omega
    have hset : h.set b (.row e u.size (xs ++ [])) = h := by
      rw [List.append_nil]
      apply List.ext_getElem?
      intro k
      rw [List.getElem?_set]
      split
      · rename_i hk; subst hk
        split
        · exact hb.symm
        · rename_i hn; exact absurd (List.getElem?_eq_some_iff.1 hb).1 hn
      · rfl
    rw [hset]
    refine ⟨E, w, E.rv b xs.length, hh, Fr.refl _ _ _, ?_, ?_⟩
    · rw [List.append_nil, hv]
      exact .row A b xs.length c (hh.lt hb) (by omega) hv
    · rw [hv, hvx]; simp only [List.length_nil]
      exact run_append_none (T2 := T) hT hi hU hcap
  · obtain ⟨ad, c, news, hvx, hnl, hcells, hone, hrep⟩ := els_flat hx' h0
    have hmost : (xs.length + new.length) ≤ (xs.length + new.length) * u.bytes := Nat.le_mul_of_pos_right _ hby
    have hzs : z.cells.size = u.size := by have := dvsOfV_size hdz; rw [hU.zl] at this; simpa using this
    have hml : xs.length + new.length ≤ maxLen := by unfold maxLen; unfold mostBytes at hfit; omega
    obtain ⟨v', w', hrun, hown, hgr, _, hblk⟩ := run_append_own_at (P := P) w 0 T ty e j z u.size u.bytes hd hj hz hsz hbys hzs hpos (E.rv b xs.length) xs.length vals ho ad new.length c news hnl hcells hone hml hfit (Nat.zero_le _)
    have hold : ∀ k, E.K k → w'.heap[k]? = w.heap[k]? := fun k hk => hgr.block k (hh.K k hk) (fun e => hh.notK k ⟨b, _, hb, e.symm⟩ hk)
    obtain ⟨E', g1, g2, g3, _⟩ := upd_row hh hb hgr (xs' := xs ++ new) hnew (by rw [List.length_append]; exact hown) (fun k hk => by
        rcases hblk with hq | hq
        · exact .inl (by rw [← hq]; exact hk)
        · rw [hq] at hk; simp at hk; exact .inr (by omega))
      (.inl (by simp; omega)) (fun q e' m x d hq hm hx => by
        have hms : m < u.size := by rw [← hnew e' (List.mem_of_getElem? hq)]; exact (List.getElem?_eq_some_iff.1 hm).1
        have hvl : vals.length = xs.length * u.size := ho.1
        rcases Nat.lt_or_ge q xs.length with hlt | hge
        · rw [List.getElem?_append_left hlt] at hq
          have hb' : q * u.size + m < vals.length := by
            rw [hvl]
            calc q * u.size + m < q * u.size + u.size := by omega
              _ = (q + 1) * u.size := by rw [Nat.add_mul, Nat.one_mul]
              _ ≤ xs.length * u.size := Nat.mul_le_mul_right _ hlt
          rw [List.getElem?_append_left hb'] at hx
          exact (hr q e' m x d hq hm hx).ext (fun _ h => h) hold
        · rw [List.getElem?_append_right hge] at hq
          have hsub : q * u.size + m = vals.length + ((q - xs.length) * u.size + m) := by
            rw [hvl, ← Nat.add_assoc, ← Nat.add_mul, Nat.add_sub_cancel' hge]
          rw [hsub, List.getElem?_append_right (by omega), Nat.add_sub_cancel_left] at hx
          exact (hrep _ e' m x d hq hm hx).ext (fun _ h => h) hold)
    exact ⟨E', w', v', g1, g2, g3, by rw [hvx]; exact hrun⟩

/-- onto a nil slice -/
theorem append_nil_sound (hC : CtxOK Γ P) (hh : HeapRel Γ E h w) {T e : Nat} {i u : TI} (hT : TIOK P T i) (hi : i.kind = .slice e) (hU : TIOK P e u) {new : List (List DV)}
    {vx : Value} (hx : Els E w vx u.size new) (hpos : 0 < u.size) (hby : 0 < u.bytes) (hfit : new.length * u.bytes ≤ mostBytes) {ty : Nat} :
    ∃ E' w' v, HeapRel Γ E' (h ++ [.row e u.size new]) w' ∧ Fr E h w E' (h ++ [.row e u.size new]) w' ∧ Rep E' w' v (.row h.length new.length) ∧
      (Builtin.append_ #[T, T] ty #[.slice none 0 0, vx]).run P w = .ok v w' := by
  have hd := slice_under hT hi
  obtain ⟨j, z, hj, hsz, hbys, hz, hdz⟩ := hU.info'
  have hx' := hx
  obtain ⟨A0, c0, hvx0, _, _, hes, _⟩ := hx
  rcases Nat.eq_zero_or_pos new.length with hz0 | h0
  · have hnil : new = [] := List.eq_nil_of_length_eq_zero hz0
    subst hnil
    obtain ⟨E', g1, g2, g3⟩ := add_row (T := e) (sz := u.size) (xs := []) (v := .slice none 0 0) (vals := []) hh (w' := w) ⟨rfl, rfl, rfl, Nat.le_refl _, fun _ _ _ => rfl⟩ hpos hes (World.ownsRow_nil w 0 e u.size)
      (fun k hk => by simp [Value.ownBlock] at hk) (fun q e' m x d hq => by simp at hq)
    exact ⟨E', w, _, g1, g2, g3, by rw [hvx0]; exact run_append_none (T2 := T) hT hi hU (Nat.le_refl 0)⟩
  obtain ⟨ad, c, news, hvx, hnl, hcells, hone, hrep⟩ := els_flat hx' h0
  have hmost : new.length ≤ new.length * u.bytes := Nat.le_mul_of_pos_right _ hby
  have hzs : z.cells.size = u.size := by have := dvsOfV_size hdz; rw [hU.zl] at this; simpa using this
  have hml : 0 + new.length ≤ maxLen := by unfold maxLen; unfold mostBytes at hfit; omega
  obtain ⟨v', w', hrun, hown, hgr, _, hblk⟩ := run_append_own_at (P := P) w 0 T ty e j z u.size u.bytes hd hj hz hsz hbys hzs hpos (.slice none 0 0) 0 [] (World.ownsRow_nil w 0 e u.size) ad new.length c news hnl hcells hone hml
    (by rw [Nat.zero_add]; exact hfit) (Nat.zero_le _)
  rw [Nat.zero_add, List.nil_append] at hown
  obtain ⟨E', g1, g2, g3⟩ := add_row hh hgr hpos hes hown (fun k hk => by
      rcases hblk with hq | hq
      · rw [hq] at hk; simp [Value.ownBlock] at hk
      · rw [hq] at hk; simp at hk; omega) hrep
  exact ⟨E', w', v', g1, g2, g3, by rw [hvx]; exact hrun⟩

end
end Go.Proofs.Ytepgblhhajdmoaa.Eng
