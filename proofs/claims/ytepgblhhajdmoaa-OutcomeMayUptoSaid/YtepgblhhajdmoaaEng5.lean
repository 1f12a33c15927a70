/-
  THE ENGINE, part 5: how the reckoned memory turns: a new entry, one that is written, one that is frozen.
-/
import Derived.Test.YtepgblhhajdmoaaEng4
set_option linter.unusedVariables false
set_option linter.unusedSimpArgs false
namespace Go.Proofs.Ytepgblhhajdmoaa.Eng
open Go

section
variable {Γ : Ctx} {P : Program} {E E' : Env} {w w' : World} {h : List AB} {md : Bool}

theorem blk_mono (hx : Ext E w E' w') {i : Nat} {ab : AB} (hi : i < E.n) (hl : ∀ T sz xs, ab = .row T sz xs → E.len i = xs.length) : BlkOf E' i ab = BlkOf E i ab := by
  cases ab with
  | box T cs => simp only [BlkOf]; rw [hx.bx i hi]
  | row T sz xs => simp only [BlkOf]; rw [hx.rv i xs.length hi (by rw [hl T sz xs rfl]; exact Nat.le_refl _)]
  | _ => rfl

theorem at_len {i : Nat} {ab : AB} (h : AtB E w i ab) : ∀ T sz xs, ab = .row T sz xs → E.len i = xs.length := by
  intro T sz xs e; subst e; exact h.2.1

theorem ownsRow_same {base : Nat} {e size n : Nat} {v : Value} {xs : List Value} (h : w.ownsRow base e size v n xs) (hb : ∀ b, v.ownBlock = some b → w'.heap[b]? = w.heap[b]?) : w'.ownsRow base e size v n xs := by
  refine ⟨h.1, ?_⟩
  rcases h.2 with h2 | ⟨g, cap, cur, rfl, h1, h2, h3⟩
  · exact .inl h2
  · exact .inr ⟨g, cap, cur, rfl, h1, by rw [hb g rfl]; exact h2, h3⟩

theorem AtB.mono (hx : Ext E w E' w') {i : Nat} {ab : AB} (hi : i < E.n) (hlen : E'.len i = E.len i) (hb : ∀ b, BlkOf E i ab = some b → w'.heap[b]? = w.heap[b]?) (h : AtB E w i ab) : AtB E' w' i ab := by
  cases ab with
  | box T cs =>
    obtain ⟨vals, hv, hl, h1, hr⟩ := h
    exact ⟨vals, by rw [hx.bx i hi, hb _ rfl]; exact hv, hl, h1, fun k v c hv hc => (hr k v c hv hc).mono hx⟩
  | row T sz xs =>
    obtain ⟨h1, h2, h3, h4, vals, ho, hr⟩ := h
    have e : E'.rv i xs.length = E.rv i xs.length := hx.rv i _ hi (by omega)
    exact ⟨(hx.sz i hi).trans h1, hlen.trans h2, h3, h4, vals, by rw [e]; exact ownsRow_same ho hb, fun j e k v d hj hk hv => (hr j e k v d hj hk hv).mono hx⟩
  | froz T sz xs =>
    obtain ⟨h1, h2, hr⟩ := h
    have e : E'.rv i xs.length = E.rv i xs.length := hx.rv i _ hi (by omega)
    exact ⟨(hx.sz i hi).trans h1, hlen.trans h2, by rw [e]; exact hr.mono hx⟩
  | dead => trivial

theorem HeapRel.lt (hh : HeapRel Γ E h w) {i : Nat} {ab : AB} (hi : h[i]? = some ab) : i < E.n := by rw [hh.n]; exact (List.getElem?_eq_some_iff.1 hi).1

/-- A live entry's block lies in memory. -/
theorem HeapRel.blk_lt (hh : HeapRel Γ E h w) {i : Nat} {ab : AB} (hi : h[i]? = some ab) {b : Nat} (hb : BlkOf E i ab = some b) : b < w.heap.size := by
  have hat := hh.at_ i ab hi
  cases ab with
  | box T cs =>
    obtain ⟨vals, hv, _⟩ := hat
    simp only [BlkOf, Option.some.injEq] at hb; subst hb
    exact (Array.getElem?_eq_some_iff.1 hv).1
  | row T sz xs =>
    obtain ⟨_, _, _, _, vals, ho, _⟩ := hat
    exact (ho.lt b hb).2
  | froz T sz xs => simp [BlkOf] at hb
  | dead => simp [BlkOf] at hb

/-- ONE ENTRY TURNS. -/
theorem HeapRel.put (hh : HeapRel Γ E h w) {i : Nat} {ab' : AB} (hi : i < h.length) (hx : Ext E w E' w') (hn : E'.n = E.n) (hK : ∀ b, E'.K b → b < w'.heap.size)
    (hlen : ∀ j, j ≠ i → E'.len j = E.len j) (hat : AtB E' w' i ab')
    (hother : ∀ j ab b, j ≠ i → h[j]? = some ab → BlkOf E j ab = some b → w'.heap[b]? = w.heap[b]? ∧ BlkOf E' i ab' ≠ some b ∧ ¬ E'.K b)
    (hnK : ∀ b, BlkOf E' i ab' = some b → ¬ E'.K b) : HeapRel Γ E' (h.set i ab') w' := by
  have look : ∀ j ab, (h.set i ab')[j]? = some ab → (j = i ∧ ab = ab') ∨ (j ≠ i ∧ h[j]? = some ab) := by
    intro j ab hj
    rw [List.getElem?_set] at hj
    split at hj
    · rename_i e
      have hj : some ab' = some ab := by first | exact hj | (split at hj; · exact hj; · cases hj)
      simp only [Option.some.injEq] at hj
      exact .inl ⟨e.symm, hj.symm⟩
    · rename_i e; exact .inr ⟨fun h => e h.symm, hj⟩
  have keep : ∀ j ab, j ≠ i → h[j]? = some ab → BlkOf E' j ab = BlkOf E j ab := fun j ab _ hj => blk_mono hx (hh.lt hj) (at_len (hh.at_ j ab hj))
  refine ⟨by simp [hn, hh.n], hK, fun j ab hj => ?_, fun j k ab ab2 b hj hk hb hb2 => ?_, fun b ⟨j, ab, hj, hb⟩ => ?_, fun g cs hg => (hh.glob g cs hg).mono hx⟩
  · rcases look j ab hj with ⟨rfl, rfl⟩ | ⟨hne, hj⟩
    · exact hat
    · exact (hh.at_ j ab hj).mono hx (hh.lt hj) (hlen j hne) (fun b hb => (hother j ab b hne hj hb).1)
  · rcases look j ab hj with ⟨e, e'⟩ | ⟨hne, hj'⟩ <;> rcases look k ab2 hk with ⟨e2, e2'⟩ | ⟨hne2, hk'⟩
    · omega
    · rw [e, e'] at hb; rw [keep k ab2 hne2 hk'] at hb2; exact absurd hb (hother k ab2 b hne2 hk' hb2).2.1
    · rw [e2, e2'] at hb2; rw [keep j ab hne hj'] at hb; exact absurd hb2 (hother j ab b hne hj' hb).2.1
    · rw [keep j ab hne hj'] at hb; rw [keep k ab2 hne2 hk'] at hb2
      exact hh.apart j k ab ab2 b hj' hk' hb hb2
  · rcases look j ab hj with ⟨rfl, rfl⟩ | ⟨hne, hj⟩
    · exact hnK b hb
    · rw [keep j ab hne hj] at hb; exact (hother j ab b hne hj hb).2.2

/-- A NEW ENTRY. -/
theorem HeapRel.add (hh : HeapRel Γ E h w) {ab' : AB} (hx : Ext E w E' w') (hn : E'.n = E.n + 1) (hK : ∀ b, E'.K b → b < w'.heap.size)
    (hlen : ∀ j, j < E.n → E'.len j = E.len j) (hat : AtB E' w' h.length ab')
    (hother : ∀ j ab b, h[j]? = some ab → BlkOf E j ab = some b → w'.heap[b]? = w.heap[b]? ∧ BlkOf E' h.length ab' ≠ some b ∧ ¬ E'.K b)
    (hnK : ∀ b, BlkOf E' h.length ab' = some b → ¬ E'.K b) : HeapRel Γ E' (h ++ [ab']) w' := by
  have look : ∀ j ab, (h ++ [ab'])[j]? = some ab → (j = h.length ∧ ab = ab') ∨ h[j]? = some ab := by
    intro j ab hj
    rcases Nat.lt_trichotomy j h.length with hlt | rfl | hgt
    · rw [List.getElem?_append_left hlt] at hj; exact .inr hj
    · simp at hj; exact .inl ⟨rfl, hj.symm⟩
    · rw [List.getElem?_eq_none (by simp; omega)] at hj; cases hj
  have keep : ∀ j ab, h[j]? = some ab → BlkOf E' j ab = BlkOf E j ab := fun j ab hj => blk_mono hx (hh.lt hj) (at_len (hh.at_ j ab hj))
  have lt : ∀ j ab, h[j]? = some ab → j < h.length := fun j ab hj => (List.getElem?_eq_some_iff.1 hj).1
  refine ⟨by simp [hn, hh.n], hK, fun j ab hj => ?_, fun j k ab ab2 b hj hk hb hb2 => ?_, fun b ⟨j, ab, hj, hb⟩ => ?_, fun g cs hg => (hh.glob g cs hg).mono hx⟩
  · rcases look j ab hj with ⟨rfl, rfl⟩ | hj
    · exact hat
    · exact (hh.at_ j ab hj).mono hx (hh.lt hj) (hlen j (hh.lt hj)) (fun b hb => (hother j ab b hj hb).1)
  · rcases look j ab hj with ⟨e, e'⟩ | hj' <;> rcases look k ab2 hk with ⟨e2, e2'⟩ | hk'
    · omega
    · rw [e, e'] at hb; rw [keep k ab2 hk'] at hb2; exact absurd hb (hother k ab2 b hk' hb2).2.1
    · rw [e2, e2'] at hb2; rw [keep j ab hj'] at hb; exact absurd hb2 (hother j ab b hj' hb).2.1
    · rw [keep j ab hj'] at hb; rw [keep k ab2 hk'] at hb2
      exact hh.apart j k ab ab2 b hj' hk' hb hb2
  · rcases look j ab hj with ⟨rfl, rfl⟩ | hj
    · exact hnK b hb
    · rw [keep j ab hj] at hb; exact (hother j ab b hj hb).2.2

/-- what is live behind a put -/
theorem foot_put (hh : HeapRel Γ E h w) {i : Nat} {ab' : AB} (hx : Ext E w E' w') {b : Nat} (hb : Foot E' (h.set i ab') b) : BlkOf E' i ab' = some b ∨ Foot E h b := by
  obtain ⟨j, ab, hj, hb⟩ := hb
  rw [List.getElem?_set] at hj
  split at hj
  · rename_i e
    split at hj
    · simp at hj; subst hj; subst e; exact .inl hb
    · cases hj
  · rw [blk_mono hx (hh.lt hj) (at_len (hh.at_ j ab hj))] at hb
    exact .inr ⟨j, ab, hj, hb⟩
theorem foot_add (hh : HeapRel Γ E h w) {ab' : AB} (hx : Ext E w E' w') {b : Nat} (hb : Foot E' (h ++ [ab']) b) : BlkOf E' h.length ab' = some b ∨ Foot E h b := by
  obtain ⟨j, ab, hj, hb⟩ := hb
  rcases Nat.lt_trichotomy j h.length with hlt | rfl | hgt
  · rw [List.getElem?_append_left hlt] at hj
    rw [blk_mono hx (hh.lt hj) (at_len (hh.at_ j ab hj))] at hb
    exact .inr ⟨j, ab, hj, hb⟩
  · simp at hj; subst hj; exact .inl hb
  · rw [List.getElem?_eq_none (by simp; omega)] at hj; cases hj

/-! ### a row's elements, as values in memory -/
/-- 'v' is a slice of these elements, that may be read in 'w'. -/
def Els (E : Env) (w : World) (v : Value) (sz : Nat) (es : List (List DV)) : Prop :=
  ∃ A c, v = .slice A es.length c ∧ es.length ≤ c ∧ es.length ≤ 9223372036854775807 ∧ (∀ e ∈ es, e.length = sz) ∧
    (0 < es.length → ∃ b o, A = some ⟨b, o, none⟩ ∧ ∃ vals : Nat → Nat → Value, ∀ (j : Nat) (e : List DV) (k : Nat) (d : DV), es[j]? = some e → e[k]? = some d →
      w.cell? ⟨b, o + j * sz + k, none⟩ = some (vals j k) ∧ RepD E.K w (vals j k) d)

theorem els_sl {v : Value} {sz : Nat} {es : List (List DV)} (h : RepD E.K w v (.sl sz es)) : Els E w v sz es := by
  cases h with | sl A n c _ _ vals hn hc hm hA hs hr =>
  subst hn
  refine ⟨A, c, rfl, hc, hm, fun e he => ?_, fun h0 => ?_⟩
  · obtain ⟨j, hj, rfl⟩ := List.getElem_of_mem he
    exact hs j _ (List.getElem?_eq_getElem hj)
  · obtain ⟨b, o, rfl, hK, hcell⟩ := hA h0
    refine ⟨b, o, rfl, vals, fun j e k d hj hk => ⟨hcell j k (List.getElem?_eq_some_iff.1 hj).1 ?_, hr j e k d hj hk⟩⟩
    rw [← hs j e hj]; exact (List.getElem?_eq_some_iff.1 hk).1

theorem els_row {i T sz : Nat} {xs : List (List DV)} (hb : AtB E w i (.row T sz xs)) : Els E w (E.rv i xs.length) sz xs := by
  have hb0 := hb
  obtain ⟨h1, h2, h3, h4, vs, ho, hr⟩ := hb
  rcases ho.2 with ⟨hv, h0⟩ | ⟨g, cap, cur, hv, _, hg, hcap, hmax, hsz, htake⟩
  · refine ⟨none, 0, by rw [hv, h0], by omega, by omega, h4, fun hp => by omega⟩
  · obtain ⟨vals, hvals⟩ := row_cells hb0 hv
    refine ⟨_, cap, hv, hcap, by simp only [maxLen] at hmax; omega, h4, fun _ => ⟨g, 0, rfl, vals, fun j e k d hj hk => ?_⟩⟩
    have := hvals j e k d hj hk
    simpa using this

theorem elems_sound (hh : HeapRel Γ E h w) {v : Value} {p : PV} {k : Nat → List (List DV) → Prop} (hv : Rep E w v p) (hk : elems md h p k) : ∃ sz es, Els E w v sz es ∧ k sz es := by
  unfold elems at hk
  split at hk
  · cases hv with | d hv => cases hv with | nil =>
    exact ⟨0, [], ⟨none, 0, rfl, Nat.le_refl _, by simp, by simp, fun h0 => by simp at h0⟩, hk⟩
  · rename_i sz es
    cases hv with | d hv => exact ⟨sz, es, els_sl hv, hk⟩
  · rename_i i n
    simp only [nth_eq] at hk
    cases hv with | row A _ _ c hi hn hrv =>
    split at hk
    · rename_i T sz xs hxs
      replace hk := (need_iff _ _).1 hk
      obtain ⟨hl, hk⟩ := hk
      have hl : xs.length = n := by simpa using hl
      refine ⟨sz, xs, ?_, hk⟩
      have := els_row (hh.at_ i _ hxs)
      rwa [hl, hrv] at this
    · rename_i T sz xs hxs
      replace hk := (need_iff _ _).1 hk
      obtain ⟨hl, hk⟩ := hk
      have hl : xs.length = n := by simpa using hl
      refine ⟨sz, xs, ?_, hk⟩
      obtain ⟨_, _, hr⟩ := hh.at_ i _ hxs
      have := els_sl hr
      rwa [hl, hrv] at this
    · exact hk.elim
  · exact hk.elim

/-! ### freezing -/
theorem row_repD {i T sz : Nat} {xs : List (List DV)} (hb : AtB E w i (.row T sz xs)) {K : Nat → Prop} (hE : ∀ b, E.K b → K b) (hK : ∀ b, (E.rv i xs.length).ownBlock = some b → K b) : RepD K w (E.rv i xs.length) (.sl sz xs) := by
  have hb0 := hb
  obtain ⟨h1, h2, h3, h4, vs, ho, hr⟩ := hb
  have hs : ∀ (j : Nat) (e : List DV), xs[j]? = some e → e.length = sz := fun j e hj => h4 e (List.mem_of_getElem? hj)
  rcases ho.2 with ⟨hv, h0⟩ | ⟨g, cap, cur, hv, _, hg, hcap, hmax, hsz, htake⟩
  · rw [hv]
    have : xs = [] := List.eq_nil_of_length_eq_zero h0
    subst this
    exact .sl none 0 0 sz [] (fun _ _ => undef) rfl (Nat.le_refl _) (by simp) (fun h0 => by simp at h0) hs (fun j e k d hj => by simp at hj)
  · obtain ⟨vals, hvals⟩ := row_cells hb0 hv
    rw [hv]
    refine .sl _ _ cap sz xs vals rfl hcap (by simp only [maxLen] at hmax; omega) (fun _ => ⟨g, 0, rfl, hK g (by rw [hv]; rfl), fun j k hj hk => ?_⟩) hs (fun j e k d hj hk => ?_)
    · obtain ⟨e, he⟩ : ∃ e, xs[j]? = some e := ⟨xs[j], List.getElem?_eq_getElem hj⟩
      obtain ⟨d, hd⟩ : ∃ d, e[k]? = some d := ⟨e[k]'(by rw [hs j e he]; exact hk), List.getElem?_eq_getElem _⟩
      have := (hvals j e k d he hd).1
      simpa using this
    · exact (hvals j e k d hj hk).2.ext hE (fun b _ => rfl)

theorem frz_sound (hh : HeapRel Γ E h w) {v : Value} {p : PV} {k : DV → List AB → Prop} (hv : Rep E w v p) (hk : frz md h p k) :
    ∃ d E' h', HeapRel Γ E' h' w ∧ Fr E h w E' h' w ∧ RepD E'.K w v d ∧ k d h' := by
  unfold frz at hk
  split at hk
  · cases hv with | d hv => exact ⟨_, E, h, hh, Fr.refl _ _ _, hv, hk⟩
  · rename_i f
    cases hv with | clo _ vs _ hl hr =>
    have : vs = #[] := by apply Array.eq_empty_of_size_eq_zero; simpa using hl
    subst this
    exact ⟨_, E, h, hh, Fr.refl _ _ _, .fn f, hk⟩
  · rename_i i n
    simp only [nth_eq] at hk
    cases hv with | row A _ _ c hi hn hrv =>
    split at hk
    · rename_i T sz xs hxs
      replace hk := (need_iff _ _).1 hk
      obtain ⟨hl, hk⟩ := hk
      have hl : xs.length = n := by simpa using hl
      rw [upd_eq] at hk
      have hat := hh.at_ i _ hxs
      have hil : i < h.length := (List.getElem?_eq_some_iff.1 hxs).1
      let E' : Env := { E with K := fun b => E.K b ∨ (E.rv i xs.length).ownBlock = some b }
      have hx : Ext E w E' w := ⟨fun b hb => .inl hb, fun _ _ => rfl, Nat.le_refl _, fun _ _ => rfl, fun _ _ => Nat.le_refl _, fun _ _ _ _ => rfl, fun _ _ => rfl⟩
      have hrep : RepD E'.K w (E.rv i xs.length) (.sl sz xs) := row_repD hat (fun b hb => .inl hb) (fun b hb => .inr hb)
      have hh' : HeapRel Γ E' (h.set i (.froz T sz xs)) w := by
        refine hh.put hil hx rfl (fun b hb => ?_) (fun _ _ => rfl) ⟨hat.1, hat.2.1, hrep⟩ (fun j ab b hj hjab hb => ⟨rfl, by simp [BlkOf], ?_⟩) (fun b hb => by simp [BlkOf] at hb)
        · rcases hb with hb | hb
          · exact hh.K b hb
          · exact hh.blk_lt hxs hb
        · intro hk
          rcases hk with hk | hk
          · exact hh.notK b ⟨j, ab, hjab, hb⟩ hk
          · exact hj (hh.apart j i ab _ b hjab hxs hb hk)
      refine ⟨_, E', _, hh', ⟨rfl, rfl, rfl, Nat.le_refl _, fun _ _ _ => rfl, hx, fun b hb => ?_, fun b hb => ?_⟩, ?_, hk⟩
      · rcases hb with hb | hb
        · exact .inl hb
        · exact .inr (.inr ⟨i, _, hxs, hb⟩)
      · rcases foot_put hh hx hb with hb | hb
        · simp [BlkOf] at hb
        · exact .inr hb
      · rw [← hrv, ← hl]; exact hrep
    · rename_i T sz xs hxs
      replace hk := (need_iff _ _).1 hk
      obtain ⟨hl, hk⟩ := hk
      have hl : xs.length = n := by simpa using hl
      obtain ⟨_, _, hr⟩ := hh.at_ i _ hxs
      refine ⟨_, E, h, hh, Fr.refl _ _ _, ?_, hk⟩
      rwa [hl, hrv] at hr
    · exact hk.elim
  · exact hk.elim

end
end Go.Proofs.Ytepgblhhajdmoaa.Eng
