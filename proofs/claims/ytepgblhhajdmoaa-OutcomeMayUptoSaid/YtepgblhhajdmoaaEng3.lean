/-
  THE ENGINE, part 3: addresses, parts, numbers, texts.
-/
import Derived.Test.YtepgblhhajdmoaaEng2
set_option linter.unusedVariables false
set_option linter.unusedSimpArgs false
namespace Go.Proofs.Ytepgblhhajdmoaa.Eng
open Go

section
variable {Γ : Ctx} {P : Program} {E : Env} {w : World} {h : List AB} {a : Act} {slots : List (Option PV)} {md : Bool}

theorem tkOf_struct {d : TypeDesc} {fs : List (Nat × Nat)} (h : tkOf d = .struct fs) : ∃ fl : Array Field, d = .struct fl ∧ fl.toList.map (fun f => (f.offset, f.type)) = fs := by
  cases d with
  | float k => cases k <;> simp [tkOf] at h
  | complex k => cases k <;> simp [tkOf] at h
  | struct fl => simp only [tkOf, TK.struct.injEq] at h; exact ⟨fl, rfl, h⟩
  | _ => simp [tkOf] at h
theorem tkOf_slice {d : TypeDesc} {e : Nat} (h : tkOf d = .slice e) : d = .slice e := by
  cases d with
  | float k => cases k <;> simp [tkOf] at h
  | complex k => cases k <;> simp [tkOf] at h
  | slice e' => simp only [tkOf, TK.slice.injEq] at h; rw [h]
  | _ => simp [tkOf] at h
theorem tkOf_arr {d : TypeDesc} {n e : Nat} (h : tkOf d = .arr n e) : d = .array n e := by
  cases d with
  | float k => cases k <;> simp [tkOf] at h
  | complex k => cases k <;> simp [tkOf] at h
  | array n' e' => simp only [tkOf, TK.arr.injEq] at h; rw [h.1, h.2]
  | _ => simp [tkOf] at h
theorem tkOf_str {d : TypeDesc} (h : tkOf d = .str) : d = .string := by
  cases d with
  | float k => cases k <;> simp [tkOf] at h
  | complex k => cases k <;> simp [tkOf] at h
  | string => rfl
  | _ => simp [tkOf] at h
theorem tkOf_int {d : TypeDesc} {k : IntKind} (h : tkOf d = .int k) : d = .int k := by
  cases d with
  | float k => cases k <;> simp [tkOf] at h
  | complex k => cases k <;> simp [tkOf] at h
  | int k' => simp only [tkOf, TK.int.injEq] at h; rw [h]
  | _ => simp [tkOf] at h
/-- of a type that is told as a struct -/
theorem struct_field {T : Nat} {i : TI} (hT : TIOK P T i) {fs : List (Nat × Nat)} (hi : i.kind = .struct fs) {f off U : Nat} (hf : nth fs f = some (off, U)) :
    ∃ fl fd, P.underlying T = some (.struct fl) ∧ fl[f]? = some fd ∧ fd.offset = off ∧ fd.type = U := by
  obtain ⟨d, hd, hk⟩ := hT.under'
  obtain ⟨fl, rfl, hfs⟩ := tkOf_struct (hk.trans hi)
  rw [← hfs, nth_eq, List.getElem?_map] at hf
  obtain ⟨fd, hfd, he⟩ := Option.map_eq_some_iff.1 hf
  simp only [Prod.mk.injEq] at he
  exact ⟨fl, fd, hd, by simpa using hfd, he.1, he.2⟩
theorem slice_under {T : Nat} {i : TI} (hT : TIOK P T i) {e : Nat} (hi : i.kind = .slice e) : P.underlying T = some (.slice e) := by
  obtain ⟨d, hd, hk⟩ := hT.under'
  rw [hd, tkOf_slice (hk.trans hi)]
theorem arr_under {T : Nat} {i : TI} (hT : TIOK P T i) {n e : Nat} (hi : i.kind = .arr n e) : P.underlying T = some (.array n e) := by
  obtain ⟨d, hd, hk⟩ := hT.under'
  rw [hd, tkOf_arr (hk.trans hi)]
theorem str_under {T : Nat} {i : TI} (hT : TIOK P T i) (hi : i.kind = .str) : P.underlying T = some .string := by
  obtain ⟨d, hd, hk⟩ := hT.under'
  rw [hd, tkOf_str (hk.trans hi)]
theorem int_under {T : Nat} {i : TI} (hT : TIOK P T i) {k : IntKind} (hi : i.kind = .int k) : P.underlying T = some (.int k) := by
  obtain ⟨d, hd, hk⟩ := hT.under'
  rw [hd, tkOf_int (hk.trans hi)]

theorem fieldAddrX_sound (hC : CtxOK Γ P) {T f : Nat} {v : Value} {p : PV} {k : PV → Prop} (hv : Rep E w v p) (hk : fieldAddrX Γ md T p f k) :
    ∃ u q, (Instr.fieldAt T v f).run P w = .ok u w ∧ Rep E w u q ∧ k q := by
  unfold fieldAddrX at hk
  replace hk := tinfo_elim hC hk
  obtain ⟨i, hT, hk⟩ := hk
  split at hk
  · rename_i fs hi
    split at hk
    · rename_i off U hf
      replace hk := tinfo_elim hC hk
      obtain ⟨u, hU, hk⟩ := hk
      replace hk := (need_iff _ _).1 hk
      obtain ⟨hpos, hk⟩ := hk
      have hpos : 0 < u.size := by simp [Nat.blt] at hpos; omega
      obtain ⟨fl, fd, hd, hfd, hoff, htype⟩ := struct_field hT hi hf
      have go : ∀ b o, v = .pointer (some ⟨b, o, none⟩) → (Instr.fieldAt T v f).run P w = .ok (.pointer (some ⟨b, o + off, none⟩)) w := by
        intro b o e
        subst e
        have hs := hU.run_sizeOf w
        simp [Instr.fieldAt, underlying, hd, hfd, Instr.sureAddr, fieldPlace, hs, add_at, Nat.ne_of_gt hpos, hoff, htype]
      cases p with
      | box b o =>
        cases hv with | box _ _ hb =>
        exact ⟨_, _, go _ _ rfl, .box b (o + off) hb, hk⟩
      | elem cs =>
        cases hv with | elem b o _ vals hK hc hr =>
        refine ⟨_, _, go _ _ rfl, .elem b (o + off) _ (fun k => vals (off + k)) hK (fun k hk => ?_) (fun k x hx => ?_), hk⟩
        · rw [Nat.add_assoc]; exact hc _ (by simp at hk; omega)
        · rw [List.getElem?_drop] at hx; exact hr _ x hx
      | rowel b n j o =>
        cases hv with | rowel g _ _ _ _ c hi hn hrv =>
        exact ⟨_, _, by rw [go _ _ rfl, Nat.add_assoc], .rowel g b n j (o + off) c hi hn hrv, hk⟩
      | _ => exact hk.elim
    · exact hk.elim
  · exact hk.elim

theorem part_sound {c : Bool} {U : Nat} {u : TI} (hU : TIOK P U u) {vs : Array Value} {cs : List PV} {off : Nat} {k : PV → Prop}
    (hv : Rep E w (.agg vs) (.agg cs)) (hk : part c u cs off k) : ∃ x q, (Go.part U vs off).run P w = .ok x w ∧ Rep E w x q ∧ k q := by
  cases hv with | agg _ _ hl h1 hr =>
  have hag := run_isAgg (w := w) hU
  unfold part at hk
  have agg : (isAgg U).run P w = .ok true w → k (.agg ((cs.drop off).take u.size)) → ∃ x q, (Go.part U vs off).run P w = .ok x w ∧ Rep E w x q ∧ k q := by
    intro hag hk
    refine ⟨.agg (vs.extract off (off + u.size)), _, by simp only [Go.part, Sem.run_bind, hag, Result.andThen_ok, if_true, hU.run_sizeOf w]; rfl, ?_, hk⟩
    refine .agg _ _ (by simp [hl]; omega) (fun x hx => h1 x (List.mem_of_mem_drop (List.mem_of_mem_take hx))) (fun j v x hv hx => ?_)
    have hj := drop_take_get hx
    rw [Array.getElem?_extract] at hv
    split at hv
    · exact hr _ v x hv hj
    · cases hv
  split at hk
  · rename_i hi
    rw [fcells_eq] at hk; rw [hi] at hag
    exact agg hag hk
  · rename_i hi
    rw [fcells_eq] at hk; rw [hi] at hag
    exact agg hag hk
  · rename_i hn1 hn2
    have hag' : (isAgg U).run P w = .ok false w := by
      rw [hag]; congr 1; unfold aggK; split
      · rename_i x hx; exact absurd hx (hn1 x)
      · rename_i x y hx; exact absurd hx (hn2 x y)
      · rfl
    split at hk
    · rename_i x hx
      rw [nth_eq] at hx
      have ho : off < vs.size := by rw [hl]; exact (List.getElem?_eq_some_iff.1 hx).1
      have he : vs[off]? = some vs[off] := Array.getElem?_eq_getElem ho
      exact ⟨vs[off], x, by simp only [Go.part, Sem.run_bind, hag', Result.andThen_ok, Bool.false_eq_true, if_false, he]; rfl, hr off _ x he hx, hk⟩
    · exact hk.elim

theorem fieldX_sound (hC : CtxOK Γ P) {c : Bool} {T f : Nat} {v : Value} {p : PV} {k : PV → Prop} (hv : Rep E w v p) (hk : fieldX Γ c T p f k) :
    ∃ u q, (Instr.field T v f).run P w = .ok u w ∧ Rep E w u q ∧ k q := by
  unfold fieldX at hk
  replace hk := tinfo_elim hC hk
  obtain ⟨i, hT, hk⟩ := hk
  split at hk
  · rename_i fs cs hi
    split at hk
    · rename_i off U hf
      replace hk := tinfo_elim hC hk
      obtain ⟨u, hU, hk⟩ := hk
      obtain ⟨fl, fd, hd, hfd, hoff, htype⟩ := struct_field hT hi hf
      cases hv with | agg vs _ hl h1 hr =>
      replace hk := part_sound hU (.agg vs cs hl h1 hr) hk
      obtain ⟨x, q, hx, hr, hk⟩ := hk
      exact ⟨x, q, by simp [Instr.field, underlying, hd, hfd, asAgg, hoff, htype, hx], hr, hk⟩
    · exact hk.elim
  · exact hk.elim

theorem indexAddrX_sound (hC : CtxOK Γ P) (hh : HeapRel Γ E h w) {T : Nat} {v vi : Value} {p pi : PV} {k : PV → Prop} (hv : Rep E w v p) (hvi : Rep E w vi pi) (hk : indexAddrX Γ md h T p pi k) :
    ∃ u q, (Instr.indexAt T v vi).run P w = .ok u w ∧ Rep E w u q ∧ k q := by
  unfold indexAddrX at hk
  replace hvi := hvi.unk
  generalize unkP pi = pi at hvi hk
  split at hk
  · rename_i kd n
    cases hvi with | d hd =>
    cases hd with | int =>
    replace hk := tinfo_elim hC hk
    obtain ⟨i, hT, hk⟩ := hk
    split at hk
    · rename_i e hi
      replace hk := tinfo_elim hC hk
      obtain ⟨u, hU, hk⟩ := hk
      have hd := slice_under hT hi
      have hs := hU.run_sizeOf w
      have go : ∀ b o len cap, v = .slice (some ⟨b, o, none⟩) len cap → 0 ≤ n → n < len → (Instr.indexAt T v (.int kd n)).run P w = .ok (.pointer (some ⟨b, o + n.toNat * u.size, none⟩)) w := by
        intro b o len cap e h0 h1
        subst e
        simp [Instr.indexAt, asIntOf, underlying, hd, hs, h0, h1, add_at]
      split at hk
      · rename_i sz es
        replace hk := (need_iff _ _).1 hk
        obtain ⟨hsz, hk⟩ := hk
        replace hk := (need_iff _ _).1 hk
        obtain ⟨hc, hk⟩ := hk
        simp only [Bool.and_eq_true, beq_iff_eq, decide_eq_true_eq] at hc hsz
        obtain ⟨h0, h1⟩ := hc
        · replace hk := elemAt_elim hk
          obtain ⟨e', he, hk⟩ := hk
          cases hv with | d hv =>
          cases hv with | sl A m c _ _ vals hn hcap hm hA hs' hr =>
          obtain ⟨b, o, rfl, hK, hcell⟩ := hA (by omega)
          have hl := hs' _ _ he
          refine ⟨_, _, go b o m c rfl h0 (by omega), .elem b _ e' (fun k => vals n.toNat k) hK (fun k hk => ?_) (fun k x hx => hr _ _ k x he hx), hk⟩
          rw [← hsz]; exact hcell n.toNat k (by omega) (by omega)
      · rename_i b m
        simp only [nth_eq] at hk
        split at hk
        · rename_i U sz xs hxs
          replace hk := (need_iff _ _).1 hk
          obtain ⟨hsz, hk⟩ := hk
          replace hk := (need_iff _ _).1 hk
          obtain ⟨hc, hk⟩ := hk
          simp only [Bool.and_eq_true, beq_iff_eq, decide_eq_true_eq] at hc hsz
          obtain ⟨⟨hlen, h0⟩, h1⟩ := hc
          cases hv with | row A _ _ c hi' hn hrv =>
          have hat := hh.at_ b _ hxs
          obtain ⟨e1, e2, e3, e4, vs, ho, hr⟩ := hat
          obtain ⟨g, rfl⟩ : ∃ g, A = some ⟨g, 0, none⟩ := by
            rw [hlen, hrv] at ho
            rcases ho.2 with ⟨he, hz⟩ | ⟨g, cap, cur, he, _⟩
            · omega
            · simp at he; exact ⟨g, he.1⟩
          refine ⟨_, _, go g 0 m c rfl h0 (by omega), ?_, hk⟩
          have := Rep.rowel (E := E) (w := w) g b m n.toNat 0 c hi' hn hrv
          rw [e1, hsz] at this
          simpa using this
        · rename_i U sz xs hxs
          replace hk := (need_iff _ _).1 hk
          obtain ⟨hsz, hk⟩ := hk
          replace hk := (need_iff _ _).1 hk
          obtain ⟨hc, hk⟩ := hk
          simp only [Bool.and_eq_true, beq_iff_eq, decide_eq_true_eq] at hc hsz
          obtain ⟨⟨hlen, h0⟩, h1⟩ := hc
          · replace hk := elemAt_elim hk
            obtain ⟨e', he, hk⟩ := hk
            cases hv with | row A _ _ c hi' hn hrv =>
            obtain ⟨_, _, hrep⟩ := hh.at_ b _ hxs
            rw [hlen, hrv] at hrep
            cases hrep with | sl _ _ _ _ _ vals hn hcap hm hA hs' hr =>
            obtain ⟨b', o, rfl, hK, hcell⟩ := hA (by omega)
            have hl := hs' _ _ he
            refine ⟨_, _, go b' o m c rfl h0 (by omega), .elem b' _ e' (fun k => vals n.toNat k) hK (fun k hk => ?_) (fun k x hx => hr _ _ k x he hx), hk⟩
            rw [← hsz]; exact hcell n.toNat k (by omega) (by omega)
        · exact hk.elim
      · exact hk.elim
    · rename_i m e hi
      replace hk := tinfo_elim hC hk
      obtain ⟨u, hU, hk⟩ := hk
      replace hk := (need_iff _ _).1 hk
      obtain ⟨hpos, hk⟩ := hk
      replace hk := (need_iff _ _).1 hk
      obtain ⟨hc, hk⟩ := hk
      simp only [Bool.and_eq_true, beq_iff_eq, decide_eq_true_eq] at hc hpos
      obtain ⟨h0, h1⟩ := hc
      have hd := arr_under hT hi
      have hs := hU.run_sizeOf w
      have go : ∀ b o, v = .pointer (some ⟨b, o, none⟩) → (Instr.indexAt T v (.int kd n)).run P w = .ok (.pointer (some ⟨b, o + n.toNat * u.size, none⟩)) w := by
        intro b o e
        subst e
        simp [Instr.indexAt, asIntOf, underlying, hd, hs, h0, h1, add_at, Instr.sureAddr]
      split at hk
      · rename_i b o
        cases hv with | box _ _ hb =>
        exact ⟨_, _, go _ _ rfl, .box b _ hb, hk⟩
      · rename_i cs
        cases hv with | elem b o _ vals hK hc hr =>
        refine ⟨_, _, go _ _ rfl, .elem b _ _ (fun k => vals (n.toNat * u.size + k)) hK (fun k hk => ?_) (fun k x hx => ?_), hk⟩
        · rw [Nat.add_assoc]; exact hc _ (by simp at hk; omega)
        · rw [List.getElem?_drop] at hx; exact hr _ x hx
      · exact hk.elim
    · exact hk.elim
  · exact hk.elim

theorem indexX_sound (hC : CtxOK Γ P) {c : Bool} {T : Nat} {v vi : Value} {p pi : PV} {k : PV → Prop} (hv : Rep E w v p) (hvi : Rep E w vi pi) (hk : indexX Γ c T p pi k) :
    ∃ u q, (Instr.index T v vi).run P w = .ok u w ∧ Rep E w u q ∧ k q := by
  unfold indexX at hk
  replace hvi := hvi.unk
  generalize unkP pi = pi at hvi hk
  split at hk
  · rename_i kd n
    cases hvi with | d hd =>
    cases hd with | int =>
    replace hk := tinfo_elim hC hk
    obtain ⟨i, hT, hk⟩ := hk
    split at hk
    · rename_i s hi
      replace hk := (need_iff _ _).1 hk
      obtain ⟨hc, hk⟩ := hk
      simp only [Bool.and_eq_true, decide_eq_true_eq] at hc
      obtain ⟨h0, h1⟩ := hc
      cases hv with | d hv =>
      cases hv with | str s =>
      have hk : ∃ b, s.data.toList[n.toNat]? = some b ∧ k (.d (.int .u8 b.toNat)) := by
        split at hk
        · split at hk
          · rename_i b hb; rw [nth_eq] at hb; exact ⟨b, hb, hk⟩
          · exact hk.elim
        · have hlt : n.toNat < s.data.toList.length := by omega
          refine ⟨s.data.toList[n.toNat], List.getElem?_eq_getElem hlt, ?_⟩
          rw [List.getD_eq_getElem?_getD, List.getElem?_eq_getElem hlt] at hk
          exact hk
      · obtain ⟨b, hb, hk⟩ := hk
        have hd := str_under hT hi
        have hb' : s[n.toNat]? = some b := by
          have : s.data[n.toNat]? = some b := by simpa using hb
          obtain ⟨hlt, he⟩ := Array.getElem?_eq_some_iff.1 this
          have hlt' : n.toNat < s.size := hlt
          rw [getElem?_pos s n.toNat hlt']
          exact congrArg some he
        exact ⟨_, _, by simp [Instr.index, asIntOf, underlying, hd, h0, hb'], .d (.int .u8 _), hk⟩
    · rename_i m e cs hi
      replace hk := tinfo_elim hC hk
      obtain ⟨u, hU, hk⟩ := hk
      replace hk := (need_iff _ _).1 hk
      obtain ⟨hc, hk⟩ := hk
      simp only [Bool.and_eq_true, decide_eq_true_eq] at hc
      obtain ⟨h0, h1⟩ := hc
      have hd := arr_under hT hi
      cases hv with | agg vs _ hl h1' hr =>
      replace hk := part_sound hU (.agg vs cs hl h1' hr) hk
      obtain ⟨x, q, hx, hr, hk⟩ := hk
      exact ⟨x, q, by simp [Instr.index, asIntOf, underlying, hd, h0, h1, hU.run_sizeOf w, hx], hr, hk⟩
    · exact hk.elim
  · exact hk.elim

end
end Go.Proofs.Ytepgblhhajdmoaa.Eng
