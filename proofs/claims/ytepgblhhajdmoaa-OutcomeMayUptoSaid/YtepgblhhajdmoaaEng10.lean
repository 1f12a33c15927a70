/-
  THE ENGINE, part 10: parts of slices and texts, conversions, new rows of zeros, structs put together.
-/
import Derived.Test.YtepgblhhajdmoaaEng9
set_option linter.unusedVariables false
set_option linter.unusedSimpArgs false
namespace Go.Proofs.Ytepgblhhajdmoaa.Eng
open Go

section
variable {Γ : Ctx} {P : Program} {E E' : Env} {w w' : World} {h : List AB} {md : Bool}

/-- a bound, said or not -/
def BoundRel (E : Env) (w : World) (o : Option Value) (p : Option PV) : Prop :=
  match o with | none => p = none | some v => ∃ q, p = some q ∧ Rep E w v q

theorem bound_elim {o : Option Value} {p : Option PV} {d : Int} {k : Int → Prop} (hr : BoundRel E w o p) (hk : bound p d k) :
    ∃ n, ((o = none ∧ n = d) ∨ ∃ kd, o = some (.int kd n)) ∧ k n := by
  unfold bound at hk
  cases o with
  | none =>
    have : p = none := hr
    subst this
    exact ⟨d, .inl ⟨rfl, rfl⟩, hk⟩
  | some v =>
    obtain ⟨q, rfl, hq⟩ := hr
    replace hq := hq.unk
    dsimp only at hk
    generalize unkP q = q' at hq hk
    split at hk
    · cases hq with | d hq => cases hq with | int =>
      exact ⟨_, .inr ⟨_, rfl⟩, hk⟩
    · exact hk.elim

theorem bounds_run (isSlice : Bool) {len cap : Nat} (hc : len ≤ cap) {lo hi : Option Value} {l r : Int} (hlo : (lo = none ∧ l = 0) ∨ ∃ kd, lo = some (.int kd l)) (hhi : (hi = none ∧ r = len) ∨ ∃ kd, hi = some (.int kd r))
    (h0 : 0 ≤ l) (h1 : l ≤ r) (h2 : r ≤ cap) : (Instr.sliceBounds isSlice len cap lo hi none).run P w = .ok (l.toNat, r.toNat, cap) w := by
  have eh : (r.toNat : Int) = r := Int.toNat_of_nonneg (by omega)
  have h0r : 0 ≤ r := by omega
  rcases hlo with ⟨rfl, rfl⟩ | ⟨kl, rfl⟩ <;> rcases hhi with ⟨rfl, rfl⟩ | ⟨kh, rfl⟩ <;>
    simp [Instr.sliceBounds, run_sliceBound, *] <;> (try omega)

theorem repD_slice {K : Nat → Prop} {A : Option Addr} {n c sz : Nat} {es : List (List DV)} (hv : RepD K w (.slice A n c) (.sl sz es)) {l r : Nat} (h1 : l ≤ r) (h2 : r ≤ es.length) :
    RepD K w (sliced A l r c sz) (.sl sz ((es.take r).drop l)) := by
  cases hv with
  | sl A n c sz es vals hn hc hm hA hs hr =>
    have hget : ∀ (j : Nat) (e : List DV), ((es.take r).drop l)[j]? = some e → es[l + j]? = some e ∧ l + j < r := by
      intro j e hj
      rw [List.getElem?_drop, List.getElem?_take] at hj
      split at hj
      · exact ⟨hj, by omega⟩
      · cases hj
    refine .sl _ (r - l) (c - l) sz _ (fun j => vals (l + j)) (by rw [List.length_drop, List.length_take]; omega) (by omega) (by omega) (fun h0 => ?_) (fun j e hj => hs _ e (hget j e hj).1) (fun j e k d hj hk => hr _ e k d (hget j e hj).1 hk)
    obtain ⟨b, o, rfl, hb, hcell⟩ := hA (by omega)
    have hne : ¬ (c = l) := by omega
    refine ⟨b, o + l * sz, by simp only [hne, if_false, Option.map_some]; rw [add_at], hb, fun j k hj hk => ?_⟩
    have := hcell (l + j) k (by omega) hk
    rw [Nat.add_mul] at this
    rw [show o + l * sz + j * sz + k = o + (l * sz + j * sz) + k by omega]
    exact this

theorem repD_sl_size {K : Nat → Prop} {v : Value} {sz : Nat} {es : List (List DV)} (hv : RepD K w v (.sl sz es)) : ∃ A n c, v = .slice A n c ∧ es.length = n ∧ n ≤ c := by
  cases hv with | sl A n c _ _ vals hn hc => exact ⟨A, n, c, rfl, hn, hc⟩

theorem extract_data (s : ByteArray) (l r : Nat) : (s.extract l r).data.toList = (s.data.toList.take r).drop l := by
  rw [ByteArray.data_extract, Array.toList_extract, List.extract_eq_take_drop, List.drop_take]

theorem sliceX_sound (hC : CtxOK Γ P) (hh : HeapRel Γ E h w) {T : Nat} {v : Value} {p : PV} {lo hi : Option Value} {pl ph : Option PV} {kt : PV → List AB → Prop} (hv : Rep E w v p) (hlo : BoundRel E w lo pl) (hhi : BoundRel E w hi ph)
    (hk : sliceX Γ md h T p pl ph kt) : ∃ r s E' h', HeapRel Γ E' h' w ∧ Fr E h w E' h' w ∧ (Instr.sliceAt T v lo hi none).run P w = .ok r w ∧ Rep E' w r s ∧ kt s h' := by
  unfold sliceX at hk
  replace hk := tinfo_elim hC hk
  obtain ⟨i, hT, hk⟩ := hk
  replace hk := bound_elim hlo hk
  obtain ⟨l, hl, hk⟩ := hk
  have hiE : ∀ {d : Nat} {k : Int → Prop}, bound ph d k → ∃ r : Int, ((hi = none ∧ r = d) ∨ ∃ kd, hi = some (.int kd r)) ∧ k r := fun hk => bound_elim hhi hk
  split at hk
  · rename_i s hi'
    have hd := str_under hT hi'
    cases hv with | d hv => cases hv with | str s =>
    obtain ⟨r, hr, hk⟩ := hiE hk
    replace hk := (need_iff _ _).1 hk
    obtain ⟨hc, hk⟩ := hk
    simp only [Bool.and_eq_true, decide_eq_true_eq, size_data] at hc
    rw [size_data] at hr
    have hb := bounds_run (P := P) (w := w) false (Nat.le_refl s.size) hl hr hc.1.1 hc.1.2 hc.2
    refine ⟨.string (s.extract l.toNat r.toNat), _, E, h, hh, Fr.refl _ _ _, ?_, ?_, hk⟩
    · simp [Instr.sliceAt, run_underlying hd, Instr.slice, hb]
    · rw [← extract_data]
      exact .d (.str _ (by simp; omega))
  · rename_i e hi'
    have hd := slice_under hT hi'
    replace hk := tinfo_elim hC hk
    obtain ⟨u, hU, hk⟩ := hk
    replace hk := hiE (d := 0) hk
    obtain ⟨r, hr, hk⟩ := hk
    replace hk := (need_iff _ _).1 hk
    obtain ⟨hc, hk⟩ := hk
    simp only [Bool.and_eq_true, beq_iff_eq] at hc
    obtain ⟨e1, e2⟩ := hc
    subst e1; subst e2
    cases hv with | d hv => cases hv with | nil =>
    have hb := bounds_run (P := P) (w := w) true (Nat.le_refl 0) hl (by simpa using hr) (Int.le_refl _) (Int.le_refl _) (Int.le_refl _)
    refine ⟨.slice none 0 0, _, E, h, hh, Fr.refl _ _ _, ?_, .d .nil, hk⟩
    simp [Instr.sliceAt, run_underlying hd, Instr.slice, hb, hU.run_sizeOf w]
  · rename_i e hi' hnn
    have hd := slice_under hT hi'
    replace hk := tinfo_elim hC hk
    obtain ⟨u, hU, hk⟩ := hk
    obtain ⟨d, E', h', hh', f, hrep, hk⟩ := frz_sound hh hv hk
    split at hk
    · rename_i sz es
      obtain ⟨r, hr, hk⟩ := hiE hk
      replace hk := (need_iff _ _).1 hk
      obtain ⟨hc0, hk⟩ := hk
      replace hk := (need_iff _ _).1 hk
      obtain ⟨hc, hk⟩ := hk
      simp only [Bool.and_eq_true, decide_eq_true_eq, beq_iff_eq] at hc hc0
      obtain ⟨A, n, c, rfl, hn, hnc⟩ := repD_sl_size hrep
      have hb := bounds_run (P := P) (w := w) true hnc hl (by rw [← hn]; exact hr) hc.1.1 hc.1.2 (by omega)
      refine ⟨_, _, E', h', hh', f, ?_, .d (repD_slice hrep (by omega) (by omega)), hk⟩
      simp [Instr.sliceAt, run_underlying hd, Instr.slice, hb, hU.run_sizeOf w, sliced, hc0]
    · exact hk.elim
  · exact hk.elim

theorem bytesEls_flat {s : ByteArray} : (bytesEls s.data.toList).length = s.size := by rw [bytesEls, List.length_map, size_data]

theorem intsOf {es : List (List DV)} (hb : es.all isByteEl = true) : ∀ (j : Nat) (e : List DV), es[j]? = some e → ∃ n, e = [.int .u8 n] := by
  intro j e he
  have := List.all_eq_true.1 hb e (List.mem_of_getElem? he)
  unfold isByteEl at this
  split at this
  · exact ⟨_, rfl⟩
  · cases this

def numOf : List DV → Int
  | [.int _ n] => n
  | _ => 0

theorem convX_sound (hC : CtxOK Γ P) (hh : HeapRel Γ E h w) {S T : Nat} {v : Value} {p : PV} {kt : PV → List AB → Prop} (hv : Rep E w v p) (hk : convX Γ md h S T p kt) :
    ∃ r s E' w', HeapRel Γ E' h w' ∧ Fr E h w E' h w' ∧ (convert S T v).run P w = .ok r w' ∧ Rep E' w' r s ∧ kt s h := by
  unfold convX at hk
  replace hk := tinfo_elim hC hk
  obtain ⟨i, hS, hk⟩ := hk
  replace hk := tinfo_elim hC hk
  obtain ⟨t, hT, hk⟩ := hk
  obtain ⟨ds, hds, hks⟩ := hS.under'
  replace hv := hv.unk
  generalize unkP p = p at hv hk
  split at hk
  · rename_i k _ n hi
    have hd := int_under hT hi
    cases hv with | d hv => cases hv with | int =>
    refine ⟨_, _, E, w, hh, Fr.refl _ _ _, ?_, .d (.int _ _), hk⟩
    cases ds <;> simp [convert, run_underlying hds, run_underlying hd, Conv.intToInt]
  · rename_i s hi
    have hd := str_under hT hi
    cases hv with | d hv => cases hv with | str s hsz =>
    refine ⟨.string s, _, E, w, hh, Fr.refl _ _ _, ?_, .d (.str _ hsz), hk⟩
    cases ds <;> simp [convert, run_underlying hds, run_underlying hd]
  · rename_i e s hi
    have hd := slice_under hT hi
    replace hk := tinfo_elim hC hk
    obtain ⟨u, hU, hk⟩ := hk
    split at hk
    · rename_i hu
      have hde := int_under hU hu
      replace hk := (need_iff _ _).1 hk
      obtain ⟨hsm, hk⟩ := hk
      cases hv with | d hv => cases hv with | str s =>
      have hsm : s.size ≤ mostBytes := by simpa [size_data] using hsm
      obtain ⟨g1, g2⟩ := grow_sound (w' := Lib.bytesWorld w e s) hh rfl rfl rfl (by rw [Lib.bytesWorld_size]; omega) (fun b hb => Lib.bytesWorld_at_old w e s b hb)
      refine ⟨_, _, _, _, g1, g2, Lib.run_convert_string_bytes w S T e s hds hd hde, .d ?_, hk⟩
      have hcap : s.size ≤ grownCap w s.size 0 e := grownCap_ge w s.size 0 e
      refine .sl _ s.size _ 1 _ (fun j _ => .int .u8 ((s.data.toList.getD j 0).toNat)) bytesEls_flat hcap (by unfold mostBytes at hsm; omega) (fun h0 => ⟨w.heap.size, 0, rfl, .inr ⟨Nat.le_refl _, by rw [Lib.bytesWorld_size]; omega⟩, fun j k hj hk => ?_⟩) (fun j e he => ?_) (fun j e k d he hd => ?_)
      · have : k = 0 := by omega
        subst this
        rw [show 0 + j * 1 + 0 = j by omega]
        exact Lib.bytesWorld_cell w e s j hj
      · obtain ⟨b, hb, rfl⟩ := List.getElem?_map .. ▸ he |> Option.map_eq_some_iff.1
        rfl
      · obtain ⟨b, hb, rfl⟩ := List.getElem?_map .. ▸ he |> Option.map_eq_some_iff.1
        cases k with
        | zero =>
          simp at hd; subst hd
          rw [List.getD_eq_getElem?_getD, hb]
          exact .int _ _
        | succ k => simp at hd
    · exact hk.elim
  · rename_i hi _
    have hd := str_under hT hi
    split at hk
    · rename_i e hsi
      have hse := slice_under hS hsi
      replace hk := tinfo_elim hC hk
      obtain ⟨u, hU, hk⟩ := hk
      split at hk
      · rename_i hu
        have hde := int_under hU hu
        obtain ⟨sz, es, hE, hk⟩ := elems_sound hh hv hk
        replace hk := (need_iff _ _).1 hk
        obtain ⟨hb, hk⟩ := hk
        obtain ⟨A, c, rfl, hc, hm, hes, hA⟩ := hE
        have hbytes : (strOfNums (es.map numOf)).data.toList = es.map byteOf := by
          rw [strOfNums_data, List.map_map]
          refine List.map_congr_left fun e he => ?_
          obtain ⟨j, hj, rfl⟩ := List.getElem_of_mem he
          obtain ⟨n, hn⟩ := intsOf hb j _ (List.getElem?_eq_getElem hj)
          simp [hn, numOf, byteOf]
        have hrep : Rep E w (.string (strOfNums (es.map numOf))) (.d (.str (es.map byteOf))) := by
          rw [← hbytes]; refine .d (.str _ ?_)
          have : (strOfNums (es.map numOf)).data.toList.length = es.length := by rw [hbytes, List.length_map]
          rw [size_data] at this; omega
        refine ⟨_, _, E, w, hh, Fr.refl _ _ _, ?_, hrep, hk⟩
        rcases Nat.eq_zero_or_pos es.length with h0 | h0
        · have : es = [] := List.eq_nil_of_length_eq_zero h0
          subst this
          cases A with
          | none => exact run_convert_bytes_nil w S e hse hde _ c T hd
          | some a =>
            rw [run_convert_bytes_string w S T e (some a) _ c hse hde hd]
            exact run_bytesToString w a 0 c [] (by simp [loadCells, loadCellsFrom])
        · obtain ⟨b, o, rfl, vals, hcell⟩ := hA h0
          refine run_convert_bytes_arg w S e hse hde b o es.length c (es.map numOf) (by simp) (fun j hj => ?_) T hd
          obtain ⟨n, hn⟩ := intsOf hb j _ (List.getElem?_eq_getElem hj)
          have hsz : sz = 1 := by rw [← hes _ (List.getElem_mem hj), hn]; rfl
          obtain ⟨g1, g2⟩ := hcell j _ 0 (.int .u8 n) (List.getElem?_eq_getElem hj) (by rw [hn]; rfl)
          cases g2' : vals j 0 <;> rw [g2'] at g2 <;> cases g2
          rw [hsz, g2'] at g1
          rw [show o + j * 1 + 0 = o + j by omega] at g1
          rw [g1]
          simp [List.getD, hj, hn, numOf]
      · exact hk.elim
    · exact hk.elim
  · exact hk.elim

/-- A NEW ROW OF ZEROS. -/
theorem make_sound (hC : CtxOK Γ P) (hh : HeapRel Γ E h w) {T e : Nat} {i u : TI} (hT : TIOK P T i) (hi : i.kind = .slice e) (hU : TIOK P e u) {n : Nat} (hfit : n * u.bytes ≤ mostBytes) (hpos : 0 < u.size) (hby : 0 < u.bytes) :
    ∃ E' w' v, HeapRel Γ E' (h ++ [.row e u.size (List.replicate n (u.zero.map unkD))]) w' ∧ Fr E h w E' (h ++ [.row e u.size (List.replicate n (u.zero.map unkD))]) w' ∧ Rep E' w' v (.row h.length n) ∧
      (Instr.makeSlice T (.int .i64 n) (.int .i64 n)).run P w = .ok v w' := by
  have hd := slice_under hT hi
  obtain ⟨j, z, hj, hsz, hbys, hz, hdz⟩ := hU.info'
  have hn : n ≤ n * u.bytes := Nat.le_mul_of_pos_right _ hby
  obtain ⟨w', hrun, hown, hg⟩ := run_make_full (P := P) w 0 T e j z u.size hd hj hz hsz .i64 .i64 n (by rw [hbys, Nat.mul_comm]; unfold mostBytes at hfit; omega) (by unfold maxLen; unfold mostBytes at hfit; omega) (Nat.zero_le _)
  have hzs : z.cells.size = u.size := by have := dvsOfV_size hdz; rw [hU.zl] at this; simpa using this
  have hzl : ∀ e' ∈ List.replicate n (u.zero.map unkD), e'.length = u.size := fun e' he => by rw [List.eq_of_mem_replicate he, List.length_map]; exact hU.zl
  obtain ⟨E', g1, g2, g3⟩ := add_row (xs := List.replicate n (u.zero.map unkD)) hh hg hpos hzl (by rw [List.length_replicate]; exact hown) (fun b hb => by simp [Value.ownBlock] at hb; omega) (fun q e' m x d hq hm hx => by
    have hq' := List.getElem?_eq_some_iff.1 hq
    obtain ⟨hqn, hqe⟩ := hq'
    rw [List.length_replicate] at hqn
    rw [List.getElem_replicate] at hqe
    subst hqe
    rw [List.getElem?_map] at hm
    obtain ⟨d, hm', rfl⟩ := Option.map_eq_some_iff.1 hm
    replace hm := hm'
    clear hm'
    have hms : m < u.size := by rw [← hU.zl]; exact (List.getElem?_eq_some_iff.1 hm).1
    have hlt : q * u.size + m < n * u.size := by
      calc q * u.size + m < q * u.size + u.size := by omega
        _ = (q + 1) * u.size := by rw [Nat.add_mul, Nat.one_mul]
        _ ≤ n * u.size := Nat.mul_le_mul_right _ hqn
    have hmod : (q * u.size + m) % u.size = m := by rw [Nat.add_comm, Nat.add_mul_mod_self_right]; exact Nat.mod_eq_of_lt hms
    have hmz : m < z.cells.size := by omega
    have hx' : x = z.cells[m]'hmz := by
      have : (madeCells z.cells (n * u.size)).toList[q * u.size + m]? = some (z.cells[m]'hmz) := by
        simp [madeCells, hlt, hzs, hmod]
        exact getElem!_pos z.cells m hmz
      rw [this] at hx
      exact (Option.some.inj hx).symm
    rw [hx']
    exact ((dvsOfV_rep (K := E.K) (w := w) hdz).2 m _ _ (by rw [Array.getElem?_toList]; exact Array.getElem?_eq_getElem hmz) hm).unk)
  rw [List.length_replicate] at g3
  exact ⟨E', w', _, g1, g2, g3, hrun⟩

end
end Go.Proofs.Ytepgblhhajdmoaa.Eng
