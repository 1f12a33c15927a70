/-
  THE ENGINE, part 13: what a call hands back; builtin functions.
-/
import Derived.Test.YtepgblhhajdmoaaEng12
set_option linter.unusedVariables false
set_option linter.unusedSimpArgs false
namespace Go.Proofs.Ytepgblhhajdmoaa.Eng
open Go

section
variable {Γ : Ctx} {P : Program} {E E' : Env} {w w' : World} {h : List AB} {a : Act} {slots : List (Option PV)} {md : Bool}

theorem belows_mem {n : Nat} : ∀ {cs : List PV}, belows n cs = true → ∀ c ∈ cs, c.under n = true
  | [], _, c, hc => by cases hc
  | x :: r, h, c, hc => by
    simp only [belows, Bool.and_eq_true] at h
    rcases List.mem_cons.1 hc with rfl | hc
    · exact h.1
    · exact belows_mem h.2 c hc

/-- what speaks of no number from n on stands for the same where these numbers say the same -/
structure Agree (n : Nat) (E E' : Env) : Prop where
  K : ∀ b, E.K b → E'.K b
  le : n ≤ E'.n
  bx : ∀ i, i < n → E'.bx i = E.bx i
  rv : ∀ i m, i < n → E'.rv i m = E.rv i m
  len : ∀ i, i < n → E'.len i = E.len i
  sz : ∀ i, i < n → E'.sz i = E.sz i

theorem Rep.cut {n : Nat} (ha : Agree n E E') {v : Value} {p : PV} (h : Rep E w v p) (hu : p.under n = true) : Rep E' w v p := by
  have get : ∀ {cs : List PV} {i : Nat} {c : PV}, belows n cs = true → cs[i]? = some c → c.under n = true := fun hb hc => belows_mem hb _ (List.mem_of_getElem? hc)
  induction h with
  | d h => exact .d (h.ext ha.K fun _ _ => rfl)
  | undef => exact .undef
  | agg vs cs hl h1 hr ih => simp only [PV.under] at hu; exact .agg vs cs hl h1 fun i v c hv hc => ih i v c hv hc (get hu hc)
  | tup vs cs hl hr ih => simp only [PV.under] at hu; exact .tup vs cs hl fun i v c hv hc => ih i v c hv hc (get hu hc)
  | box i off h =>
    simp only [PV.under, Nat.blt_eq] at hu
    rw [← ha.bx i hu]
    exact .box i off (Nat.lt_of_lt_of_le hu ha.le)
  | elem b o cs vals hK hc hr => exact .elem b o cs vals (ha.K b hK) hc fun k x hk => (hr k x hk).ext ha.K fun _ _ => rfl
  | row A i m c h hn hv =>
    simp only [PV.under, Nat.blt_eq] at hu
    exact .row A i m c (Nat.lt_of_lt_of_le hu ha.le) (by rw [ha.len i hu]; exact hn) ((ha.rv i m hu).trans hv)
  | rowel g i m j off c h hn hv =>
    simp only [PV.under, Nat.blt_eq] at hu
    rw [← ha.sz i hu]
    exact .rowel g i m j off c (Nat.lt_of_lt_of_le hu ha.le) (by rw [ha.len i hu]; exact hn) ((ha.rv i m hu).trans hv)
  | clo f vs cs hl hr ih => simp only [PV.under] at hu; exact .clo f vs cs hl fun i v c hv hc => ih i v c hv hc (get hu hc)
  | ifc t v c h ih => simp only [PV.under] at hu; exact .ifc t v c (ih hu)

/-- nothing that is made may be spoken of from below -/
theorem Rep.none {v : Value} {p : PV} (h : Rep E w v p) (hn : E.n = 0) : p.under 0 = true := by
  have all : ∀ {cs : List PV}, (∀ c ∈ cs, c.under 0 = true) → belows 0 cs = true := by
    intro cs
    induction cs with
    | nil => intro _; rfl
    | cons x r ih => intro h; simp only [belows, Bool.and_eq_true]; exact ⟨h x List.mem_cons_self, ih fun c hc => h c (List.mem_cons_of_mem _ hc)⟩
  have idx : ∀ {vs : Array Value} {cs : List PV}, vs.size = cs.length → (∀ (i : Nat) (v : Value) (c : PV), vs[i]? = some v → cs[i]? = some c → c.under 0 = true) → belows 0 cs = true := by
    intro vs cs hl h
    refine all fun c hc => ?_
    obtain ⟨i, hi, rfl⟩ := List.getElem_of_mem hc
    exact h i vs[i] _ (Array.getElem?_eq_getElem (by omega)) (List.getElem?_eq_getElem hi)
  induction h with
  | d h => rfl
  | undef => rfl
  | agg vs cs hl h1 hr ih => simp only [PV.under]; exact idx hl ih
  | tup vs cs hl hr ih => simp only [PV.under]; exact idx hl ih
  | box i off h => omega
  | elem b o cs vals hK hc hr => rfl
  | row A i m c h => omega
  | rowel g i m j off c h => omega
  | clo f vs cs hl hr ih => simp only [PV.under]; exact idx hl ih
  | ifc t v c h ih => simpa only [PV.under] using ih

theorem under_cut {n m : Nat} (h : n ≤ m) {v : Value} {p : PV} : p.under n = true → p.under n = true := id

/-! ### rows left open are shut -/
mutual
theorem shutV_sound : ∀ (p : PV) {E : Env} {h : List AB} {v : Value} {k : PV → List AB → Prop}, HeapRel Γ E h w → Rep E w v p → shutV md p h k →
    ∃ q E' h', HeapRel Γ E' h' w ∧ Fr E h w E' h' w ∧ Rep E' w v q ∧ q.one = p.one ∧ k q h'
  | .row i n, E, h, v, k, hh, hv, hk => by
    simp only [shutV] at hk
    obtain ⟨d, E', h', g1, g2, g3, g4⟩ := frz_sound hh hv hk
    exact ⟨.d d, E', h', g1, g2, .d g3, rfl, g4⟩
  | .agg cs, E, h, v, k, hh, hv, hk => by
    simp only [shutV] at hk
    cases hv with | agg vs _ hl h1 hr =>
    obtain ⟨qs, E', h', g1, g2, g3, g4, g5, g6⟩ := shutL_sound cs hh hl hr hk
    refine ⟨.agg qs, E', h', g1, g2, .agg vs qs g3 (fun c hc => ?_) g4, rfl, g6⟩
    have : c.one ∈ qs.map PV.one := List.mem_map_of_mem hc
    rw [g5] at this
    obtain ⟨x, hx, he⟩ := List.mem_map.1 this
    rw [← he]; exact h1 x hx
  | .tup cs, E, h, v, k, hh, hv, hk => by
    simp only [shutV] at hk
    cases hv with | tup vs _ hl hr =>
    obtain ⟨qs, E', h', g1, g2, g3, g4, g5, g6⟩ := shutL_sound cs hh hl hr hk
    exact ⟨.tup qs, E', h', g1, g2, .tup vs qs g3 g4, rfl, g6⟩
  | .d x, E, h, v, k, hh, hv, hk => by simp only [shutV] at hk; exact ⟨_, E, h, hh, Fr.refl _ _ _, hv, rfl, hk⟩
  | .undef, E, h, v, k, hh, hv, hk => by simp only [shutV] at hk; exact ⟨_, E, h, hh, Fr.refl _ _ _, hv, rfl, hk⟩
  | .box i o, E, h, v, k, hh, hv, hk => by simp only [shutV] at hk; exact ⟨_, E, h, hh, Fr.refl _ _ _, hv, rfl, hk⟩
  | .elem cs, E, h, v, k, hh, hv, hk => by simp only [shutV] at hk; exact ⟨_, E, h, hh, Fr.refl _ _ _, hv, rfl, hk⟩
  | .rowel i n j o, E, h, v, k, hh, hv, hk => by simp only [shutV] at hk; exact ⟨_, E, h, hh, Fr.refl _ _ _, hv, rfl, hk⟩
  | .clo f cs, E, h, v, k, hh, hv, hk => by simp only [shutV] at hk; exact ⟨_, E, h, hh, Fr.refl _ _ _, hv, rfl, hk⟩
  | .ifc t c, E, h, v, k, hh, hv, hk => by
    simp only [shutV] at hk
    cases hv with | ifc _ v _ hc =>
    obtain ⟨q, E', h', g1, g2, g3, g4, g5⟩ := shutV_sound c hh hc hk
    exact ⟨.ifc t q, E', h', g1, g2, .ifc t v q g3, rfl, g5⟩
theorem shutL_sound : ∀ (cs : List PV) {E : Env} {h : List AB} {vs : Array Value} {k : List PV → List AB → Prop}, HeapRel Γ E h w → vs.size = cs.length →
    (∀ (i : Nat) (v : Value) (c : PV), vs[i]? = some v → cs[i]? = some c → Rep E w v c) → shutL md cs h k →
    ∃ qs E' h', HeapRel Γ E' h' w ∧ Fr E h w E' h' w ∧ vs.size = qs.length ∧ (∀ (i : Nat) (v : Value) (c : PV), vs[i]? = some v → qs[i]? = some c → Rep E' w v c) ∧ qs.map PV.one = cs.map PV.one ∧ k qs h'
  | [], E, h, vs, k, hh, hl, hr, hk => by
    simp only [shutL] at hk
    exact ⟨[], E, h, hh, Fr.refl _ _ _, hl, hr, rfl, hk⟩
  | c :: cs, E, h, vs, k, hh, hl, hr, hk => by
    simp only [shutL] at hk
    have h0 : 0 < vs.size := by simp only [List.length_cons] at hl; omega
    obtain ⟨q, E1, h1, g1, g2, g3, g4, hk⟩ := shutV_sound c hh (hr 0 vs[0] c (Array.getElem?_eq_getElem h0) rfl) hk
    have hsz : (vs.extract 1 vs.size).size = cs.length := by simp only [List.length_cons] at hl; simp; omega
    obtain ⟨qs, E2, h2, f1, f2, f3, f4, f5, hk⟩ := shutL_sound cs (vs := vs.extract 1 vs.size) g1 hsz (fun i v c hv hc => by
      refine (hr (i + 1) v c ?_ (by simpa using hc)).mono g2.ext
      rw [Array.getElem?_extract] at hv
      split at hv
      · rw [Nat.add_comm]; exact hv
      · cases hv) hk
    refine ⟨q :: qs, E2, h2, f1, g2.trans f2, by simp only [List.length_cons] at hl ⊢; omega, fun i v c' hv hc => ?_, by simp [f5, g4], hk⟩
    cases i with
    | zero =>
      simp at hc; subst hc
      rw [Array.getElem?_eq_getElem h0] at hv
      cases hv
      exact g3.mono f2.ext
    | succ i =>
      refine f4 i v c' ?_ (by simpa using hc)
      have hi : i + 1 < vs.size := (Array.getElem?_eq_some_iff.1 hv).1
      rw [Array.getElem?_extract, if_pos (by omega), Nat.add_comm]
      exact hv
end

theorem settleL_sound : ∀ (cs : List PV) {E : Env} {h : List AB} {vs : Array Value} {k : List PV → List AB → Prop}, HeapRel Γ E h w → vs.size = cs.length →
    (∀ (i : Nat) (v : Value) (c : PV), vs[i]? = some v → cs[i]? = some c → Rep E w v c) → settleL md cs h k →
    ∃ qs E' h', HeapRel Γ E' h' w ∧ Fr E h w E' h' w ∧ vs.size = qs.length ∧ (∀ (i : Nat) (v : Value) (c : PV), vs[i]? = some v → qs[i]? = some c → Rep E' w v c) ∧ k qs h'
  | [], E, h, vs, k, hh, hl, hr, hk => by
    simp only [settleL] at hk
    exact ⟨[], E, h, hh, Fr.refl _ _ _, hl, hr, hk⟩
  | c :: cs, E, h, vs, k, hh, hl, hr, hk => by
    have h0 : 0 < vs.size := by simp only [List.length_cons] at hl; omega
    have hsz : (vs.extract 1 vs.size).size = cs.length := by simp only [List.length_cons] at hl; simp; omega
    have step : ∃ q E1 h1, HeapRel Γ E1 h1 w ∧ Fr E h w E1 h1 w ∧ Rep E1 w vs[0] q ∧ settleL md cs h1 fun r h => k (q :: r) h := by
      unfold settleL at hk
      split at hk
      · rename_i he; cases he
      · rename_i ds r he
        simp only [List.cons.injEq] at he
        obtain ⟨rfl, rfl⟩ := he
        obtain ⟨q, E1, h1, g1, g2, g3, g4, hk⟩ := shutV_sound (.agg ds) hh (hr 0 vs[0] _ (Array.getElem?_eq_getElem h0) rfl) hk
        exact ⟨q, E1, h1, g1, g2, g3, hk⟩
      · rename_i r hna he
        simp only [List.cons.injEq] at he
        obtain ⟨rfl, rfl⟩ := he
        exact ⟨c, E, _, hh, Fr.refl _ _ _, hr 0 vs[0] c (Array.getElem?_eq_getElem h0) rfl, hk⟩
    obtain ⟨q, E1, h1, g1, g2, g3, hk⟩ := step
    obtain ⟨qs, E2, h2, f1, f2, f3, f4, hk⟩ := settleL_sound cs (vs := vs.extract 1 vs.size) g1 hsz (fun i v c hv hc => by
      refine (hr (i + 1) v c ?_ (by simpa using hc)).mono g2.ext
      rw [Array.getElem?_extract] at hv
      split at hv
      · rw [Nat.add_comm]; exact hv
      · cases hv) hk
    refine ⟨q :: qs, E2, h2, f1, g2.trans f2, by simp only [List.length_cons] at hl ⊢; omega, fun i v c' hv hc => ?_, hk⟩
    cases i with
    | zero =>
      simp at hc; subst hc
      rw [Array.getElem?_eq_getElem h0] at hv
      cases hv
      exact g3.mono f2.ext
    | succ i =>
      refine f4 i v c' ?_ (by simpa using hc)
      have hi : i + 1 < vs.size := (Array.getElem?_eq_some_iff.1 hv).1
      rw [Array.getElem?_extract, if_pos (by omega), Nat.add_comm]
      exact hv

theorem settle_sound (hh : HeapRel Γ E h w) {v : Value} {p : PV} {k : PV → List AB → Prop} (hv : Rep E w v p) (hk : settle md h p k) :
    ∃ q E' h', HeapRel Γ E' h' w ∧ Fr E h w E' h' w ∧ Rep E' w v q ∧ k q h' := by
  unfold settle at hk
  split at hk
  · obtain ⟨q, E', h', g1, g2, g3, _, g5⟩ := shutV_sound _ hh hv hk
    exact ⟨q, E', h', g1, g2, g3, g5⟩
  · cases hv with | tup vs _ hl hr =>
    obtain ⟨qs, E', h', g1, g2, g3, g4, g5⟩ := settleL_sound _ hh hl hr hk
    exact ⟨.tup qs, E', h', g1, g2, .tup vs qs g3 g4, g5⟩
  · exact ⟨_, E, h, hh, Fr.refl _ _ _, hv, hk⟩

theorem abelow_get {n : Nat} : ∀ {h : List AB}, abelow n h = true → ∀ (i : Nat) (T : Nat) (cs : List PV), h[i]? = some (.box T cs) → belows n cs = true
  | [], _, i, T, cs, hi => by simp at hi
  | x :: r, h, i, T, cs, hi => by
    cases i with
    | zero =>
      simp at hi; subst hi
      simp only [abelow, Bool.and_eq_true] at h
      exact h.1
    | succ i =>
      refine abelow_get (h := r) ?_ i T cs (by simpa using hi)
      cases x <;> simp_all [abelow]

/-- WHAT A CALL MADE FALLS AWAY. -/
theorem trim_sound {E0 : Env} {h0 : List AB} {w0 : World} (hn : E0.n = h0.length) (f : Fr E0 h0 w0 E h w) (hh : HeapRel Γ E h w) {v : Value} {r : PV} (hr : Rep E w v r) {k : PV → List AB → Prop} (hk : trim h0.length r h k) :
    ∃ E' h', HeapRel Γ E' h' w ∧ Fr E0 h0 w0 E' h' w ∧ Rep E' w v r ∧ k r h' := by
  unfold trim at hk
  rw [takeK_eq] at hk
  split at hk
  · rename_i hc
    simp only [Bool.and_eq_true] at hc
    obtain ⟨hu, hb⟩ := hc
    have hle : h0.length ≤ h.length := by rw [← hn, ← hh.n]; exact f.ext.n
    let E' : Env := { E with n := h0.length }
    have hag : Agree h0.length E E' := ⟨fun _ h => h, Nat.le_refl _, fun _ _ => rfl, fun _ _ _ => rfl, fun _ _ => rfl, fun _ _ => rfl⟩
    have hget : ∀ {i : Nat} {ab : AB}, (h.take h0.length)[i]? = some ab → h[i]? = some ab ∧ i < h0.length := fun hi => by
      rw [List.getElem?_take] at hi
      split at hi
      · exact ⟨hi, by assumption⟩
      · cases hi
    have hblk : ∀ i ab, BlkOf E' i ab = BlkOf E i ab := fun i ab => by cases ab <;> rfl
    have hfoot : ∀ b, Foot E' (h.take h0.length) b → Foot E h b := fun b ⟨i, ab, hi, hib⟩ => ⟨i, ab, (hget hi).1, by rw [← hblk]; exact hib⟩
    have hh' : HeapRel Γ E' (h.take h0.length) w := by
      refine ⟨by show h0.length = _; rw [List.length_take]; omega, hh.K, fun i ab hi => ?_, fun i j ab ab' b hi hj h1 h2 => ?_, fun b hf => hh.notK b (hfoot b hf), fun g cs hg => (hh.glob g cs hg).cut hag rfl⟩
      · have ha := hh.at_ i ab (hget hi).1
        cases ab with
        | box T cs =>
          obtain ⟨vals, a1, a2, a3, a4⟩ := ha
          exact ⟨vals, a1, a2, a3, fun k v c hv hc => (a4 k v c hv hc).cut hag (belows_mem (abelow_get hb i T cs hi) c (List.mem_of_getElem? hc))⟩
        | row T sz xs => exact ha
        | froz T sz xs => exact ha
        | dead => trivial
      · rw [hblk] at h1 h2
        exact hh.apart i j ab ab' b (hget hi).1 (hget hj).1 h1 h2
    refine ⟨E', _, hh', ⟨f.os, f.tape, f.output, f.size, f.same, ⟨f.ext.K, f.ext.same, by rw [hn]; exact Nat.le_refl _, f.ext.bx, f.ext.len, f.ext.rv, f.ext.sz⟩, f.newK, fun b hb => f.foot b (hfoot b hb)⟩, hr.cut hag hu, hk⟩
  · exact ⟨E, h, hh, f, hr, hk⟩

/-! ### results -/
def resOne (tmps : Array Value) : ResultVar → Sem Value
  | .tmp t => pure (tmps.getD t undef)
  | .cell a t => do loadVar t (← asAddr (tmps.getD a undef))
theorem resultsX_sound (hC : CtxOK Γ P) (hh : HeapRel Γ E h w) (hs : SlotsRel E w a.tmps slots) {c : Bool} : ∀ (rs : List ResultVar) (k : List PV → Prop), resultsX Γ c h slots rs k →
    ∃ vs ps, (rs.mapM (resOne a.tmps)).run P w = .ok vs w ∧ vs.length = ps.length ∧
      (∀ (i : Nat) (v : Value) (p : PV), vs[i]? = some v → ps[i]? = some p → Rep E w v p) ∧ k ps
  | [], k, hk => by
    simp only [resultsX] at hk
    exact ⟨[], [], by simp, rfl, fun i v p hv => by simp at hv, hk⟩
  | .tmp t :: r, k, hk => by
    simp only [resultsX, nth_eq] at hk
    split at hk
    · rename_i v hv
      obtain ⟨u, hu, hr⟩ := hs.2 t v hv
      obtain ⟨vs, ps, e1, e2, e3, e4⟩ := resultsX_sound hC hh hs r _ hk
      refine ⟨u :: vs, v :: ps, ?_, by simp [e2], fun i x p hx hp => ?_, e4⟩
      · have : a.tmps.getD t undef = u := by simp [Array.getD_eq_getD_getElem?, hu]
        simp only [List.mapM_cons, resOne, Sem.run_bind, Sem.run_pure, Result.andThen_ok, this]
        rw [e1]; rfl
      · cases i with
        | zero => simp at hx hp; subst hx; subst hp; exact hr
        | succ i => exact e3 i x p (by simpa using hx) (by simpa using hp)
    · exact hk.elim
  | .cell x T :: r, k, hk => by
    simp only [resultsX, nth_eq] at hk
    split at hk
    · rename_i v hv
      obtain ⟨u, hu, hr⟩ := hs.2 x v hv
      obtain ⟨y, q, g1, g2, hk⟩ := loadX_sound hC hh hr hk
      obtain ⟨vs, ps, e1, e2, e3, e4⟩ := resultsX_sound hC hh hs r _ hk
      refine ⟨y :: vs, q :: ps, ?_, by simp [e2], fun i x p hx hp => ?_, e4⟩
      · have : a.tmps.getD x undef = u := by simp [Array.getD_eq_getD_getElem?, hu]
        have hl : (do loadVar T (← asAddr u) : Sem Value).run P w = .ok y w := by
          cases u <;> simp [Instr.loadAt, Instr.sureAddr] at g1
          rename_i ad
          cases ad <;> simp [Instr.loadAt, Instr.sureAddr] at g1
          simpa [asAddr] using g1
        simp only [List.mapM_cons, resOne, this]
        simp only [Sem.run_bind] at hl ⊢
        rw [hl]
        simp only [Result.andThen_ok]
        rw [e1]; rfl
      · cases i with
        | zero => simp at hx hp; subst hx; subst hp; exact g2
        | succ i => exact e3 i x p (by simpa using hx) (by simpa using hp)
    · exact hk.elim

theorem results_sound (hC : CtxOK Γ P) (hh : HeapRel Γ E h w) (hs : SlotsRel E w a.tmps slots) {c : Bool} {F : Func} {k : PV → Prop} (hk : resultsX Γ c h slots F.results.toList fun vs => oneOrTup vs k) :
    ∃ v p, (results F a.tmps).run P w = .ok v w ∧ Rep E w v p ∧ k p := by
  obtain ⟨vs, ps, e1, e2, e3, e4⟩ := resultsX_sound hC hh hs _ _ hk
  have hrun : (results F a.tmps).run P w = .ok (if h : vs.toArray.size = 1 then vs.toArray[0] else .tuple vs.toArray) w := by
    have hfun : results F a.tmps = (F.results.mapM (resOne a.tmps) >>= fun vs => (pure (if h : vs.size = 1 then vs[0] else .tuple vs) : Sem Value)) := by
      unfold results
      congr 1
    rw [hfun, Array.mapM_eq_mapM_toList]
    simp only [Sem.run_bind, map_eq_pure_bind, e1, Result.andThen_ok, Sem.run_pure]
  unfold oneOrTup at e4
  split at e4
  · rename_i p
    obtain ⟨v, rfl⟩ : ∃ v, vs = [v] := by
      cases vs with
      | nil => simp at e2
      | cons v r => cases r with
        | nil => exact ⟨v, rfl⟩
        | cons => simp at e2
    exact ⟨v, p, by simpa using hrun, e3 0 v p rfl rfl, e4⟩
  · rename_i hne
    have h1 : ¬ vs.length = 1 := fun h1 => by
      rw [e2] at h1
      match ps, h1 with
      | [p], _ => exact hne p rfl
    exact ⟨.tuple vs.toArray, .tup ps, by rw [hrun]; simp [h1], .tup _ _ (by simpa using e2) (fun i v c hv hc => e3 i v c (by simpa using hv) hc), e4⟩

/-! ### builtin functions -/
theorem appendX_sound (hC : CtxOK Γ P) (hh : HeapRel Γ E h w) {c : Bool} {T ty : Nat} {vs vx : Value} {s x : PV} {kt : PV → List AB → Prop} (hs : Rep E w vs s) (hx : Rep E w vx x) (hk : appendX Γ c h T s x kt) :
    ∃ v p E' h' w', HeapRel Γ E' h' w' ∧ Fr E h w E' h' w' ∧ Rep E' w' v p ∧ (Builtin.append_ #[T, T] ty #[vs, vx]).run P w = .ok v w' ∧ kt p h' := by
  unfold appendX at hk
  replace hk := tinfo_elim hC hk
  obtain ⟨i, hT, hk⟩ := hk
  split at hk
  · rename_i e hi
    replace hk := tinfo_elim hC hk
    obtain ⟨u, hU, hk⟩ := hk
    unfold newEls at hk
    split at hk
    · exact hk.elim
    · replace hk := elems_sound hh hx hk
      obtain ⟨sz, new, hE, hk⟩ := hk
      replace hk := (need_iff _ _).1 hk
      obtain ⟨hc, hk⟩ := hk
      simp only [Bool.and_eq_true, Nat.blt_eq] at hc
      have hd := slice_under hT hi
      split at hk
      · cases hs with | d hs => cases hs with | nil =>
        · replace hk := (need_iff _ _).1 hk
          obtain ⟨hf, hk⟩ := hk
          simp only [Bool.and_eq_true, fits, Nat.ble_eq, List.all_eq_true, beq_iff_eq] at hf
          rw [frows_eq, lenK_eq, lenC_eq, snoc_eq, Nat.zero_add] at hk
          have hE' : Els E w vx u.size new := by
            cases new with
            | nil =>
              obtain ⟨A0, c0, hv0, q1, q2, q3, q4⟩ := hE
              exact ⟨A0, c0, hv0, q1, q2, (fun e he => by cases he), (fun h0 => by simp at h0)⟩
            | cons e0 r =>
              have : sz = u.size := by
                obtain ⟨_, _, _, _, _, hes, _⟩ := hE
                rw [← hes e0 List.mem_cons_self, hf.2 e0 List.mem_cons_self]
              subst this; exact hE
          obtain ⟨E', w', v, g1, g2, g3, g4⟩ := append_nil_sound hC hh hT hi hU hE' hc.1 hc.2 hf.1 (ty := ty)
          exact ⟨v, _, E', _, w', g1, g2, g3, g4, hk⟩
      · rename_i b n
        cases hs with | row A _ _ cp hb hn hrv =>
        rw [nth_eq] at hk
        split at hk
        · rename_i V sz' xs hxs
          replace hk := (need_iff _ _).1 hk
          obtain ⟨hg, hk⟩ := hk
          replace hk := (need_iff _ _).1 hk
          obtain ⟨hf, hk⟩ := hk
          simp only [Bool.and_eq_true, fits, Nat.ble_eq, List.all_eq_true, beq_iff_eq] at hf hg
          obtain ⟨⟨h1, h4⟩, h5⟩ := hf
          obtain ⟨h2, h3⟩ := hg
          subst h1; subst h2; subst h3
          rw [frows_eq] at hk
          have hk' : kt (.row b (xs ++ new).length) (h.set b (.row V u.size (xs ++ new))) := by
            rw [lenC_eq, upd_eq] at hk; exact hk
          have hE' : Els E w vx u.size new := by
            cases new with
            | nil =>
              obtain ⟨A0, c0, hv0, q1, q2, q3, q4⟩ := hE
              exact ⟨A0, c0, hv0, q1, q2, (fun e he => by cases he), (fun h0 => by simp at h0)⟩
            | cons e0 r =>
              have : sz = u.size := by
                obtain ⟨_, _, _, _, _, hes, _⟩ := hE
                rw [← hes e0 List.mem_cons_self, h5 e0 List.mem_cons_self]
              subst this; exact hE
          obtain ⟨E', w', v, g1, g2, g3, g4⟩ := append_row_sound hC hh hT hi hU hxs hE' rfl hc.1 hc.2 h4 (ty := ty)
          exact ⟨v, _, E', _, w', g1, g2, g3, by rw [← hrv]; exact g4, hk'⟩
        · exact hk.elim
      · exact hk.elim
  · exact hk.elim

theorem builtinX_sound (hC : CtxOK Γ P) (hh : HeapRel Γ E h w) {c : Bool} {b : Builtin} {ts : Array Nat} {vs : Array Value} {ps : List PV} (hl : vs.size = ps.length)
    (hr : ∀ (i : Nat) (v : Value) (p : PV), vs[i]? = some v → ps[i]? = some p → Rep E w v p) {kt : PV → List AB → Prop} (hk : builtinX Γ c h b ts.toList ps kt) :
    ∃ v p E' h' w', HeapRel Γ E' h' w' ∧ Fr E h w E' h' w' ∧ Rep E' w' v p ∧ (∀ ty cs, (builtin b ts ty cs vs).run P w = .ok (.value v) w') ∧ kt p h' := by
  have get : ∀ {n : Nat} {p : PV}, ps[n]? = some p → ∃ v, vs[n]? = some v ∧ Rep E w v p := fun {n p} hp => by
    have hn : n < vs.size := by rw [hl]; exact (List.getElem?_eq_some_iff.1 hp).1
    exact ⟨vs[n], Array.getElem?_eq_getElem hn, hr n vs[n] p (Array.getElem?_eq_getElem hn) hp⟩
  have arr1 : ∀ {p : PV}, ps = [p] → ∃ v, vs = #[v] ∧ Rep E w v p := fun {p} hp => by
    obtain ⟨v, hv, hr⟩ := get (n := 0) (p := p) (by rw [hp]; rfl)
    refine ⟨v, ?_, hr⟩
    apply Array.ext_getElem?
    intro i
    cases i with
    | zero => simpa using hv
    | succ i => rw [Array.getElem?_eq_none (by rw [hl, hp]; simp)]; simp
  have arr2 : ∀ {p q : PV}, ps = [p, q] → ∃ v u, vs = #[v, u] ∧ Rep E w v p ∧ Rep E w u q := fun {p q} hp => by
    obtain ⟨v, hv, hr⟩ := get (n := 0) (p := p) (by rw [hp]; rfl)
    obtain ⟨u, hu, hr'⟩ := get (n := 1) (p := q) (by rw [hp]; rfl)
    refine ⟨v, u, ?_, hr, hr'⟩
    apply Array.ext_getElem?
    intro i
    cases i with
    | zero => simpa using hv
    | succ i =>
      cases i with
      | zero => simpa using hu
      | succ i => rw [Array.getElem?_eq_none (by rw [hl, hp]; simp)]; simp
  unfold builtinX at hk
  split at hk
  · rename_i t _ x hts
    obtain ⟨v, rfl, hv⟩ := arr1 rfl
    obtain ⟨r, s, g1, g2, g3⟩ := lenX_sound (P := P) (ty := 0) hC hh hv hk
    refine ⟨r, s, E, h, w, hh, Fr.refl _ _ _, g2, fun ty cs => ?_, g3⟩
    have e : (Builtin.len_ ts ty #[v]) = (Builtin.len_ #[t] 0 #[v]) := by
      have : ts[0]? = some t := by rw [← Array.getElem?_toList, hts]; rfl
      simp [Builtin.len_, this]
    simp [builtin, e, g1]
  · rename_i t t' s x hts
    replace hk := (need_iff _ _).1 hk
    obtain ⟨ht, hk⟩ := hk
    have ht : t = t' := by simpa using ht
    subst ht
    obtain ⟨v, u, rfl, hv, hu⟩ := arr2 rfl
    have hts' : ts = #[t, t] := by apply Array.ext'; simpa using hts
    subst hts'
    obtain ⟨r, q, E', h', w', g1, g2, g3, g4, g5⟩ := appendX_sound (ty := 0) hC hh hv hu hk
    refine ⟨r, q, E', h', w', g1, g2, g3, fun ty cs => ?_, g5⟩
    have e : ∀ ty, (Builtin.append_ #[t, t] ty #[v, u]) = (Builtin.append_ #[t, t] 0 #[v, u]) := fun _ => rfl
    simp [builtin, e ty, g4]
  · rename_i x0 r
    obtain ⟨v0, hv0, hr0⟩ := get (n := 0) (p := x0) rfl
    replace hr0 := hr0.unk
    generalize unkP x0 = x1 at hr0 hk
    split at hk
    case h_2 => exact hk.elim
    rename_i n
    cases hr0 with | d hr0 => cases hr0 with | int =>
    have hvl : vs.toList = .int .i64 n :: vs.toList.tail := by
      cases hvs : vs.toList with
      | nil => simp at hvs; subst hvs; simp at hv0
      | cons a l =>
        have : vs.toList[0]? = some (.int .i64 n) := by simpa using hv0
        rw [hvs] at this
        simp at this; subst this; rfl
    obtain ⟨m, g1, g2⟩ := maxX_sound (P := P) (E := E) (w := w) (args := vs.toList.tail) (ps := r) (m := n) (by
        have := congrArg List.length hvl
        simp at this; simp [hl]) (fun i v p hv hp => hr (i + 1) v p (by rw [List.getElem?_tail] at hv; simpa using hv) (by simpa using hp)) hk
    refine ⟨_, _, E, h, w, hh, Fr.refl _ _ _, .d (.int .i64 m), fun ty cs => ?_, g2⟩
    have : Builtin.max_ ts ty vs = vs.toList.tail.foldlM Builtin.max2 (.int .i64 n) := by
      unfold Builtin.max_
      rw [hvl]
      rfl
    simp [builtin, this, g1]
  · exact hk.elim

end
end Go.Proofs.Ytepgblhhajdmoaa.Eng
