/-
  From a statement's reading to what the contracts speak of.
-/
import Derived.Test.YtepgblhhajdmoaaWorks7
import Derived.ChangeBears
set_option linter.unusedVariables false
set_option linter.unusedSimpArgs false
namespace Go.Proofs.Ytepgblhhajdmoaa
open Go Go.Proofs.Ytepgblhhajdmoaa.Eng Go.ChangeShapes Go.WideShapes Go.ChangeAt Go.RowKit

theorem kids : Kids Try.prog (· < Try.prog.types.size) := kids_rows (by kernel_rfl) (by kernel_rfl)
noncomputable def szB : Bool := (List.range Try.prog.types.size).all fun t => match Try.prog.underlying t with
  | some (.slice e) => Nat.blt 0 (Try.prog.cellsOf e)
  | _ => true
theorem szB_ok : szB = true := by kernel_rfl
theorem hsz {t e : TypeId} (h : t < Try.prog.types.size) (hu : Try.prog.underlying t = some (.slice e)) : 0 < Try.prog.cellsOf e := by
  have := List.all_eq_true.1 szB_ok t (List.mem_range.2 h)
  rw [hu] at this
  simpa using this

/-! ### cells, by their types -/
noncomputable def kindOf (t : Nat) : Option TK := (assoc Γ.tt t).map TI.kind
theorem kindOf_some {t : Nat} {i : TI} (h : assoc Γ.tt t = some i) : kindOf t = some i.kind := by simp [kindOf, h]
theorem wt_int {t : Nat} {k : IntKind} {es : List DV} (h : WT Γ t es) (hk : kindOf t = some (.int k)) : ∃ n, es = [.int k n] ∧ (Lit.int k n).wf = true := by
  cases h with
  | int t i k' n h1 h2 hw => rw [kindOf_some h1, h2] at hk; cases hk; exact ⟨n, rfl, hw⟩
  | bool t i b h1 h2 => rw [kindOf_some h1, h2] at hk; cases hk
  | str t i s h1 h2 => rw [kindOf_some h1, h2] at hk; cases hk
  | nil t i e h1 h2 => rw [kindOf_some h1, h2] at hk; cases hk
  | sl t i e u es h1 h2 => rw [kindOf_some h1, h2] at hk; cases hk
  | struct t i fs parts h1 h2 => rw [kindOf_some h1, h2] at hk; cases hk
theorem wt_bool {t : Nat} {es : List DV} (h : WT Γ t es) (hk : kindOf t = some .bool) : ∃ b, es = [.bool b] := by
  cases h with
  | bool t i b h1 h2 => exact ⟨b, rfl⟩
  | int t i k' n h1 h2 hw => rw [kindOf_some h1, h2] at hk; cases hk
  | str t i s h1 h2 => rw [kindOf_some h1, h2] at hk; cases hk
  | nil t i e h1 h2 => rw [kindOf_some h1, h2] at hk; cases hk
  | sl t i e u es h1 h2 => rw [kindOf_some h1, h2] at hk; cases hk
  | struct t i fs parts h1 h2 => rw [kindOf_some h1, h2] at hk; cases hk
theorem wt_str {t : Nat} {es : List DV} (h : WT Γ t es) (hk : kindOf t = some .str) : ∃ s, es = [.str s] := by
  cases h with
  | str t i s h1 h2 => exact ⟨s, rfl⟩
  | int t i k' n h1 h2 hw => rw [kindOf_some h1, h2] at hk; cases hk
  | bool t i s h1 h2 => rw [kindOf_some h1, h2] at hk; cases hk
  | nil t i e h1 h2 => rw [kindOf_some h1, h2] at hk; cases hk
  | sl t i e u es h1 h2 => rw [kindOf_some h1, h2] at hk; cases hk
  | struct t i fs parts h1 h2 => rw [kindOf_some h1, h2] at hk; cases hk
theorem wt_slice {t e sz : Nat} {es : List DV} (h : WT Γ t es) (hk : kindOf t = some (.slice e)) (hs : (assoc Γ.tt e).map TI.size = some sz) : es = [.nil] ∨ ∃ l, es = [.sl sz l] ∧ ∀ x ∈ l, WT Γ e x := by
  cases h with
  | nil t i e h1 h2 => exact .inl rfl
  | sl t i e' u l h1 h2 hu he => rw [kindOf_some h1, h2] at hk; cases hk; rw [hu] at hs; cases hs; exact .inr ⟨l, rfl, he⟩
  | int t i k' n h1 h2 hw => rw [kindOf_some h1, h2] at hk; cases hk
  | bool t i s h1 h2 => rw [kindOf_some h1, h2] at hk; cases hk
  | str t i e h1 h2 => rw [kindOf_some h1, h2] at hk; cases hk
  | struct t i fs parts h1 h2 => rw [kindOf_some h1, h2] at hk; cases hk
theorem wt_struct {t : Nat} {fs : List (Nat × Nat)} {es : List DV} (h : WT Γ t es) (hk : kindOf t = some (.struct fs)) :
    ∃ parts : List (List DV), es = parts.flatten ∧ parts.length = fs.length ∧ ∀ (j : Nat) (f : Nat × Nat) (p : List DV), fs[j]? = some f → parts[j]? = some p → WT Γ f.2 p := by
  cases h with
  | struct t i fs' parts h1 h2 hl hp => rw [kindOf_some h1, h2] at hk; cases hk; exact ⟨parts, rfl, hl, hp⟩
  | int t i k' n h1 h2 hw => rw [kindOf_some h1, h2] at hk; cases hk
  | bool t i s h1 h2 => rw [kindOf_some h1, h2] at hk; cases hk
  | str t i e h1 h2 => rw [kindOf_some h1, h2] at hk; cases hk
  | nil t i e h1 h2 => rw [kindOf_some h1, h2] at hk; cases hk
  | sl t i e u es h1 h2 => rw [kindOf_some h1, h2] at hk; cases hk

/-! ### what says the same, and less -/
def DW (x y : DV) : Prop := ∀ (K : Nat → Prop) (w : World) (v : Value), RepD K w v x → RepD K w v y
def PW (p q : PV) : Prop := ∀ (E : Env) (w : World) (v : Value), Rep E w v p → Rep E w v q
theorem DW.refl (x : DV) : DW x x := fun _ _ _ h => h
theorem PW.refl (x : PV) : PW x x := fun _ _ _ h => h
theorem PW.d {x y : DV} (h : DW x y) : PW (.d x) (.d y) := fun E w v hr => by cases hr with | d hr => exact .d (h _ _ _ hr)
def DWs (xs ys : List DV) : Prop := xs.length = ys.length ∧ ∀ (i : Nat) (y : DV), ys[i]? = some y → ∃ x, xs[i]? = some x ∧ DW x y
theorem PW.agg {xs ys : List DV} (h : DWs xs ys) : PW (.agg (xs.map .d)) (.agg (ys.map .d)) := fun E w v hr => by
  cases hr with | agg vs _ hl h1 hr =>
  refine .agg vs _ (by simpa [h.1] using hl) (fun c hc => dmap_one hc) fun i u c hu hc => ?_
  obtain ⟨y, hy, rfl⟩ := dmap_get hc
  obtain ⟨x, hx, hxy⟩ := h.2 i y hy
  have := hr i u (.d x) hu (by simp [hx])
  cases this with | d this => exact .d (hxy _ _ _ this)
theorem CallW.pw {f : Nat} {ps qs : List PV} {h : List AB} {kr kp : PV → List AB → Prop} (hc : CallW Γ Try.prog f qs h kr kp) (hl : ps.length = qs.length) (hw : ∀ (i : Nat) (q : PV), qs[i]? = some q → ∃ p, ps[i]? = some p ∧ PW p q) : CallW Γ Try.prog f ps h kr kp :=
  ⟨hc.known, fun E w vs hh ha => hc.out E w vs hh ⟨ha.1.trans hl, fun i v q hv hq => by
    obtain ⟨p, hp, hpw⟩ := hw i q hq
    exact hpw _ _ _ (ha.2 i v p hv hp)⟩⟩
theorem DW.sl {sz : Nat} {es fs : List (List DV)} (hl : es.length = fs.length) (h : ∀ (j : Nat) (f : List DV), fs[j]? = some f → ∃ e, es[j]? = some e ∧ DWs e f) : DW (.sl sz es) (.sl sz fs) := fun K w v hr => by
  cases hr with | sl A n c _ _ vals hn hc hm hA hs hr =>
  refine .sl A n c sz fs vals (hl.symm.trans hn) hc hm hA (fun j f hf => ?_) fun j f k d hf hd => ?_
  · obtain ⟨e, he, hw⟩ := h j f hf
    rw [← hw.1]; exact hs j e he
  · obtain ⟨e, he, hw⟩ := h j f hf
    obtain ⟨x, hx, hxd⟩ := hw.2 k d hd
    exact hxd _ _ _ (hr j e k x he hx)
theorem DW.nil (sz : Nat) : DW .nil (.sl sz []) := fun K w v hr => hr.nil_sl sz
theorem decLL_eq (es : List (List DV)) : decLL es = es.map decL := by
  induction es with
  | nil => simp only [decLL, List.map_nil]
  | cons e r ih => simp only [decLL, List.map_cons, ih]

/-- values that are read are values -/
theorem wt_value {t : Nat} {es : List DV} (h : WT Γ t es) : (t = 28 → DWs es (enc (decL es)) ∧ (decL es).size ≤ bulkL es) ∧ (t = 23 → ∃ x, es = [x] ∧ DW x (.sl 4 (encL x.kidsV)) ∧ sizeL x.kidsV ≤ x.bulk) := by
  induction h with
  | int t i k n h1 h2 hw => exact ⟨fun e => by subst e; have := kindOf_some h1; rw [h2] at this; exact absurd (this.symm.trans (by kernel_rfl : kindOf 28 = some (.struct [(0, 5), (1, 22), (2, 9), (3, 23)]))) (by simp), fun e => by subst e; have := kindOf_some h1; rw [h2] at this; exact absurd (this.symm.trans (by kernel_rfl : kindOf 23 = some (.slice 28))) (by simp)⟩
  | bool t i n h1 h2 => exact ⟨fun e => by subst e; have := kindOf_some h1; rw [h2] at this; exact absurd (this.symm.trans (by kernel_rfl : kindOf 28 = some (.struct [(0, 5), (1, 22), (2, 9), (3, 23)]))) (by simp), fun e => by subst e; have := kindOf_some h1; rw [h2] at this; exact absurd (this.symm.trans (by kernel_rfl : kindOf 23 = some (.slice 28))) (by simp)⟩
  | str t i n h1 h2 => exact ⟨fun e => by subst e; have := kindOf_some h1; rw [h2] at this; exact absurd (this.symm.trans (by kernel_rfl : kindOf 28 = some (.struct [(0, 5), (1, 22), (2, 9), (3, 23)]))) (by simp), fun e => by subst e; have := kindOf_some h1; rw [h2] at this; exact absurd (this.symm.trans (by kernel_rfl : kindOf 23 = some (.slice 28))) (by simp)⟩
  | nil t i e h1 h2 => exact ⟨fun e => by subst e; have := kindOf_some h1; rw [h2] at this; exact absurd (this.symm.trans (by kernel_rfl : kindOf 28 = some (.struct [(0, 5), (1, 22), (2, 9), (3, 23)]))) (by simp), fun e => ⟨.nil, rfl, by simpa [DV.kidsV] using DW.nil 4, by simp [DV.kidsV, sizeL]⟩⟩
  | sl t i e u es h1 h2 hu he ih =>
    refine ⟨fun e => by subst e; have := kindOf_some h1; rw [h2] at this; exact absurd (this.symm.trans (by kernel_rfl : kindOf 28 = some (.struct [(0, 5), (1, 22), (2, 9), (3, 23)]))) (by simp), fun e => ?_⟩
    subst e
    have := kindOf_some h1
    rw [h2] at this
    have := this.symm.trans (by kernel_rfl : kindOf 23 = some (.slice 28))
    cases this
    have hsz : u.size = 4 := by
      have : (assoc Γ.tt 28).map TI.size = some 4 := by kernel_rfl
      rw [hu] at this; simpa using this
    rw [hsz]
    refine ⟨.sl 4 es, rfl, ?_, ?_⟩
    · simp only [DV.kidsV]
      refine DW.sl (by simp [decLL_eq]) fun j f hf => ?_
      rw [encL_eq, decLL_eq, List.map_map, List.getElem?_map] at hf
      obtain ⟨x, hx, rfl⟩ := Option.map_eq_some_iff.1 hf
      exact ⟨x, hx, ((ih x (List.mem_of_getElem? hx)).1 rfl).1⟩
    · simp only [DV.kidsV, DV.bulk]
      have key : ∀ l : List (List DV), (∀ x ∈ l, (decL x).size ≤ bulkL x) → sizeL (decLL l) ≤ bulkLL l := by
        intro l
        induction l with
        | nil => intro _; simp [decLL, bulkLL, sizeL]
        | cons x r ihr =>
          intro h
          simp only [decLL, bulkLL, sizeL]
          have := h x List.mem_cons_self
          have := ihr fun y hy => h y (List.mem_cons_of_mem _ hy)
          omega
      have := key es fun x hx => ((ih x hx).1 rfl).2
      omega
  | struct t i fs parts h1 h2 hl hp ih =>
    refine ⟨fun e => ?_, fun e => by subst e; have := kindOf_some h1; rw [h2] at this; exact absurd (this.symm.trans (by kernel_rfl : kindOf 23 = some (.slice 28))) (by simp)⟩
    subst e
    have := kindOf_some h1
    rw [h2] at this
    have := this.symm.trans (by kernel_rfl : kindOf 28 = some (.struct [(0, 5), (1, 22), (2, 9), (3, 23)]))
    cases this
    match parts, hl with
    | [p0, p1, p2, p3], _ =>
      obtain ⟨n0, rfl, _⟩ := wt_int (k := .u8) (hp 0 _ _ rfl rfl) (by kernel_rfl)
      obtain ⟨n1, rfl, _⟩ := wt_int (k := .u64) (hp 1 _ _ rfl rfl) (by kernel_rfl)
      obtain ⟨s, rfl⟩ := wt_str (hp 2 _ _ rfl rfl) (by kernel_rfl)
      obtain ⟨x, rfl, hx, hb⟩ := (ih 3 _ _ rfl rfl).2 rfl
      have hd : decL ([[DV.int .u8 n0], [.int .u64 n1], [.str s], [x]].flatten) = .mk n0 n1 s x.kidsV := by
        show decL [DV.int .u8 n0, .int .u64 n1, .str s, x] = _
        simp only [decL, DV.gI, DV.iv, DV.gS]
      rw [hd]
      refine ⟨⟨by simp [enc], fun j y hy => ?_⟩, ?_⟩
      · simp only [enc] at hy
        match j with
        | 0 => simp at hy; subst hy; exact ⟨_, rfl, DW.refl _⟩
        | 1 => simp at hy; subst hy; exact ⟨_, rfl, DW.refl _⟩
        | 2 => simp at hy; subst hy; exact ⟨_, rfl, DW.refl _⟩
        | 3 => simp at hy; subst hy; exact ⟨_, rfl, hx⟩
        | j + 4 => simp at hy
      · simp only [V.size, List.flatten_cons, List.flatten_nil, List.cons_append, List.nil_append, bulkL, DV.bulk]
        omega
/-- an argument that is a value -/
theorem arg_value {es : List DV} (h : WT Γ 28 es) : PW (argPV Γ 28 es) (vPV (decL es)) ∧ (decL es).size ≤ bulkL es := by
  obtain ⟨h1, h2⟩ := (wt_value h).1 rfl
  have he : argPV Γ 28 es = .agg (es.map .d) := by
    have hk : kindOf 28 = some (.struct [(0, 5), (1, 22), (2, 9), (3, 23)]) := by kernel_rfl
    unfold argPV
    unfold kindOf at hk
    cases ha : assoc Γ.tt 28 with
    | none => rw [ha] at hk; cases hk
    | some i => rw [ha] at hk; simp at hk; simp [hk]
  rw [he]
  refine ⟨?_, h2⟩
  have := PW.agg h1
  rw [enc_eq] at this
  exact this
/-- one that is a row of values -/
theorem arg_values {es : List DV} (h : WT Γ 23 es) : ∃ l : List V, PW (argPV Γ 23 es) (.d (.sl 4 (encL l))) ∧ sizeL l ≤ bulkL es := by
  obtain ⟨x, rfl, h1, h2⟩ := (wt_value h).2 rfl
  have he : argPV Γ 23 [x] = .d x := by
    have hk : kindOf 23 = some (.slice 28) := by kernel_rfl
    unfold argPV
    unfold kindOf at hk
    cases ha : assoc Γ.tt 23 with
    | none => rw [ha] at hk; cases hk
    | some i => rw [ha] at hk; simp at hk; simp [hk]
  rw [he]
  exact ⟨x.kidsV, PW.d h1, by simpa [bulkL] using h2⟩
/-- of the plain kinds -/
theorem arg_plain {t : Nat} {x : DV} (hk : (kindOf t).isSome = true) (hn : ∀ fs, kindOf t ≠ some (.struct fs)) : argPV Γ t [x] = .d x := by
  unfold argPV
  unfold kindOf at hk hn
  cases ha : assoc Γ.tt t with
  | none => rw [ha] at hk; cases hk
  | some i =>
    rw [ha] at hn
    simp only
    cases hi : i.kind with
    | struct fs => exact absurd (by simp [hi]) (hn fs)
    | _ => rfl
theorem arg_struct {t : Nat} {fs : List (Nat × Nat)} {es : List DV} (hk : kindOf t = some (.struct fs)) : argPV Γ t es = .agg (es.map .d) := by
  unfold argPV
  unfold kindOf at hk
  cases ha : assoc Γ.tt t with
  | none => rw [ha] at hk; cases hk
  | some i => rw [ha] at hk; simp at hk; simp [hk]
end Go.Proofs.Ytepgblhhajdmoaa
