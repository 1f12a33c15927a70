/-
  THE ENGINE, part 24: from a call's end to what a row asks.
-/
import Derived.Test.YtepgblhhajdmoaaEng23
import Derived.ChangeSame
import Derived.RowKit3
import Derived.WalkKit
import Derived.ProofKit
import Derived.OpenShut
import Derived.JoinedCond
set_option linter.unusedVariables false
set_option linter.unusedSimpArgs false
namespace Go.Proofs.Ytepgblhhajdmoaa.Eng
open Go Go.ChangeShapes Go.WideShapes Go.ChangeAt Go.RowKit

section
variable {Γ : Ctx} {P : Program} {w w' W W' : World} {H : Type} {enc : TypeId × Value → H} {sp : Nat → Bool} {T : TypeId → Prop} {md : Bool}

/-- an argument, as the engine is handed it -/
def argPV (Γ : Ctx) (t : Nat) (es : List DV) : PV :=
  match assoc Γ.tt t with
  | some i => (match i.kind with
    | .struct _ => .agg (es.map .d)
    | _ => match es with | [x] => .d x | _ => .undef)
  | none => .undef

def E0 (w : World) : Env := ⟨Old w, 0, fun _ => 0, fun _ _ => undef, fun _ => 0, fun _ => 0⟩
theorem heapE0 (w : World) (hg : Γ.glob = []) : HeapRel Γ (E0 w) [] w :=
  ⟨rfl, fun b hb => hb, fun i ab hi => by simp at hi, fun i j ab ab' b hi => by simp at hi, fun b ⟨i, ab, hi, _⟩ => by simp at hi, fun g cs h => by rw [hg] at h; simp [assoc] at h⟩

/-- of each argument -/
inductive AllTold (Γ : Ctx) : List Nat → List (List DV) → Prop
  | nil : AllTold Γ [] []
  | cons {t : Nat} {es : List DV} {ts : List Nat} {ess : List (List DV)} (h : WT Γ t es) (r : AllTold Γ ts ess) : AllTold Γ (t :: ts) (es :: ess)

theorem arg_rep (hC : CtxOK Γ P) {S : List Nat} (hS : closedB Γ S = true) {base : Nat} {t : Nat} {v : Value} {d : DataW H} {es : List DV} (hs : S.contains t = true) (hok : Value.okWide P W .any base t v) (ht : Told Γ W H t v.cells.toList d es) :
    Rep (E0 W) W v (argPV Γ t es) := by
  have hcl := List.all_eq_true.1 hS t (by simpa using hs)
  unfold argPV
  cases hi : assoc Γ.tt t with
  | none => simp [hi] at hcl
  | some i =>
    simp only [hi] at hcl
    obtain ⟨ud, hud, hukd⟩ := (hC.tt t i hi).under'
    have plain : ∀ {x : DV}, es = [x] → Cell.okWide P W .any base t v → (∀ cs, v ≠ .agg cs) → Rep (E0 W) W v (.d x) := by
      intro x hx _ hna
      subst hx
      have h1 : v.cells = #[v] := by cases v <;> first | rfl | exact absurd rfl (hna _)
      exact .d (ht.rep 0 v x (by rw [h1]; rfl) rfl)
    have one : (∀ fs, i.kind ≠ .struct fs) → ∃ x, es = [x] := by
      intro hns
      cases ht.wt with
      | bool => exact ⟨_, rfl⟩
      | int => exact ⟨_, rfl⟩
      | str => exact ⟨_, rfl⟩
      | nil => exact ⟨_, rfl⟩
      | sl => exact ⟨_, rfl⟩
      | struct _ i' fs parts h hk => rw [hi] at h; cases h; exact absurd hk (hns fs)
    cases hk : i.kind with
    | struct fs =>
      simp only [hk]
      obtain ⟨fl, rfl, _⟩ := tkOf_struct (hukd.trans hk)
      unfold Value.okWide at hok
      simp only [hud] at hok
      obtain ⟨cs, rfl, _⟩ := hok
      refine .agg cs _ ?_ (fun c hc => dmap_one hc) (fun j u c hu hc => ?_)
      · have := ht.len; simpa [Value.cells] using this.symm
      · obtain ⟨y, hy, rfl⟩ := dmap_get hc
        exact .d (ht.rep j u y (by simpa [Value.cells] using hu) hy)
    | bool =>
      obtain ⟨x, rfl⟩ := one (fun fs e => by rw [hk] at e; cases e)
      have hb := tkOf_bool (hukd.trans hk); subst hb
      simp only [Value.okWide, hud] at hok
      simp only [hk]
      exact plain rfl hok fun cs e => by subst e; simp [Cell.okWide, Cell.ok, hud] at hok
    | int k =>
      obtain ⟨x, rfl⟩ := one (fun fs e => by rw [hk] at e; cases e)
      have hb := tkOf_int (hukd.trans hk); subst hb
      simp only [Value.okWide, hud] at hok
      simp only [hk]
      exact plain rfl hok fun cs e => by subst e; simp [Cell.okWide, Cell.ok, hud] at hok
    | str =>
      obtain ⟨x, rfl⟩ := one (fun fs e => by rw [hk] at e; cases e)
      have hb := tkOf_str (hukd.trans hk); subst hb
      simp only [Value.okWide, hud] at hok
      simp only [hk]
      exact plain rfl hok fun cs e => by subst e; simp [Cell.okWide, Cell.ok, hud] at hok
    | slice e =>
      obtain ⟨x, rfl⟩ := one (fun fs e => by rw [hk] at e; cases e)
      have hb := tkOf_slice (hukd.trans hk); subst hb
      simp only [Value.okWide, hud] at hok
      simp only [hk]
      exact plain rfl hok fun cs e => by subst e; simp [Cell.okWide, Cell.ok, hud] at hok
    | _ => simp [hk] at hcl

/-- ALL ARGUMENTS -/
theorem args_told (hC : CtxOK Γ P) (K : Kids P T) {S : List Nat} (hS : closedB Γ S = true) (hT : ∀ t, S.contains t = true → T t) {base : Nat} : ∀ (ts : List Nat) (vs : List Value) (ds : List (DataW H)) (ps : List MemPlace),
    DataW.TrodAll enc P W 0 sp true ts vs ds ps → (∀ t ∈ ts, S.contains t = true) → (∀ (j : Nat) t v, ts[j]? = some t → vs[j]? = some v → Value.okWide P W .any base t v) →
    ∃ ess, AllTold Γ ts ess ∧ vs.length = (List.zipWith (argPV Γ) ts ess).length ∧ (∀ (i : Nat) (v : Value) (p : PV), vs[i]? = some v → (List.zipWith (argPV Γ) ts ess)[i]? = some p → Rep (E0 W) W v p) ∧ (ess.map bulkL).sum ≤ Rows.uptoBulkAll ds
  | [], [], [], ps, h, hts, hok => ⟨[], .nil, rfl, fun i v p hv => by simp at hv, by simp⟩
  | t :: ts, v :: vs, d :: ds, ps, h, hts, hok => by
    obtain ⟨p, q, ⟨fuel, h1⟩, h2, rfl⟩ := h
    obtain ⟨es, he⟩ := told hC K hS hT fuel t _ d p h1 (hts t List.mem_cons_self)
    obtain ⟨ess, g1, g2, g3, g4⟩ := args_told hC K hS hT ts vs ds q h2 (fun t ht => hts t (List.mem_cons_of_mem _ ht)) (fun j t v h1 h2 => hok (j + 1) t v (by simpa using h1) (by simpa using h2))
    have ha := arg_rep hC hS (hts t List.mem_cons_self) (hok 0 t v rfl rfl) he
    refine ⟨es :: ess, .cons he.wt g1, by simpa using g2, fun i u p hu hp => ?_, ?_⟩
    · cases i with
      | zero => simp at hu hp; subst hu; subst hp; exact ha
      | succ i => exact g3 i u p (by simpa using hu) (by simpa using hp)
    · have := he.bulk
      simp only [List.map_cons, List.sum_cons, Rows.uptoBulkAll]
      omega
  | [], [], d :: ds, ps, h, _, _ => by simp [DataW.TrodAll] at h
  | [], v :: vs, _, ps, h, _, _ => by simp [DataW.TrodAll] at h
  | t :: ts, [], _, ps, h, _, _ => by simp [DataW.TrodAll] at h
  | t :: ts, v :: vs, [], ps, h, _, _ => by simp [DataW.TrodAll] at h

theorem trodAll_stays (K : Kids P T) (hsz : ∀ {t e : TypeId}, T t → P.underlying t = some (.slice e) → 0 < P.cellsOf e) (hh : ∀ b, b < W.heap.size → W'.heap[b]? = W.heap[b]?) {sp' : Nat → Bool} : ∀ (ts : List TypeId) (vs : List Value) (ds : List (DataW H)) (ps : List MemPlace),
    DataW.TrodAll enc P W 0 (fun _ => true) true ts vs ds ps → (∀ t ∈ ts, T t) → (∀ p ∈ ps, p.block < W.heap.size) → (∀ p ∈ ps, sp' p.block = true) → DataW.TrodAll enc P W' 0 sp' true ts vs ds ps
  | [], [], [], ps, h, _, _, _ => h
  | t :: ts, v :: vs, d :: ds, ps, h, hT, hlt, hs => by
    obtain ⟨p, q, ⟨fuel, h1⟩, h2, rfl⟩ := h
    refine ⟨p, q, ⟨fuel, ?_⟩, trodAll_stays K hsz hh ts vs ds q h2 (fun t ht => hT t (List.mem_cons_of_mem _ ht)) (fun x hx => hlt x (List.mem_append_right _ hx)) (fun x hx => hs x (List.mem_append_right _ hx)), rfl⟩
    refine DataW.trod_stays K hsz (fun h => by cases h) (hT t List.mem_cons_self) h1 (fun x hx => ?_) (fun x hx => hs x (List.mem_append_left _ hx))
    have hb := hh x.block (hlt x (List.mem_append_left _ hx))
    cases x with
    | cell b off => exact World.cell?_of_block (a := ⟨b, off, none⟩) hb
    | map b => exact hb
  | [], [], d :: ds, ps, h, _, _, _ => by simp [DataW.TrodAll] at h
  | [], v :: vs, _, ps, h, _, _, _ => by simp [DataW.TrodAll] at h
  | t :: ts, [], _, ps, h, _, _, _ => by simp [DataW.TrodAll] at h
  | t :: ts, v :: vs, [], ps, h, _, _, _ => by simp [DataW.TrodAll] at h

theorem kept_of (ho : W'.os = W.os) (hp : W'.output = W.output) (hh : ∀ b, b < W.heap.size → W'.heap[b]? = W.heap[b]?) (may : MemPlace → Prop) : W.keptBut W' may := by
  refine ⟨ho, hp, fun i hi => ?_⟩
  rw [hh i hi]
  cases W.heap[i]? with
  | none => rfl
  | some o => cases o <;> simp

/-- what a law's row asks: true, and all as it stood -/
theorem post_same {f : Func} {s : ChangeSpec} {apart fresh handsOn again : Bool} {args : Array Value} {v : Value} {ds gs : List (DataW H)} {before : List MemPlace} (hW : DataW.Whole enc P f.params.toList s.vars apart W args.toList ds gs before) (hvars : s.vars = [])
    (K : Kids P T) (hsz : ∀ {t e : TypeId}, T t → P.underlying t = some (.slice e) → 0 < P.cellsOf e) (hT : ∀ t ∈ f.params.toList, T t) (ho : W'.os = W.os) (hp : W'.output = W.output) (hh : ∀ b, b < W.heap.size → W'.heap[b]? = W.heap[b]?)
    (hres : ∀ (b : Nat) (sp : Nat → Bool) (hd : Bool), DataW.TrodAll enc P W' b sp hd f.resultTypes.toList (v.resultList f.resultTypes.size) (s.fn H (ds ++ gs)).results [])
    (hargs : (s.fn H (ds ++ gs)).args = ds) (hvs : (s.fn H (ds ++ gs)).vars = [])
    (hok : ∀ (j : Nat) (t : TypeId) (r : Value), f.resultTypes[j]? = some t → (v.resultList f.resultTypes.size)[j]? = some r → Value.okWide P W' .any 0 t r) :
    s.post enc P f apart fresh handsOn again W args v W' := by
  have hlt := hW.lt
  have hW' := hW
  obtain ⟨p, q, hA, hV, rfl, hz, hn⟩ := hW'
  rw [hvars] at hV
  cases gs with
  | cons => simp [DataW.TrodVars] at hV
  | nil =>
  have hq : q = [] := hV
  subst hq
  have stay : ∀ sp' : Nat → Bool, (∀ x ∈ p, sp' x.block = true) → DataW.TrodAll enc P W' 0 sp' true f.params.toList args.toList ds p := fun sp' h =>
    trodAll_stays K hsz hh _ _ _ _ hA hT (fun x hx => hlt x (List.mem_append_left _ hx)) h
  refine ⟨ds, [], p ++ [], [], p, [], hW, hres _ _ _, ?_, ?_, kept_of ho hp hh _, fun _ => ⟨hok, (s.fn H (ds ++ [])).results ++ ds, [], ([] ++ p) ++ [], ⟨[] ++ p, [], ?_, ?_, rfl, ?_, ?_⟩, ?_⟩⟩
  · rw [hargs]; exact stay _ fun x hx => by simpa using hlt x (List.mem_append_left _ hx)
  · rw [hvs, hvars]; rfl
  · exact trodAll_append (stay (fun _ => true) fun _ _ => rfl) (hres _ _ _)
  · rw [hvars]; exact (rfl : _ = _)
  · intro b off hx
    have hb : b < W.heap.size := hlt (.cell b off) (by simpa using hx)
    rw [World.frozen?_of_block (a := ⟨b, off, none⟩) (hh b hb)]
    exact hz b off (by simpa using hx)
  · intro ha
    simpa using hn ha
  · intro x hx _
    simpa using hx

/-- A LAW: of any arguments that are not too many the call comes to true. -/
theorem law_contract (hC : CtxOK Γ P) (hg : Γ.glob = []) (K : Kids P T) (hsz : ∀ {t e : TypeId}, T t → P.underlying t = some (.slice e) → 0 < P.cellsOf e) {S : List Nat} (hS : closedB Γ S = true) (hT : ∀ t, S.contains t = true → T t)
    {f : Nat} {fn : Func} {s : ChangeSpec} {tb : TypeId} (hvars : s.vars = []) (hres : fn.resultTypes = #[tb]) (htb : P.underlying tb = some .bool) (hts : ∀ t ∈ fn.params.toList, S.contains t = true)
    (hspec : ∀ ds : List (DataW H), ds.length = fn.params.size → s.fn H ds = { results := [.lit (.bool true)], args := ds })
    (walk : ∀ ess : List (List DV), AllTold Γ fn.params.toList ess → (ess.map bulkL).sum ≤ 1048576 → CallW Γ P f (List.zipWith (argPV Γ) fn.params.toList ess) [] (fun r _ => r = .d (.bool true)) (fun _ _ => False))
    {base : Nat} {args : Array Value} {ds gs : List (DataW H)} {before : List MemPlace} (hval : ∀ (j : Nat) t v, fn.params[j]? = some t → args[j]? = some v → Value.okWide P W .any base t v)
    (hW : DataW.Whole enc P fn.params.toList s.vars false W args.toList ds gs before) (hk : Rows.uptoSmall H (ds ++ gs) = true) {fresh handsOn again : Bool} :
    Calls P f args W fun e W' => ∃ v, e = .returned v ∧ s.post enc P fn false fresh handsOn again W args v W' := by
  have hW0 := hW
  obtain ⟨p, q, hA, hV, _, _, _⟩ := hW0
  rw [hvars] at hV
  cases gs with
  | cons => simp [DataW.TrodVars] at hV
  | nil =>
  have hdl : ds.length = fn.params.size := by
    have key : ∀ (ts : List TypeId) (vs : List Value) (ds : List (DataW H)) (ps : List MemPlace), DataW.TrodAll enc P W 0 (fun _ => true) true ts vs ds ps → ds.length = ts.length := by
      intro ts
      induction ts with
      | nil => intro vs ds ps h; cases vs <;> cases ds <;> simp [DataW.TrodAll] at h ⊢
      | cons t ts ih =>
        intro vs ds ps h
        cases vs <;> cases ds <;> simp only [DataW.TrodAll] at h
        obtain ⟨_, _, _, h2, _⟩ := h
        simp [ih _ _ _ h2]
    rw [key _ _ _ _ hA, Array.length_toList]
  obtain ⟨ess, g1, g2, g3, g4⟩ := args_told hC K hS hT fn.params.toList args.toList ds p hA hts (fun j t v h1 h2 => hval j t v (by simpa using h1) (by simpa using h2))
  have hb : (ess.map bulkL).sum ≤ 1048576 := by
    have := of_decide_eq_true hk
    rw [List.append_nil] at this
    omega
  refine ((walk ess g1 hb).out (E0 W) W args (heapE0 W hg) ⟨by simpa using g2, fun i v p hv hp => g3 i v p (by simpa using hv) hp⟩).mono fun e W' he => ?_
  cases e with
  | returned v =>
    obtain ⟨r, E', h', a1, a2, a3, rfl⟩ := he
    have hv : v = .bool true := by cases a3 with | d a3 => cases a3 with | bool => rfl
    subst hv
    have hf := hspec (ds ++ []) (by simpa using hdl)
    refine ⟨_, rfl, post_same hW hvars K hsz (fun t ht => hT t (hts t ht)) a2.os a2.output (fun b hb => a2.same b hb foot0) (fun b sp hd => ?_) (by rw [hf, List.append_nil]) (by rw [hf]) (fun j t r hj hr => ?_)⟩
    · rw [hf, hres]
      exact trodAll_cons_mk (shut_bool htb _) trodAll_mk0
    · exact ok_one hres rfl (okWide_bool_mk htb _) j t r hj hr
  | panicked ch => obtain ⟨_, _, _, _, _, _, _, _, hf⟩ := he; exact hf.elim
  | outgrown => exact he.elim

end
end Go.Proofs.Ytepgblhhajdmoaa.Eng
