/-
  THE ENGINE, part 23: what a statement's reading tells of the arguments.
-/
import Derived.Test.YtepgblhhajdmoaaEng22
import Derived.Test.YtepgblhhajdmoaaRows
import Derived.ChangeStays
import Derived.DataReads
set_option linter.unusedVariables false
set_option linter.unusedSimpArgs false
namespace Go.Proofs.Ytepgblhhajdmoaa.Eng
open Go

mutual
def DV.bulk : DV → Nat
  | .str s => s.length + 1
  | .sl _ es => bulkLL es + 1
  | _ => 1
def bulkL : List DV → Nat
  | [] => 0
  | x :: r => x.bulk + bulkL r
def bulkLL : List (List DV) → Nat
  | [] => 0
  | x :: r => bulkL x + bulkLL r
end
theorem bulkL_append : ∀ (l r : List DV), bulkL (l ++ r) = bulkL l + bulkL r
  | [], r => by simp [bulkL]
  | x :: l, r => by simp only [List.cons_append, bulkL, bulkL_append l r]; omega

/-- cells of a type -/
inductive WT (Γ : Ctx) : Nat → List DV → Prop
  | bool (t : Nat) (i : TI) (b : Bool) (h : assoc Γ.tt t = some i) (hk : i.kind = .bool) : WT Γ t [.bool b]
  | int (t : Nat) (i : TI) (k : IntKind) (n : Int) (h : assoc Γ.tt t = some i) (hk : i.kind = .int k) (hw : (Lit.int k n).wf = true) : WT Γ t [.int k n]
  | str (t : Nat) (i : TI) (s : List UInt8) (h : assoc Γ.tt t = some i) (hk : i.kind = .str) : WT Γ t [.str s]
  | nil (t : Nat) (i : TI) (e : Nat) (h : assoc Γ.tt t = some i) (hk : i.kind = .slice e) : WT Γ t [.nil]
  | sl (t : Nat) (i : TI) (e : Nat) (u : TI) (es : List (List DV)) (h : assoc Γ.tt t = some i) (hk : i.kind = .slice e) (hu : assoc Γ.tt e = some u) (he : ∀ x ∈ es, WT Γ e x) : WT Γ t [.sl u.size es]
  | struct (t : Nat) (i : TI) (fs : List (Nat × Nat)) (parts : List (List DV)) (h : assoc Γ.tt t = some i) (hk : i.kind = .struct fs) (hl : parts.length = fs.length)
      (hp : ∀ (j : Nat) (f : Nat × Nat) (p : List DV), fs[j]? = some f → parts[j]? = some p → WT Γ f.2 p) : WT Γ t parts.flatten

/-- a set of types that the reading is told of -/
def closedB (Γ : Ctx) (S : List Nat) : Bool := S.all fun t => match assoc Γ.tt t with
  | some i => (match i.kind with
    | .bool | .int _ | .str => true
    | .slice e => S.contains e && (match assoc Γ.tt e with | some u => Nat.blt 0 u.size | none => false)
    | .struct fs => fs.all fun f => S.contains f.2
    | _ => false)
  | none => false

section
variable {Γ : Ctx} {P : Program} {w : World} {H : Type} {enc : TypeId × Value → H} {sp : Nat → Bool} {T : TypeId → Prop} {md : Bool}

def Old (w : World) : Nat → Prop := fun b => b < w.heap.size

/-- what is told of some cells -/
structure Told (Γ : Ctx) (w : World) (H : Type) (t : Nat) (cs : List Value) (d : DataW H) (es : List DV) : Prop where
  len : es.length = cs.length
  rep : ∀ (i : Nat) (v : Value) (x : DV), cs[i]? = some v → es[i]? = some x → RepD (Old w) w v x
  wt : WT Γ t es
  bulk : bulkL es ≤ Rows.uptoBulk d

theorem told_one {t : Nat} {v : Value} {x : DV} {d : DataW H} (hr : RepD (Old w) w v x) (hw : WT Γ t [x]) (hb : x.bulk ≤ Rows.uptoBulk d) : Told Γ w H t [v] d [x] :=
  ⟨rfl, fun i u y h1 h2 => by
    cases i with
    | zero => simp at h1 h2; subst h1; subst h2; exact hr
    | succ i => simp at h1, hw, by simpa [bulkL] using hb⟩

theorem uptoAll_le {d : DataW H} {l : List (DataW H)} : d ∈ l → Rows.uptoBulk d ≤ Rows.uptoBulkAll l := by
  induction l with
  | nil => intro h; cases h
  | cons x r ih =>
    intro h
    simp only [Rows.uptoBulkAll]
    rcases List.mem_cons.1 h with rfl | h
    · omega
    · have := ih h; omega

theorem fields_told {fuel : Nat} {cs : List Value} (ih : ∀ (t : Nat) (cs : List Value) (d : DataW H) (ps : List MemPlace), DataW.trod enc P w 0 sp true fuel t cs = some (d, ps) → T t → ∃ es, Told Γ w H t cs d es) :
    ∀ (fl : List Field) (o : Nat) (xs : List (DataW H × List MemPlace)), (∀ f ∈ fl, T f.type) → (∀ (j : Nat) (f : Field), fl[j]? = some f → f.offset = o + ((fl.take j).map fun f => P.cellsOf f.type).sum) →
      fl.mapM (fun f => DataW.trod enc P w 0 sp true fuel f.type ((cs.drop f.offset).take (P.cellsOf f.type))) = some xs → o + (fl.map fun f => P.cellsOf f.type).sum = cs.length →
      ∃ parts : List (List DV), parts.length = fl.length ∧ (∀ (j : Nat) (f : Field) (p : List DV), fl[j]? = some f → parts[j]? = some p → WT Γ f.type p) ∧ parts.flatten.length = cs.length - o ∧
        (∀ (i : Nat) (v : Value) (x : DV), cs[o + i]? = some v → parts.flatten[i]? = some x → RepD (Old w) w v x) ∧ bulkL parts.flatten ≤ Rows.uptoBulkAll (xs.map (·.1))
  | [], o, xs, hT, ho, hm, hs => by
    simp at hm; subst hm
    simp at hs
    exact ⟨[], rfl, fun j f p hj => by simp at hj, by simp; omega, fun i v x _ h => by simp at h, by simp [bulkL, Rows.uptoBulkAll]⟩
  | f :: fl, o, xs, hT, ho, hm, hs => by
    simp only [List.mapM_cons, Option.bind_eq_bind, Option.pure_def] at hm
    cases h1 : DataW.trod enc P w 0 sp true fuel f.type ((cs.drop f.offset).take (P.cellsOf f.type)) with
    | none => simp [h1] at hm
    | some y =>
      cases h2 : fl.mapM (fun f => DataW.trod enc P w 0 sp true fuel f.type ((cs.drop f.offset).take (P.cellsOf f.type))) with
      | none => simp [h1, h2] at hm
      | some ys =>
        simp [h1, h2] at hm
        subst hm
        have hof : f.offset = o := by simpa using ho 0 f rfl
        simp only [List.map_cons, List.sum_cons] at hs
        obtain ⟨es, he⟩ := ih f.type _ y.1 y.2 h1 (hT f List.mem_cons_self)
        obtain ⟨parts, p1, p2, p3, p4, p5⟩ := fields_told ih fl (o + P.cellsOf f.type) ys (fun g hg => hT g (List.mem_cons_of_mem _ hg)) (fun j g hj => by
          have := ho (j + 1) g (by simpa using hj)
          simp only [List.take_succ_cons, List.map_cons, List.sum_cons] at this
          omega) h2 (by omega)
        have hel : es.length = P.cellsOf f.type := by rw [he.len, hof, List.length_take, List.length_drop]; omega
        refine ⟨es :: parts, by simp [p1], fun j g p hj hp => ?_, ?_, fun i v x hv hx => ?_, ?_⟩
        · cases j with
          | zero => simp at hj hp; subst hj; subst hp; exact he.wt
          | succ j => exact p2 j g p (by simpa using hj) (by simpa using hp)
        · simp only [List.flatten_cons, List.length_append, p3, hel]; omega
        · simp only [List.flatten_cons] at hx
          rcases Nat.lt_or_ge i es.length with hlt | hge
          · rw [List.getElem?_append_left hlt] at hx
            refine he.rep i v x ?_ hx
            rw [hof, List.getElem?_take_of_lt (by omega), List.getElem?_drop]
            exact hv
          · rw [List.getElem?_append_right hge] at hx
            refine p4 (i - es.length) v x ?_ hx
            rw [hel] at hge ⊢
            rw [show o + P.cellsOf f.type + (i - P.cellsOf f.type) = o + i by omega]
            exact hv
        · simp only [List.flatten_cons, bulkL_append, List.map_cons, Rows.uptoBulkAll]
          have := he.bulk
          omega

theorem cells_get {b o n : Nat} {cs : List Value} (h : w.cells? 0 ⟨b, o, none⟩ n = some cs) : cs.length = n ∧ ∀ k, k < n → w.cell? ⟨b, o + k, none⟩ = cs[k]? := by
  unfold World.cells? at h
  rw [if_pos (Nat.zero_le _)] at h
  refine ⟨by rw [mapM_some_length h, List.length_range], fun k hk => ?_⟩
  have := mapM_some_get h k k (by rw [List.getElem?_range hk])
  rw [← this, add_at]

theorem told (hC : CtxOK Γ P) (K : Kids P T) {S : List Nat} (hS : closedB Γ S = true) (hT : ∀ t, S.contains t = true → T t) : ∀ (fuel : Nat) (t : Nat) (cs : List Value) (d : DataW H) (ps : List MemPlace),
    DataW.trod enc P w 0 sp true fuel t cs = some (d, ps) → S.contains t = true → ∃ es, Told Γ w H t cs d es
  | 0, t, cs, d, ps, h, hs => by simp [DataW.trod] at h
  | fuel + 1, t, cs, d, ps, h, hs => by
    have hcl := List.all_eq_true.1 hS t (by simpa using hs)
    cases hi : assoc Γ.tt t with
    | none => simp [hi] at hcl
    | some i =>
      simp only [hi] at hcl
      have hTI := hC.tt t i hi
      obtain ⟨ud, hud, hukd⟩ := hTI.under'
      have hcell : ∀ {e : Nat} {u : TI}, TIOK P e u → P.cellsOf e = u.size := fun {e u} hu => by
        obtain ⟨j, z, hj, hsz, _⟩ := hu.info'
        simp [Program.cellsOf, hj, hsz]
      -- one cell
      have single : ∀ {ud' : TypeDesc}, P.underlying t = some ud' → (∀ fs, ud' ≠ .struct fs) → (∀ n e, ud' ≠ .array n e) → ∃ v, cs = [v] := by
        intro ud' hu h1 h2
        rcases cs with _ | ⟨v, _ | ⟨v2, r⟩⟩
        · cases ud' <;> simp [DataW.trod, hu] at h
          all_goals first | exact absurd rfl (h1 _) | exact absurd rfl (h2 _ _)
        · exact ⟨v, rfl⟩
        · cases ud' <;> simp [DataW.trod, hu] at h
          all_goals first | exact absurd rfl (h1 _) | exact absurd rfl (h2 _ _)
      cases hk : i.kind with
      | bool =>
        have hub := hud.trans (congrArg some (tkOf_bool (hukd.trans hk)))
        obtain ⟨v, rfl⟩ := single hub (fun _ e => by cases e) (fun _ _ e => by cases e)
        cases v <;> simp [DataW.trod, hub] at h
        obtain ⟨rfl, rfl⟩ := h
        exact ⟨_, told_one (.bool _) (.bool t i _ hi hk) (by simp [DV.bulk, Rows.uptoBulk])⟩
      | int k =>
        have hub := hud.trans (congrArg some (tkOf_int (hukd.trans hk)))
        obtain ⟨v, rfl⟩ := single hub (fun _ e => by cases e) (fun _ _ e => by cases e)
        cases v <;> simp [DataW.trod, hub] at h
        obtain ⟨⟨rfl, hw⟩, rfl, rfl⟩ := h
        exact ⟨_, told_one (.int _ _) (.int t i _ _ hi hk hw) (by simp [DV.bulk, Rows.uptoBulk])⟩
      | str =>
        have hub := hud.trans (congrArg some (tkOf_str (hukd.trans hk)))
        obtain ⟨v, rfl⟩ := single hub (fun _ e => by cases e) (fun _ _ e => by cases e)
        cases v <;> simp [DataW.trod, hub] at h
        obtain ⟨hw, rfl, rfl⟩ := h
        exact ⟨_, told_one (.str _ (by unfold maxLen at hw; omega)) (.str t i _ hi hk) (by simp [DV.bulk, Rows.uptoBulk])⟩
      | slice e =>
        simp only [hk, Bool.and_eq_true] at hcl
        obtain ⟨hse, hu⟩ := hcl
        cases hae : assoc Γ.tt e with
        | none => simp [hae] at hu
        | some u =>
          simp only [hae, Nat.blt_eq] at hu
          have hUI := hC.tt e u hae
          have hce := hcell hUI
          have hub := hud.trans (congrArg some (tkOf_slice (hukd.trans hk)))
          obtain ⟨v, rfl⟩ := single hub (fun _ e => by cases e) (fun _ _ e => by cases e)
          cases v <;> try (simp [DataW.trod, hub] at h; done)
          rename_i A n c
          cases A with
          | none =>
            cases n with
            | zero =>
              cases c with
              | zero =>
                simp [DataW.trod, hub] at h
                obtain ⟨rfl, rfl⟩ := h
                exact ⟨_, told_one .nil (.nil t i e hi hk) (by simp [DV.bulk, Rows.uptoBulk])⟩
              | succ c => simp [DataW.trod, hub] at h
            | succ n => simp [DataW.trod, hub] at h
          | some ad =>
            simp only [DataW.trod, hub, Nat.zero_le, true_and] at h
            split at h
            · rename_i hc
              obtain ⟨elems, hel, h⟩ := Option.bind_eq_some_iff.1 h
              obtain ⟨rest, hre, h⟩ := Option.map_eq_some_iff.1 h
              simp only [Prod.mk.injEq] at h
              obtain ⟨rfl, _⟩ := h
              have hlen : elems.length = n := by rw [mapM_some_length hel, List.length_range]
              -- the elements, one by one
              have one : ∀ j, j < n → ∃ es cj x, w.cells? 0 (ad.add (j * P.cellsOf e)) (P.cellsOf e) = some cj ∧ elems[j]? = some x ∧ Told Γ w H e cj x.1 es := by
                intro j hj
                have h1 := mapM_some_get hel j j (by rw [List.getElem?_range hj])
                have h2 : elems[j]? = some elems[j] := List.getElem?_eq_getElem (by omega)
                rw [h2] at h1
                obtain ⟨cj, g1, g2⟩ := Option.bind_eq_some_iff.1 h1
                obtain ⟨es, hes⟩ := told hC K hS hT fuel e cj _ _ g2 hse
                exact ⟨es, cj, elems[j], g1, h2, hes⟩
              have hall : ∃ ess : List (List DV), ess.length = n ∧ ∀ j es, ess[j]? = some es → ∃ cj x, w.cells? 0 (ad.add (j * P.cellsOf e)) (P.cellsOf e) = some cj ∧ elems[j]? = some x ∧ Told Γ w H e cj x.1 es := by
                let f : Nat → List DV := fun j => if hj : j < n then Classical.choose (one j hj) else []
                refine ⟨(List.range n).map f, by simp, fun j es hj => ?_⟩
                rw [List.getElem?_map] at hj
                obtain ⟨j', hj', rfl⟩ := Option.map_eq_some_iff.1 hj
                obtain ⟨hlt, rfl⟩ := List.getElem?_eq_some_iff.1 hj'
                simp only [List.length_range] at hlt
                simp only [List.getElem_range]
                have := Classical.choose_spec (one j hlt)
                simp only [f, dif_pos hlt]
                exact this
              obtain ⟨ess, hel2, hess⟩ := hall
              have hbulk : bulkLL ess ≤ Rows.uptoBulkAll (elems.map (·.1)) := by
                have key : ∀ (l : List (List DV)) (m : List (DataW H × List MemPlace)), l.length = m.length → (∀ (j : Nat) (es : List DV) (x : DataW H × List MemPlace), l[j]? = some es → m[j]? = some x → bulkL es ≤ Rows.uptoBulk x.1) → bulkLL l ≤ Rows.uptoBulkAll (m.map (·.1)) := by
                  intro l
                  induction l with
                  | nil => intro m _ _; simp [bulkLL]
                  | cons es l ihl =>
                    intro m hm hb
                    cases m with
                    | nil => simp at hm
                    | cons x m =>
                      have h1 := hb 0 es x rfl rfl
                      have h2 := ihl m (by simpa using hm) (fun j es x h1 h2 => hb (j + 1) es x (by simpa using h1) (by simpa using h2))
                      simp only [bulkLL, List.map_cons, Rows.uptoBulkAll]
                      omega
                refine key ess elems (by rw [hel2, hlen]) fun j es x h1 h2 => ?_
                obtain ⟨cj, x', _, h3, h4⟩ := hess j es h1
                rw [h2] at h3; cases h3
                exact h4.bulk
              have hwt : ∀ x ∈ ess, WT Γ e x := fun x hx => by
                obtain ⟨j, hj, rfl⟩ := List.getElem_of_mem hx
                obtain ⟨_, _, _, _, h4⟩ := hess j _ (List.getElem?_eq_getElem hj)
                exact h4.wt
              refine ⟨[.sl u.size ess], told_one ?_ (.sl t i e u ess hi hk hae hwt) (by simp only [DV.bulk, Rows.uptoBulk]; omega)⟩
              have hmax : n ≤ 9223372036854775807 := by
                have := hc.2; unfold maxLen at this; omega
              rcases Nat.eq_zero_or_pos n with h0 | h0
              · subst h0
                have : ess = [] := List.eq_nil_of_length_eq_zero hel2
                subst this
                exact .sl (some ad) 0 c u.size [] (fun _ _ => undef) rfl hc.1 hmax (fun h => absurd h (Nat.lt_irrefl 0)) (fun j e hj => by simp at hj) (fun j e k d hj => by simp at hj)
              · -- the row's address
                obtain ⟨e0, c0, x0, g0, _, ht0⟩ := one 0 h0
                have hspot : ad.spot = none ∧ ad.block < w.heap.size := by
                  have hcl0 : c0.length = P.cellsOf e := by
                    unfold World.cells? at g0
                    rw [if_pos (Nat.zero_le _)] at g0
                    rw [mapM_some_length g0, List.length_range]
                  unfold World.cells? at g0
                  rw [if_pos (Nat.zero_le _)] at g0
                  have := mapM_some_get g0 0 0 (by rw [List.getElem?_range (by omega)])
                  have hz : ((ad.add (0 * P.cellsOf e)).add 0) = ad := by simp [Addr.add]
                  rw [hz, List.getElem?_eq_getElem (by omega)] at this
                  exact ⟨World.cell?_spot this, World.block_lt_of_cell? w ad this⟩
                obtain ⟨b, o, spot⟩ := ad
                simp only at hspot
                obtain ⟨rfl, hb⟩ := hspot
                have cellsAt : ∀ j es, ess[j]? = some es → ∃ cj x, cj.length = u.size ∧ (∀ k, k < u.size → w.cell? ⟨b, o + j * u.size + k, none⟩ = cj[k]?) ∧ Told Γ w H e cj x es := by
                  intro j es hj
                  obtain ⟨cj, x, g1, _, g3⟩ := hess j es hj
                  rw [add_at, hce] at g1
                  obtain ⟨q1, q2⟩ := cells_get g1
                  exact ⟨cj, x.1, q1, q2, g3⟩
                refine .sl _ n c u.size ess (fun j k => (w.cell? ⟨b, o + j * u.size + k, none⟩).getD undef) hel2 hc.1 hmax (fun _ => ⟨b, o, rfl, hb, fun j k hj hk => ?_⟩) (fun j es hj => ?_) (fun j es k x hj hx => ?_)
                · obtain ⟨cj, x, q1, q2, q3⟩ := cellsAt j _ (List.getElem?_eq_getElem (by rw [hel2]; exact hj))
                  rw [q2 k hk, List.getElem?_eq_getElem (by omega)]
                  rfl
                · obtain ⟨cj, x, q1, q2, q3⟩ := cellsAt j es hj
                  rw [q3.len, q1]
                · obtain ⟨cj, y, q1, q2, q3⟩ := cellsAt j es hj
                  have hkl : k < u.size := by rw [← q1, ← q3.len]; exact (List.getElem?_eq_some_iff.1 hx).1
                  have hkc : cj[k]? = some (cj[k]'(by omega)) := List.getElem?_eq_getElem _
                  rw [q2 k hkl, hkc]
                  exact q3.rep k _ x hkc hx
            · cases h
      | struct fs =>
        simp only [hk] at hcl
        obtain ⟨fl, rfl, hfs⟩ := tkOf_struct (hukd.trans hk)
        have hcs : cs.length = P.cellsOf t ∧ ∃ xs, fl.toList.mapM (fun f => DataW.trod enc P w 0 sp true fuel f.type ((cs.drop f.offset).take (P.cellsOf f.type))) = some xs ∧ d = .agg (xs.map (·.1)) := by
          unfold DataW.trod at h
          simp only [hud] at h
          split at h
          · rename_i hl
            obtain ⟨xs, hx, he⟩ := Option.map_eq_some_iff.1 h
            simp only [Prod.mk.injEq] at he
            exact ⟨hl, xs, hx, he.1.symm⟩
          · cases h
        obtain ⟨hl, xs, hx, rfl⟩ := hcs
        obtain ⟨k1, k2, k3⟩ := K.struct (hT t hs) hud
        have hmem : ∀ f ∈ fl.toList, S.contains f.type = true := fun f hf => by
          have := List.all_eq_true.1 hcl (f.offset, f.type) (by rw [← hfs]; exact List.mem_map_of_mem (f := fun f : Field => (f.offset, f.type)) hf)
          exact this
        obtain ⟨parts, p1, p2, p3, p4, p5⟩ := fields_told (Γ := Γ) (T := fun t => S.contains t = true) (fun t cs d ps h hs => told hC K hS hT fuel t cs d ps h hs) fl.toList 0 xs hmem (fun j f hj => by rw [k3 j f hj, Nat.zero_add]) hx (by rw [Nat.zero_add, hl, k2])
        refine ⟨parts.flatten, by rw [p3, Nat.sub_zero], fun i v x hv hx => p4 i v x (by rw [Nat.zero_add]; exact hv) hx, ?_, by simp only [Rows.uptoBulk]; omega⟩
        refine .struct t i fs parts hi hk (by rw [p1, ← hfs, List.length_map]) fun j f p hf hp => ?_
        rw [← hfs, List.getElem?_map] at hf
        obtain ⟨fd, hfd, rfl⟩ := Option.map_eq_some_iff.1 hf
        exact p2 j fd p hfd hp
      | _ => simp [hk] at hcl

end
end Go.Proofs.Ytepgblhhajdmoaa.Eng
