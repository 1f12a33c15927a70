/-
  THE ENGINE, part 6: operations that make memory, or write it.
-/
import Derived.Test.YtepgblhhajdmoaaEng5
import Derived.Lib.ConvBytes
import Derived.Deep.Upon
set_option linter.unusedVariables false
set_option linter.unusedSimpArgs false
namespace Go.Proofs.Ytepgblhhajdmoaa.Eng
open Go

section
variable {Γ : Ctx} {P : Program} {E E' : Env} {w w' : World} {h : List AB} {md : Bool}

/-- A NEW BOX. -/
theorem add_box (hh : HeapRel Γ E h w) (T : Nat) (vals : Array Value) (cs : List PV) (hl : vals.size = cs.length) (h1 : ∀ c ∈ cs, c.one = true)
    (hr : ∀ (k : Nat) (v : Value) (c : PV), vals[k]? = some v → cs[k]? = some c → Rep E w v c) :
    ∃ E', HeapRel Γ E' (h ++ [.box T cs]) (w.alloc (.cells vals T)) ∧ Fr E h w E' (h ++ [.box T cs]) (w.alloc (.cells vals T)) ∧
      Rep E' (w.alloc (.cells vals T)) (.pointer (some ⟨w.heap.size, 0, none⟩)) (.box h.length 0) := by
  let E' : Env := { E with n := E.n + 1, bx := fun i => if i = E.n then w.heap.size else E.bx i }
  have hold : ∀ b, b < w.heap.size → (w.alloc (.cells vals T)).heap[b]? = w.heap[b]? := fun b hb => RowKit.Below.heap_alloc w _ b hb
  have hx : Ext E w E' (w.alloc (.cells vals T)) := by
    refine ⟨fun b hb => hb, fun b hb => hold b (hh.K b hb), Nat.le_succ _, fun i hi => ?_, fun _ _ => Nat.le_refl _, fun _ _ _ _ => rfl, fun _ _ => rfl⟩
    show (if i = E.n then w.heap.size else E.bx i) = E.bx i
    rw [if_neg (by omega)]
  have hbx : E'.bx h.length = w.heap.size := by show (if h.length = E.n then _ else _) = _; rw [if_pos hh.n.symm]
  have hh' : HeapRel Γ E' (h ++ [.box T cs]) (w.alloc (.cells vals T)) := by
    refine hh.add hx rfl (fun b hb => by have := hh.K b hb; simp; omega) (fun _ _ => rfl) ⟨vals, by rw [hbx]; exact heap_alloc_new w _, hl, h1, fun k v c hv hc => (hr k v c hv hc).mono hx⟩ (fun j ab b hj hb => ⟨hold b (hh.blk_lt hj hb), ?_, hh.notK b ⟨j, ab, hj, hb⟩⟩) (fun b hb hk => ?_)
    · have := hh.blk_lt hj hb
      simp only [BlkOf, hbx]
      intro e; injection e with e; omega
    · simp only [BlkOf, hbx, Option.some.injEq] at hb; subst hb
      exact absurd (hh.K _ hk) (Nat.lt_irrefl _)
  refine ⟨E', hh', ⟨rfl, rfl, rfl, by simp, fun b hb _ => hold b hb, hx, fun b hb => .inl hb, fun b hb => ?_⟩, ?_⟩
  · rcases foot_add hh hx hb with hb | hb
    · simp only [BlkOf, hbx, Option.some.injEq] at hb; exact .inl (by omega)
    · exact .inr hb
  · have := Rep.box (E := E') (w := w.alloc (.cells vals T)) h.length 0 (by show h.length < E.n + 1; rw [hh.n]; omega)
    rwa [hbx] at this

theorem cells_rep {v : Value} {p : PV} (hv : Rep E w v p) (h1 : oneB p.cells = true) : v.cells.size = p.cells.length ∧ (∀ c ∈ p.cells, c.one = true) ∧
    (∀ (k : Nat) (u : Value) (c : PV), v.cells[k]? = some u → p.cells[k]? = some c → Rep E w u c) := by
  have one : ∀ c ∈ p.cells, c.one = true := by simpa [oneB] using h1
  have single : p.one = true → v.cells = #[v] → p.cells = [p] → v.cells.size = p.cells.length ∧ (∀ c ∈ p.cells, c.one = true) ∧
      (∀ (k : Nat) (u : Value) (c : PV), v.cells[k]? = some u → p.cells[k]? = some c → Rep E w u c) := by
    intro _ e1 e2
    refine ⟨by rw [e1, e2]; rfl, one, fun k u c hu hc => ?_⟩
    rw [e1] at hu; rw [e2] at hc
    cases k with
    | zero => simp at hu hc; subst hu; subst hc; exact hv
    | succ k => simp at hc
  cases hv with
  | agg vs cs hl h1' hr => exact ⟨hl, h1', hr⟩
  | d h => cases h <;> exact single rfl rfl rfl
  | undef => have := one .undef (by simp [PV.cells]); simp [PV.one] at this
  | tup => have := one (.tup _) (by simp [PV.cells]; rfl); simp [PV.one] at this
  | _ => exact single rfl rfl rfl

theorem box_sound (hC : CtxOK Γ P) (hh : HeapRel Γ E h w) {T : Nat} {v : Value} {p : PV} (hv : Rep E w v p) (h1 : oneB p.cells = true) :
    ∃ E', HeapRel Γ E' (h ++ [.box T p.cells]) (w.alloc (.cells v.cells T)) ∧ Fr E h w E' (h ++ [.box T p.cells]) (w.alloc (.cells v.cells T)) ∧
      (Instr.box T v).run P w = .ok (.pointer (some ⟨w.heap.size, 0, none⟩)) (w.alloc (.cells v.cells T)) ∧
      Rep E' (w.alloc (.cells v.cells T)) (.pointer (some ⟨w.heap.size, 0, none⟩)) (.box h.length 0) := by
  obtain ⟨a, b, c⟩ := cells_rep hv h1
  obtain ⟨E', e1, e2, e3⟩ := add_box hh T v.cells p.cells a b c
  exact ⟨E', e1, e2, by simp [Instr.box, newVar, newRow], e3⟩

theorem alloc_sound (hC : CtxOK Γ P) (hh : HeapRel Γ E h w) {T : Nat} {i : TI} (hT : TIOK P T i) :
    ∃ E' v w', HeapRel Γ E' (h ++ [.box T (i.zero.map .d)]) w' ∧ Fr E h w E' (h ++ [.box T (i.zero.map .d)]) w' ∧
      (Instr.alloc T true (.tuple #[])).run P w = .ok v w' ∧ Rep E' w' v (.box h.length 0) := by
  obtain ⟨z, hz, hd⟩ := hT.run_zero w
  obtain ⟨e, ih⟩ := dvsOfV_rep (K := E.K) (w := w) hd
  obtain ⟨E', e1, e2, e3⟩ := add_box hh T z.cells (i.zero.map .d) (by simpa using e) (fun c hc => dmap_one hc) (fun k v c hv hc => by
    obtain ⟨y, hy, rfl⟩ := dmap_get hc
    exact .d (ih k v y (by simpa using hv) hy))
  exact ⟨E', _, _, e1, e2, by simp [Instr.alloc, hz, newVar, newRow], e3⟩

/-! ### a box is written -/
theorem splice_get {α : Type} {cs new : List α} {off : Nat} (hle : off + new.length ≤ cs.length) {j : Nat} {x : α} (hx : (splice cs off new)[j]? = some x) :
    (j < off ∧ cs[j]? = some x) ∨ (off ≤ j ∧ j < off + new.length ∧ new[j - off]? = some x) ∨ (off + new.length ≤ j ∧ cs[j]? = some x) := by
  unfold splice at hx
  have h1 : (cs.take off).length = off := by simp; omega
  rcases Nat.lt_or_ge j off with hlt | hge
  · rw [List.append_assoc, List.getElem?_append_left (by omega), List.getElem?_take_of_lt hlt] at hx
    exact .inl ⟨hlt, hx⟩
  · rcases Nat.lt_or_ge j (off + new.length) with hlt | hge2
    · rw [List.getElem?_append_left (by simp; omega), List.getElem?_append_right (by omega), h1] at hx
      exact .inr (.inl ⟨hge, hlt, hx⟩)
    · rw [List.getElem?_append_right (by simp; omega), List.getElem?_drop] at hx
      refine .inr (.inr ⟨hge2, ?_⟩)
      have : off + new.length + (j - (cs.take off ++ new).length) = j := by simp; omega
      rwa [this] at hx
theorem splice_length {α : Type} {cs new : List α} {off : Nat} (hle : off + new.length ≤ cs.length) : (splice cs off new).length = cs.length := by
  unfold splice; simp; omega
theorem splice_mem {α : Type} {cs new : List α} {off : Nat} {x : α} (hx : x ∈ splice cs off new) : x ∈ cs ∨ x ∈ new := by
  unfold splice at hx
  simp only [List.mem_append] at hx
  rcases hx with (hx | hx) | hx
  · exact .inl (List.mem_of_mem_take hx)
  · exact .inr hx
  · exact .inl (List.mem_of_mem_drop hx)

/-- some cells of block g are written: the whole as one row -/
theorem run_storeVar_at {T : Nat} {i : TI} (hT : TIOK P T i) {g o U : Nat} {cur : Array Value} {v : Value} (hg : w.heap[g]? = some (.cells cur U (0, 0)))
    (hsz : v.cells.size = i.size) (hle : o + v.cells.size ≤ cur.size) (h1 : ∀ u ∈ v.cells.toList, u.oneCell' = true) :
    (storeVar T ⟨g, o, none⟩ v).run P w = .ok () (w.setRow g (splice cur.toList o v.cells.toList).toArray) := by
  have hrun := run_storeCells_at (P := P) g o U v.cells.toList 0 cur w hg (by simpa using hle) h1
  have : ¬ (v.cells.size ≠ i.size) := by simp [hsz]
  simp only [storeVar, Sem.run_bind, hT.run_sizeOf w, Result.andThen_ok, if_neg this, Sem.run_pure, Sem.run_ite]
  simpa [splice] using hrun

theorem setRow_size (w : World) (g : Nat) (cs : Array Value) : (w.setRow g cs).heap.size = w.heap.size := by simp [World.setRow]

theorem store_box (hh : HeapRel Γ E h w) {T : Nat} {i : TI} (hT : TIOK P T i) {b off U : Nat} {cs : List PV} (hb : h[b]? = some (.box U cs)) {v : Value} {p : PV} (hv : Rep E w v p)
    (h1 : oneB p.cells = true) (hsz : p.cells.length = i.size) (hle : off + i.size ≤ cs.length) :
    ∃ w', HeapRel Γ E (h.set b (.box U (splice cs off p.cells))) w' ∧ Fr E h w E (h.set b (.box U (splice cs off p.cells))) w' ∧
      (Instr.storeAt T (.pointer (some ⟨E.bx b, off, none⟩)) v).run P w = .ok () w' := by
  obtain ⟨vals, hvals, hvl, hv1, hvr⟩ := hh.at_ b _ hb
  obtain ⟨ha, hb1, hc⟩ := cells_rep hv h1
  have hbl : b < h.length := (List.getElem?_eq_some_iff.1 hb).1
  have hrun := run_storeVar_at hT hvals (v := v) (o := off) (by omega) (by omega) (fun u hu => by
    obtain ⟨k, hk, rfl⟩ := List.getElem_of_mem hu
    have hk' : k < p.cells.length := by rw [← ha]; exact hk
    exact (hc k _ _ (by simp) (List.getElem?_eq_getElem hk')).one (hb1 _ (List.getElem_mem hk')))
  refine ⟨w.setRow (E.bx b) (splice vals.toList off v.cells.toList).toArray, ?_, ?_, by simpa [Instr.storeAt, Instr.sureAddr] using hrun⟩
  · have hx : Ext E w E (w.setRow (E.bx b) (splice vals.toList off v.cells.toList).toArray) :=
      ⟨fun _ hk => hk, fun k hk => setRow_other w _ _ _ (fun e => hh.notK k ⟨b, _, hb, by simp [BlkOf, e]⟩ hk), Nat.le_refl _, fun _ _ => rfl, fun _ _ => Nat.le_refl _, fun _ _ _ _ => rfl, fun _ _ => rfl⟩
    refine hh.put hbl hx rfl (fun k hk => by rw [setRow_size]; exact hh.K k hk) (fun _ _ => rfl) ?_ (fun j ab k hj hab hk => ⟨?_, ?_, hh.notK k ⟨j, ab, hab, hk⟩⟩) (fun k hk => hh.notK k ⟨b, _, hb, hk⟩)
    · refine ⟨_, setRow_heap w _ _ _ _ _ hvals, ?_, ?_, fun k u c hu hcc => ?_⟩
      · simp only [List.size_toArray]
        rw [splice_length (by simp; omega), splice_length (by omega)]
        simpa using hvl
      · intro c hc'
        rcases splice_mem hc' with hm | hm
        · exact hv1 c hm
        · exact hb1 c hm
      · have hu : (splice vals.toList off v.cells.toList)[k]? = some u := by simpa using hu
        rcases splice_get (by simp; omega) hu with ⟨hl, hu⟩ | ⟨hl, hl2, hu⟩ | ⟨hl, hu⟩ <;> rcases splice_get (by omega) hcc with ⟨gl, hcc⟩ | ⟨gl, gl2, hcc⟩ | ⟨gl, hcc⟩ 
        all_goals have hL : v.cells.toList.length = p.cells.length := by simpa using ha
        all_goals simp only [Array.getElem?_toList] at hu
        all_goals first
          | omega
          | exact (hvr k u c hu hcc).mono hx
          | exact (hc _ u c hu hcc).mono hx
    · exact setRow_other w _ _ _ (fun e => hj (hh.apart j b ab _ k hab hb hk (by simp [BlkOf, e])))
    · intro e; exact hj (hh.apart j b ab _ k hab hb hk (by simpa [BlkOf] using e))
  · have hx : Ext E w E (w.setRow (E.bx b) (splice vals.toList off v.cells.toList).toArray) :=
      ⟨fun _ hk => hk, fun k hk => setRow_other w _ _ _ (fun e => hh.notK k ⟨b, _, hb, by simp [BlkOf, e]⟩ hk), Nat.le_refl _, fun _ _ => rfl, fun _ _ => Nat.le_refl _, fun _ _ _ _ => rfl, fun _ _ => rfl⟩
    refine ⟨rfl, rfl, rfl, by rw [setRow_size]; exact Nat.le_refl _, fun k _ hk => setRow_other w _ _ _ (fun e => hk ⟨b, _, hb, by simp [BlkOf, e]⟩), hx, fun _ hk => .inl hk, fun k hk => ?_⟩
    rcases foot_put hh hx hk with hk | hk
    · exact .inr ⟨b, _, hb, hk⟩
    · exact .inr hk

end
end Go.Proofs.Ytepgblhhajdmoaa.Eng
