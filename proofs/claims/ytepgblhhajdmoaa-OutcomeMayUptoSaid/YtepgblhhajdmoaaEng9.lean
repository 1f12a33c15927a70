/-
  THE ENGINE, part 9: conversions, parts of slices and texts, lengths, new rows of zeros, structs put together.
-/
import Derived.Test.YtepgblhhajdmoaaEng8
import Derived.Laws.OwnMore
import Derived.Laws.BytesArg
set_option linter.unusedVariables false
set_option linter.unusedSimpArgs false
namespace Go.Proofs.Ytepgblhhajdmoaa.Eng
open Go

section
variable {Γ : Ctx} {P : Program} {E E' : Env} {w w' : World} {h : List AB} {md : Bool}

/-- nothing old is touched: what is new counts as data -/
def newK (E : Env) (w w' : World) : Env := { E with K := fun b => E.K b ∨ (w.heap.size ≤ b ∧ b < w'.heap.size) }
theorem grow_sound (hh : HeapRel Γ E h w) (ho : w'.os = w.os) (ht : w'.tape = w.tape) (hp : w'.output = w.output) (hsz : w.heap.size ≤ w'.heap.size)
    (hold : ∀ b, b < w.heap.size → w'.heap[b]? = w.heap[b]?) : HeapRel Γ (newK E w w') h w' ∧ Fr E h w (newK E w w') h w' := by
  have hx : Ext E w (newK E w w') w' := ⟨fun b hb => .inl hb, fun b hb => hold b (hh.K b hb), Nat.le_refl _, fun _ _ => rfl, fun _ _ => Nat.le_refl _, fun _ _ _ _ => rfl, fun _ _ => rfl⟩
  have hb : ∀ i ab, BlkOf (newK E w w') i ab = BlkOf E i ab := fun i ab => by cases ab <;> rfl
  refine ⟨⟨hh.n, fun b hb => ?_, fun i ab hi => ?_, fun i j ab ab' b hi hj hb1 hb2 => ?_, fun b hf hk => ?_, fun g cs hg => (hh.glob g cs hg).mono hx⟩, ⟨ho, ht, hp, hsz, fun b hb _ => hold b hb, hx, fun b hb => ?_, fun b hf => ?_⟩⟩
  · rcases hb with hb | hb
    · exact Nat.lt_of_lt_of_le (hh.K b hb) hsz
    · exact hb.2
  · exact (hh.at_ i ab hi).mono hx (hh.lt hi) rfl (fun b hb => hold b (hh.blk_lt hi hb))
  · rw [hb] at hb1 hb2; exact hh.apart i j ab ab' b hi hj hb1 hb2
  · obtain ⟨i, ab, hi, hib⟩ := hf
    rw [hb] at hib
    rcases hk with hk | hk
    · exact hh.notK b ⟨i, ab, hi, hib⟩ hk
    · have := hh.blk_lt hi hib; omega
  · rcases hb with hb | hb
    · exact .inl hb
    · exact .inr (.inl hb.1)
  · obtain ⟨i, ab, hi, hib⟩ := hf
    rw [hb] at hib
    exact .inr ⟨i, ab, hi, hib⟩

def eqShape : Value → Bool
  | .bool _ | .pointer _ | .nilFunc | .func _ _ _ | .agg _ => true
  | _ => false
theorem eqX_shape {T : Nat} {v : Value} {p q : PV} {out : Bool → Bool → Prop} (hv : Rep E w v p) (hk : eqX Γ md T p q out) : eqShape v = true := by
  unfold eqX tinfo at hk
  replace hv := hv.unk
  generalize unkP p = p at hv hk
  generalize unkP q = q at hk
  split at hk
  · split at hk
    all_goals first
      | exact hk.elim
      | (cases hv with | d hv => cases hv <;> rfl)
      | (cases hv <;> rfl)
  · exact hk.elim
def opB (op : BinOp) (b : Bool) : Bool := match op with | .eql => b | _ => !b
theorem run_bin_eq {op : BinOp} (ho : op = .eql ∨ op = .neq) {T : Nat} {v u : Value} (hs : eqShape v = true) {b : Bool} (he : (Op.equal T v u).run P w = .ok b w) :
    (binOp op T v u).run P w = .ok (.bool (opB op b)) w := by
  rcases ho with rfl | rfl <;> cases v <;> simp [eqShape] at hs <;> simp [binOp, he, opB]

theorem binX_sound (hC : CtxOK Γ P) {op : BinOp} {T : Nat} {x y : Operand} {v u : Value} {p q : PV} {kt : PV → Prop} (hv : Rep E w v p) (hu : Rep E w u q) (hk : binX Γ md op T p q kt) :
    ∃ r s, (eqGuard op T x y v u).run P w = .ok () w ∧ (binOp op T v u).run P w = .ok r w ∧ Rep E w r s ∧ kt s := by
  have shiftS : ∀ (k yk : IntKind) (a b : Int), 0 ≤ b → (Op.shift .shl k a yk b).run P w = .ok (.int k (k.wrap (a * 2 ^ (min b.toNat k.bits)))) w ∧ (Op.shift .shr k a yk b).run P w = .ok (.int k (a.fdiv (2 ^ (min b.toNat k.bits)))) w := by
    intro k yk a b hb
    have : ¬ b < 0 := by omega
    exact ⟨by simp [Op.shift, this], by simp [Op.shift, this]⟩
  have gInt : ∀ (o : BinOp) (k k' : IntKind) (a b : Int), (eqGuard o T x y (.int k a) (.int k' b)).run P w = .ok () w := by intro o k k' a b; cases o <;> simp [eqGuard]
  have gStr : ∀ (o : BinOp) (a b : ByteArray), (eqGuard o T x y (.string a) (.string b)).run P w = .ok () w := by intro o a b; cases o <;> simp [eqGuard]
  unfold binX at hk
  split at hk
  · replace hv := hv.unk
    replace hu := hu.unk
    generalize unkP p = p at hv hk
    generalize unkP q = q at hu hk
    split at hk
    · rename_i k a k' b
      replace hk := (need_iff _ _).1 hk
      obtain ⟨hc, hk⟩ := hk
      have hc : 0 ≤ b := by simpa using hc
      cases hv with | d hv => cases hv with | int => cases hu with | d hu => cases hu with | int =>
      exact ⟨_, _, gInt _ _ _ _ _, (shiftS k k' a b hc).1, .d (.int _ _), hk⟩
    · exact hk.elim
  · replace hv := hv.unk
    replace hu := hu.unk
    generalize unkP p = p at hv hk
    generalize unkP q = q at hu hk
    split at hk
    · rename_i k a k' b
      replace hk := (need_iff _ _).1 hk
      obtain ⟨hc, hk⟩ := hk
      have hc : 0 ≤ b := by simpa using hc
      cases hv with | d hv => cases hv with | int => cases hu with | d hu => cases hu with | int =>
      exact ⟨_, _, gInt _ _ _ _ _, (shiftS k k' a b hc).2, .d (.int _ _), hk⟩
    · exact hk.elim
  · rename_i h1 h2
    split at hk
    · rename_i k a k' b ha hb
      replace hk := (need_iff _ _).1 hk
      obtain ⟨hc, hk⟩ := hk
      have hc : k = k' := by simpa [kindEq] using hc
      subst hc
      have := iv_known hv ha; subst this
      have := iv_known hu hb; subst this
      obtain ⟨r, s, e1, e2, e3⟩ := intX_sound (P := P) (E := E) (w := w) (T := T) hk h1 h2
      exact ⟨r, s, gInt _ _ _ _ _, e1, e2, e3⟩
    replace hv := hv.unk
    replace hu := hu.unk
    generalize unkP p = p at hv hk
    generalize unkP q = q at hu hk
    split at hk
    · rename_i k a k' b
      replace hk := (need_iff _ _).1 hk
      obtain ⟨hc, hk⟩ := hk
      have hc : k = k' := by simpa [kindEq] using hc
      subst hc
      cases hv with | d hv => cases hv with | int => cases hu with | d hu => cases hu with | int =>
      obtain ⟨r, s, e1, e2, e3⟩ := intX_sound (P := P) (E := E) (w := w) (T := T) hk h1 h2
      exact ⟨r, s, gInt _ _ _ _ _, e1, e2, e3⟩
    · rename_i a b
      cases hv with | d hv => cases hv with | str s1 => cases hu with | d hu => cases hu with | str s2 =>
      obtain ⟨r, s, e1, e2, e3⟩ := strX_sound (P := P) (E := E) (w := w) (T := T) hk h1 h2
      exact ⟨r, s, gStr _ _ _, e1, e2, e3⟩
    · rename_i hni hns
      have fin : ∀ (o : BinOp), (o = .eql ∨ o = .neq) → eqX Γ md T p q (fun kn b => kt (.d (mkB kn (opB o b)))) →
          ∃ r s, (eqGuard o T x y v u).run P w = .ok () w ∧ (binOp o T v u).run P w = .ok r w ∧ Rep E w r s ∧ kt s := by
        intro o ho hk
        obtain ⟨b, g1, g2, g3, kn, g4⟩ := eqX_sound (P := P) (x := x) (y := y) hC hv hu hk
        refine ⟨_, _, ?_, run_bin_eq ho (eqX_shape hv hk) g3, rep_mkB, g4⟩
        rcases ho with rfl | rfl
        · exact g1
        · exact g2
      split at hk
      · exact fin .eql (.inl rfl) hk
      · exact fin .neq (.inr rfl) hk
      · exact hk.elim

theorem unX_sound {op : UnOp} {v : Value} {p : PV} {kt : PV → Prop} (hv : Rep E w v p) (hk : unX op p kt) : ∃ r s, (Op.unary op v).run P w = .ok r w ∧ Rep E w r s ∧ kt s := by
  unfold unX at hk
  split at hk
  · split at hk
    · rename_i b hb
      have := bv_sym hv hb; subst this
      exact ⟨_, _, rfl, .d (.bool _), hk⟩
    · rename_i b hb
      have := bv_known hv hb; subst this
      exact ⟨_, _, rfl, .d (.kb _), hk⟩
    · exact hk.elim
  · replace hv := hv.unk
    generalize unkP p = p at hv hk
    split at hk
    · cases hv with | d hv => cases hv with | int k n =>
      exact ⟨_, _, by simp [Op.unary, Op.intArith], .d (.int _ _), hk⟩
    · exact hk.elim
  · exact hk.elim

theorem lenX_sound (hC : CtxOK Γ P) (hh : HeapRel Γ E h w) {T ty : Nat} {v : Value} {p : PV} {kt : PV → Prop} (hv : Rep E w v p) (hk : lenX Γ md h T p kt) :
    ∃ r s, (Builtin.len_ #[T] ty #[v]).run P w = .ok r w ∧ Rep E w r s ∧ kt s := by
  unfold lenX at hk
  replace hk := tinfo_elim hC hk
  obtain ⟨i, hT, hk⟩ := hk
  split at hk
  · rename_i s hi
    have hd := str_under hT hi
    cases hv with | d hv => cases hv with | str s =>
    refine ⟨.int .i64 s.size, _, by simp [Builtin.len_, run_underlying hd, goInt], .d (.int _ _), ?_⟩
    rw [size_data] at hk; exact hk
  · rename_i e hi
    have hd := slice_under hT hi
    obtain ⟨sz, es, ⟨A, c, rfl, _⟩, hk⟩ := elems_sound hh hv hk
    exact ⟨_, _, by simp [Builtin.len_, run_underlying hd, goInt], .d (.int _ _), hk⟩
  · exact hk.elim

theorem maxX_sound {args : List Value} : ∀ {ps : List PV} {m : Int} {kt : Int → Prop}, args.length = ps.length → (∀ (i : Nat) (v : Value) (p : PV), args[i]? = some v → ps[i]? = some p → Rep E w v p) → maxX m ps kt →
    ∃ r, (args.foldlM Builtin.max2 (.int .i64 m)).run P w = .ok (.int .i64 r) w ∧ kt r := by
  induction args with
  | nil =>
    intro ps m kt hl _ hk
    cases ps with
    | nil => exact ⟨m, rfl, hk⟩
    | cons => simp at hl
  | cons v args ih =>
    intro ps m kt hl hr hk
    cases ps with
    | nil => simp at hl
    | cons p ps =>
      unfold maxX at hk
      have h0 := (hr 0 v _ rfl rfl).unk
      generalize unkP p = p' at h0 hk
      split at hk
      · rename_i n
        cases h0 with | d h0 => cases h0 with | int =>
        obtain ⟨r, e1, e2⟩ := ih (by simpa using hl) (fun i v p h1 h2 => hr (i + 1) v p h1 h2) hk
        refine ⟨r, ?_, e2⟩
        simp only [List.foldlM_cons, Sem.run_bind]
        simp [Builtin.max2, Result.andThen]
        exact e1
      · exact hk.elim

end
end Go.Proofs.Ytepgblhhajdmoaa.Eng
