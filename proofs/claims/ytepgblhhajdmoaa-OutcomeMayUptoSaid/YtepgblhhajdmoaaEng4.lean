/-
  THE ENGINE, part 4: operators, conversions, slices of slices.
-/
import Derived.Test.YtepgblhhajdmoaaEng3
import Derived.Laws.StructEq
set_option linter.unusedVariables false
set_option linter.unusedSimpArgs false
namespace Go.Proofs.Ytepgblhhajdmoaa.Eng
open Go

section
variable {Γ : Ctx} {P : Program} {E : Env} {w : World} {h : List AB} {a : Act} {slots : List (Option PV)} {md : Bool}

theorem byteArray_toList (s : ByteArray) : s.toList = s.data.toList := by rw [ByteArray.toList_eq]
theorem append_data (s t : ByteArray) : (s ++ t).data.toList = s.data.toList ++ t.data.toList := by simp
theorem size_data (s : ByteArray) : s.data.toList.length = s.size := by rw [Array.length_toList]; rfl

theorem rep_mkI {kn : Bool} {k : IntKind} {n : Int} : Rep E w (.int k n) (.d (mkI kn k n)) := by cases kn <;> first | exact .d (.int _ _) | exact .d (.ki _ _)
theorem rep_mkB {kn : Bool} {b : Bool} : Rep E w (.bool b) (.d (mkB kn b)) := by cases kn <;> first | exact .d (.bool _) | exact .d (.kb _)
theorem intX_sound {op : BinOp} {k : IntKind} {x y : Int} {kt : PV → Prop} {T : Nat} {kn : Bool} (hk : intX md kn op k x y kt) (hs : op ≠ .shl) (hs' : op ≠ .shr) :
    ∃ v q, (binOp op T (.int k x) (.int k y)).run P w = .ok v w ∧ Rep E w v q ∧ kt q := by
  cases op <;> simp only [intX] at hk <;> (first | exact absurd rfl hs | exact absurd rfl hs' | exact hk.elim | skip)
  case quo =>
    replace hk := (need_iff _ _).1 hk
    obtain ⟨hc, hk⟩ := hk
    have hc : y ≠ 0 := by simpa using hc
    exact ⟨_, _, by simp [binOp, Op.intDiv, hc], rep_mkI, hk⟩
  case rem =>
    replace hk := (need_iff _ _).1 hk
    obtain ⟨hc, hk⟩ := hk
    have hc : y ≠ 0 := by simpa using hc
    exact ⟨_, _, by simp [binOp, Op.intDiv, hc], rep_mkI, hk⟩
  case and => exact ⟨_, _, by simp only [binOp, ne_eq, not_true, if_false]; rfl, rep_mkI, hk⟩
  case or => exact ⟨_, _, by simp only [binOp, ne_eq, not_true, if_false]; rfl, rep_mkI, hk⟩
  case xor => exact ⟨_, _, by simp only [binOp, ne_eq, not_true, if_false]; rfl, rep_mkI, hk⟩
  case add => exact ⟨_, _, by simp [binOp, Op.intArith], rep_mkI, hk⟩
  case sub => exact ⟨_, _, by simp [binOp, Op.intArith], rep_mkI, hk⟩
  case mul => exact ⟨_, _, by simp [binOp, Op.intArith], rep_mkI, hk⟩
  all_goals exact ⟨_, _, by simp [binOp, Op.intCmp], rep_mkB, hk⟩

theorem strX_sound {op : BinOp} {x y : ByteArray} {kt : PV → Prop} {T : Nat} (hk : strX md op x.data.toList y.data.toList kt) (hs : op ≠ .shl) (hs' : op ≠ .shr) :
    ∃ v q, (binOp op T (.string x) (.string y)).run P w = .ok v w ∧ Rep E w v q ∧ kt q := by
  cases op <;> simp only [strX] at hk <;> (first | exact absurd rfl hs | exact absurd rfl hs' | exact hk.elim | skip)
  case add =>
    replace hk := (need_iff _ _).1 hk
    obtain ⟨hc, hk⟩ := hk
    have hc : x.size + y.size ≤ mostBytes := by simpa [size_data] using hc
    have hn : ¬ (IntKind.i64.max < ((x.size + y.size : Nat) : Int)) := by
      have : IntKind.i64.max = 9223372036854775807 := by decide
      rw [this]; unfold mostBytes at hc; omega
    refine ⟨.string (x ++ y), _, ?_, ?_, hk⟩
    · simp only [binOp, Op.stringOp, gt_iff_lt, if_neg hn]; rfl
    · rw [← append_data]; exact .d (.str _ (by simp; unfold mostBytes at hc; omega))
  all_goals exact ⟨_, _, by simp [binOp, Op.stringOp, byteArray_toList], .d (.bool _), hk⟩

theorem tkOf_bool {d : TypeDesc} (h : tkOf d = .bool) : d = .bool := by
  cases d with
  | float k => cases k <;> simp [tkOf] at h
  | complex k => cases k <;> simp [tkOf] at h
  | bool => rfl
  | _ => simp [tkOf] at h
theorem tkOf_ptr {d : TypeDesc} {e : Nat} (h : tkOf d = .ptr e) : d = .pointer e := by
  cases d with
  | float k => cases k <;> simp [tkOf] at h
  | complex k => cases k <;> simp [tkOf] at h
  | pointer e' => simp only [tkOf, TK.ptr.injEq] at h; rw [h]
  | _ => simp [tkOf] at h
theorem tkOf_fn {d : TypeDesc} (h : tkOf d = .fn) : ∃ a b c, d = .func a b c := by
  cases d with
  | float k => cases k <;> simp [tkOf] at h
  | complex k => cases k <;> simp [tkOf] at h
  | func a b c => exact ⟨a, b, c, rfl⟩
  | _ => simp [tkOf] at h

theorem part_plain {U off : Nat} {u : TI} (hU : TIOK P U u) (hk : aggK u.kind = false) {vs : Array Value} {v : Value} (hv : vs[off]? = some v) :
    (Go.part U vs off).run P w = .ok v w := by
  have hag := run_isAgg (w := w) hU
  rw [hk] at hag
  simp only [Go.part, Sem.run_bind, hag, Result.andThen_ok, Bool.false_eq_true, if_false, hv]
  rfl

theorem cellsEq_sound (hC : CtxOK Γ P) {vx vy : Array Value} (d : Nat) : ∀ (fl : List Field) (n : Nat) (x y : List PV) (k : Bool → Prop),
    (∀ f ∈ fl, (f.name == "_") = false) → cellsEq Γ md n (fl.map fun f => (f.offset, f.type)) x y k →
    (∀ (i : Nat) (v : Value) (c : PV), vx[n + i]? = some v → x[i]? = some c → Rep E w v c) → vx.size = n + x.length →
    (∀ (i : Nat) (v : Value) (c : PV), vy[n + i]? = some v → y[i]? = some c → Rep E w v c) → vy.size = n + y.length →
    ∃ r, (Op.eqFields (d + 1) vx vy fl).run P w = .ok r w ∧ k r
  | [], n, x, y, k, _, hk, hx, hxl, hy, hyl => by
    cases x <;> cases y <;> simp only [List.map_nil, cellsEq] at hk <;> (try exact hk.elim)
    exact ⟨true, by simp [Op.eqFields], hk⟩
  | f :: fl, n, x, y, k, hn, hk, hx, hxl, hy, hyl => by
    cases x with
    | nil => simp only [List.map_cons, cellsEq] at hk; exact hk.elim
    | cons a x =>
    cases y with
    | nil => simp only [List.map_cons, cellsEq] at hk; exact hk.elim
    | cons b y =>
    simp only [List.map_cons, cellsEq] at hk
    replace hk := (need_iff _ _).1 hk
    obtain ⟨hoff, hk⟩ := hk
    have hoff : f.offset = n := by simpa using hoff
    replace hk := tinfo_elim hC hk
    obtain ⟨u, hU, hk⟩ := hk
    have hnm : f.name ≠ "_" := by simpa using hn f (by simp)
    obtain ⟨va, hva⟩ : ∃ v, vx[n]? = some v := ⟨vx[n]'(by simp at hxl; omega), Array.getElem?_eq_getElem _⟩
    obtain ⟨vb, hvb⟩ : ∃ v, vy[n]? = some v := ⟨vy[n]'(by simp at hyl; omega), Array.getElem?_eq_getElem _⟩
    have ra := (hx 0 va a hva rfl).unk
    have rb := (hy 0 vb b hvb rfl).unk
    generalize unkP a = a0 at ra hk
    generalize unkP b = b0 at rb hk
    have step : ∀ (r : Bool), aggK u.kind = false →
        (Op.equalIn (d + 1) f.type va vb).run P w = .ok r w → cellsEq Γ md (n + 1) (fl.map fun f => (f.offset, f.type)) x y (fun s => k (r && s)) →
        ∃ s, (Op.eqFields (d + 1) vx vy (f :: fl)).run P w = .ok s w ∧ k s := by
      intro r hp he hk
      obtain ⟨s, hs, hks⟩ := cellsEq_sound hC d fl (n + 1) x y _ (fun g hg => hn g (by simp [hg])) hk
        (fun i v c hv hc => hx (i + 1) v c (by rw [show n + (i + 1) = n + 1 + i by omega]; exact hv) (by simpa using hc)) (by simp at hxl ⊢; omega)
        (fun i v c hv hc => hy (i + 1) v c (by rw [show n + (i + 1) = n + 1 + i by omega]; exact hv) (by simpa using hc)) (by simp at hyl ⊢; omega)
      refine ⟨r && s, ?_, hks⟩
      rw [Op.eqFields]
      simp only [if_pos hnm, Sem.run_bind, hoff, part_plain hU hp hva, part_plain hU hp hvb, he, Result.andThen_ok]
      cases r
      · simp
      · simpa using hs
    split at hk
    · rename_i kd p a' q b' hkind
      replace hk := (need_iff _ _).1 hk
      obtain ⟨hpq, hk⟩ := hk
      have hpq : p = q := by simpa [kindEq] using hpq
      subst hpq
      cases ra with | d ra => cases ra with | int => cases rb with | d rb => cases rb with | int =>
      exact step (a' == b') (by rw [hkind]; rfl) (run_equalIn_int w d f.type p kd a' b' (int_under hU hkind)) hk
    · rename_i a' b' hkind
      cases ra with | d ra => cases ra with | bool => cases rb with | d rb => cases rb with | bool =>
      obtain ⟨dd, hdd, hkd⟩ := hU.under'
      exact step (a' == b') (by rw [hkind]; rfl) (run_equalIn_bool w d f.type a' b' (by rw [hdd, tkOf_bool (hkd.trans hkind)])) hk
    · rename_i a' b' hkind
      cases ra with | d ra => cases ra with | str sa => cases rb with | d rb => cases rb with | str sb =>
      refine step (sa.data.toList == sb.data.toList) (by rw [hkind]; rfl) ?_ hk
      rw [run_equalIn_string w d f.type sa sb (str_under hU hkind), byteArray_toList, byteArray_toList]
    · exact hk.elim

theorem run_equalIn_ptr_none (d T : Nat) {e : Nat} (ht : P.underlying T = some (.pointer e)) (b : Option Addr) : (Op.equalIn (d + 1) T (.pointer none) (.pointer b)).run P w = .ok b.isNone w := by
  simp [Op.equalIn, run_underlying ht]
theorem run_equalIn_ptr_some (d T : Nat) {e : Nat} (ht : P.underlying T = some (.pointer e)) (b : Addr) : (Op.equalIn (d + 1) T (.pointer (some b)) (.pointer none)).run P w = .ok false w := by
  simp [Op.equalIn, run_underlying ht]
theorem run_equalIn_fn_none (d T : Nat) {x y : Array TypeId} {z : Bool} (ht : P.underlying T = some (.func x y z)) : (Op.equalIn (d + 1) T .nilFunc .nilFunc).run P w = .ok true w := by
  simp [Op.equalIn, run_underlying ht]
theorem run_equalIn_fn_some (d T : Nat) {x y : Array TypeId} {z : Bool} (ht : P.underlying T = some (.func x y z)) (f : Fn) (a b : Array Value) : (Op.equalIn (d + 1) T (.func f a b) .nilFunc).run P w = .ok false w := by
  simp [Op.equalIn, run_underlying ht]
theorem eqX_sound (hC : CtxOK Γ P) {T : Nat} {x y : Operand} {v u : Value} {p q : PV} {out : Bool → Bool → Prop} (hv : Rep E w v p) (hu : Rep E w u q) (hk : eqX Γ md T p q out) :
    ∃ b, (eqGuard .eql T x y v u).run P w = .ok () w ∧ (eqGuard .neq T x y v u).run P w = .ok () w ∧ (Op.equal T v u).run P w = .ok b w ∧ ∃ kn, out kn b := by
  unfold eqX at hk
  replace hk := tinfo_elim hC hk
  obtain ⟨i, hT, hk⟩ := hk
  obtain ⟨d, hd, hkd⟩ := hT.under'
  replace hv := hv.unk
  replace hu := hu.unk
  generalize unkP p = p at hv hk
  generalize unkP q = q at hu hk
  split at hk
  · rename_i a b hi
    cases hv with | d hv => cases hv with | bool => cases hu with | d hu => cases hu with | bool =>
    exact ⟨a == b, by simp [eqGuard], by simp [eqGuard], run_equalIn_bool w 9999 T a b (by rw [hd, tkOf_bool (hkd.trans hi)]), _, hk⟩
  · rename_i e hi
    cases hv with | d hv => cases hv with | nilp => cases hu with | d hu => cases hu with | nilp =>
    have hd := hd.trans (congrArg some (tkOf_ptr (hkd.trans hi)))
    exact ⟨true, by simp [eqGuard], by simp [eqGuard], run_equalIn_ptr_none 9999 T hd none, _, hk⟩
  · rename_i e b o hi
    cases hv with | d hv => cases hv with | nilp => cases hu with | box =>
    have hd := hd.trans (congrArg some (tkOf_ptr (hkd.trans hi)))
    exact ⟨false, by simp [eqGuard], by simp [eqGuard], run_equalIn_ptr_none 9999 T hd _, _, hk⟩
  · rename_i e b o hi
    cases hv with | box => cases hu with | d hu => cases hu with | nilp =>
    have hd := hd.trans (congrArg some (tkOf_ptr (hkd.trans hi)))
    exact ⟨false, by simp [eqGuard], by simp [eqGuard], run_equalIn_ptr_some 9999 T hd _, _, hk⟩
  · rename_i hi
    cases hv with | d hv => cases hv with | nofn => cases hu with | d hu => cases hu with | nofn =>
    obtain ⟨_, _, _, hdf⟩ := tkOf_fn (hkd.trans hi)
    have hd := hd.trans (congrArg some hdf)
    exact ⟨true, by simp [eqGuard], by simp [eqGuard], run_equalIn_fn_none 9999 T hd, _, hk⟩
  · rename_i f hi
    cases hv with | d hv => cases hv with | fn => cases hu with | d hu => cases hu with | nofn =>
    obtain ⟨_, _, _, hdf⟩ := tkOf_fn (hkd.trans hi)
    have hd := hd.trans (congrArg some hdf)
    exact ⟨false, by simp [eqGuard], by simp [eqGuard], run_equalIn_fn_some 9999 T hd _ _ _, _, hk⟩
  · rename_i f cs hi
    cases hv with | clo => cases hu with | d hu => cases hu with | nofn =>
    obtain ⟨_, _, _, hdf⟩ := tkOf_fn (hkd.trans hi)
    have hd := hd.trans (congrArg some hdf)
    exact ⟨false, by simp [eqGuard], by simp [eqGuard], run_equalIn_fn_some 9999 T hd _ _ _, _, hk⟩
  · rename_i fs a b hi
    replace hk := (need_iff _ _).1 hk
    obtain ⟨hc, hk⟩ := hk
    have he := hC.eqs T hc
    simp only [eqB, Bool.and_eq_true, Bool.not_eq_true'] at he
    obtain ⟨⟨hg, hst⟩, hnm⟩ := he
    obtain ⟨fl, rfl, hfs⟩ := tkOf_struct (hkd.trans hi)
    rw [hd] at hnm
    simp only [List.all_eq_true, Bool.not_eq_true'] at hnm
    cases hv with | agg va _ hla h1a hra => cases hu with | agg vb _ hlb h1b hrb =>
    rw [← hfs] at hk
    obtain ⟨r, hr, hkr⟩ := cellsEq_sound (E := E) (w := w) hC (vx := va) (vy := vb) 9998 fl.toList 0 a b (out false) hnm hk
      (fun i v c hv hc => hra i v c (by simpa using hv) hc) (by simpa using hla) (fun i v c hv hc => hrb i v c (by simpa using hv) hc) (by simpa using hlb)
    have hf : P.fieldsOf T = fl := by simp [Program.fieldsOf, hd]
    refine ⟨r, run_eqGuard_agg w .eql T x y va vb hg, run_eqGuard_agg w .neq T x y va vb hg, ?_, _, hkr⟩
    show (Op.equalIn 10000 T (.agg va) (.agg vb)).run P w = _
    rw [run_equalIn_struct w 9999 T va vb (by rw [hf]; exact hd) hst, hf]
    exact hr
  · exact hk.elim

end
end Go.Proofs.Ytepgblhhajdmoaa.Eng
