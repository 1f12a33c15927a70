/-
  THE ENGINE, part 1: what it means that memory holds what was reckoned; how that stays while the machine goes on.
-/
import Derived.Test.YtepgblhhajdmoaaEng0
set_option linter.unusedVariables false
namespace Go.Proofs.Ytepgblhhajdmoaa.Eng
open Go

theorem nth_eq {α : Type} : ∀ (l : List α) (n : Nat), nth l n = l[n]?
  | [], _ => by simp [nth]
  | x :: _, 0 => by simp [nth]
  | _ :: r, n + 1 => by simp [nth, nth_eq r n]

/-! ### data -/
inductive RepD (K : Nat → Prop) (w : World) : Value → DV → Prop
  | bool (b : Bool) : RepD K w (.bool b) (.bool b)
  | int (k : IntKind) (n : Int) : RepD K w (.int k n) (.int k n)
  | str (s : ByteArray) (h : s.size ≤ 9223372036854775807) : RepD K w (.string s) (.str s.data.toList)
  | flt (b : Nat) : RepD K w (.float .f64 b) (.flt b)
  | cx (a b : Nat) : RepD K w (.complex .f64 a b) (.cx a b)
  | nil : RepD K w (.slice none 0 0) .nil
  | sl (A : Option Addr) (n c sz : Nat) (es : List (List DV)) (vals : Nat → Nat → Value)
      (hn : es.length = n) (hc : n ≤ c) (hm : n ≤ 9223372036854775807)
      (hA : 0 < n → ∃ b o, A = some ⟨b, o, none⟩ ∧ K b ∧ ∀ j k, j < n → k < sz → w.cell? ⟨b, o + j * sz + k, none⟩ = some (vals j k))
      (hs : ∀ (j : Nat) (e : List DV), es[j]? = some e → e.length = sz)
      (hr : ∀ (j : Nat) (e : List DV) (k : Nat) (d : DV), es[j]? = some e → e[k]? = some d → RepD K w (vals j k) d) : RepD K w (.slice A n c) (.sl sz es)
  | fn (f : Nat) : RepD K w (.func (.func f) #[] #[]) (.fn f)
  | nofn : RepD K w .nilFunc .nofn
  | nilp : RepD K w (.pointer none) .nilp
  | nili : RepD K w .nilIface .nili
  | kb (b : Bool) : RepD K w (.bool b) (.kb b)
  | ki (k : IntKind) (n : Int) : RepD K w (.int k n) (.ki k n)

theorem RepD.ext {K K' : Nat → Prop} {w w' : World} (hK : ∀ b, K b → K' b) (hw : ∀ b, K b → w'.heap[b]? = w.heap[b]?) {v : Value} {d : DV} (h : RepD K w v d) : RepD K' w' v d := by
  induction h with
  | bool b => exact .bool b
  | int k n => exact .int k n
  | str s h => exact .str s h
  | flt b => exact .flt b
  | cx a b => exact .cx a b
  | nil => exact .nil
  | sl A n c sz es vals hn hc hm hA hs hr ih =>
    refine .sl A n c sz es vals hn hc hm (fun h0 => ?_) hs (fun j e k d hj hk => ih j e k d hj hk)
    obtain ⟨b, o, rfl, hb, hcell⟩ := hA h0
    exact ⟨b, o, rfl, hK b hb, fun j k hj hk => by rw [World.cell?_of_block (w := w) (hw b hb)]; exact hcell j k hj hk⟩
  | fn f => exact .fn f
  | nofn => exact .nofn
  | nilp => exact .nilp
  | nili => exact .nili
  | kb b => exact .kb b
  | ki k n => exact .ki k n

theorem RepD.one {K : Nat → Prop} {w : World} {v : Value} {d : DV} (h : RepD K w v d) : v.oneCell' = true := by
  cases h <;> rfl

/-! ### values -/
structure Env where
  K : Nat → Prop
  n : Nat
  bx : Nat → Nat
  rv : Nat → Nat → Value
  len : Nat → Nat
  sz : Nat → Nat

inductive Rep (E : Env) (w : World) : Value → PV → Prop
  | d {v : Value} {x : DV} (h : RepD E.K w v x) : Rep E w v (.d x)
  | undef : Rep E w Go.undef .undef
  | agg (vs : Array Value) (cs : List PV) (hl : vs.size = cs.length) (h1 : ∀ c ∈ cs, c.one = true)
      (hr : ∀ (i : Nat) (v : Value) (c : PV), vs[i]? = some v → cs[i]? = some c → Rep E w v c) : Rep E w (.agg vs) (.agg cs)
  | tup (vs : Array Value) (cs : List PV) (hl : vs.size = cs.length)
      (hr : ∀ (i : Nat) (v : Value) (c : PV), vs[i]? = some v → cs[i]? = some c → Rep E w v c) : Rep E w (.tuple vs) (.tup cs)
  | box (i off : Nat) (h : i < E.n) : Rep E w (.pointer (some ⟨E.bx i, off, none⟩)) (.box i off)
  | elem (b o : Nat) (cs : List DV) (vals : Nat → Value) (hK : E.K b) (hc : ∀ k, k < cs.length → w.cell? ⟨b, o + k, none⟩ = some (vals k))
      (hr : ∀ (k : Nat) (x : DV), cs[k]? = some x → RepD E.K w (vals k) x) : Rep E w (.pointer (some ⟨b, o, none⟩)) (.elem cs)
  | row (A : Option Addr) (i n c : Nat) (h : i < E.n) (hn : n ≤ E.len i) (hv : E.rv i n = .slice A n c) : Rep E w (.slice A n c) (.row i n)
  | rowel (g i n j off c : Nat) (h : i < E.n) (hn : n ≤ E.len i) (hv : E.rv i n = .slice (some ⟨g, 0, none⟩) n c) :
      Rep E w (.pointer (some ⟨g, j * E.sz i + off, none⟩)) (.rowel i n j off)
  | clo (f : Nat) (vs : Array Value) (cs : List PV) (hl : vs.size = cs.length)
      (hr : ∀ (i : Nat) (v : Value) (c : PV), vs[i]? = some v → cs[i]? = some c → Rep E w v c) : Rep E w (.func (.func f) #[] vs) (.clo f cs)
  | ifc (t : Nat) (v : Value) (c : PV) (h : Rep E w v c) : Rep E w (.iface t v) (.ifc t c)

theorem Rep.one {E : Env} {w : World} {v : Value} {p : PV} (h : Rep E w v p) (h1 : p.one = true) : v.oneCell' = true := by
  cases h with
  | d h => exact h.one
  | undef => simp [PV.one] at h1
  | agg => simp [PV.one] at h1
  | tup => simp [PV.one] at h1
  | _ => rfl

structure Ext (E : Env) (w : World) (E' : Env) (w' : World) : Prop where
  K : ∀ b, E.K b → E'.K b
  same : ∀ b, E.K b → w'.heap[b]? = w.heap[b]?
  n : E.n ≤ E'.n
  bx : ∀ i, i < E.n → E'.bx i = E.bx i
  len : ∀ i, i < E.n → E.len i ≤ E'.len i
  rv : ∀ i m, i < E.n → m ≤ E.len i → E'.rv i m = E.rv i m
  sz : ∀ i, i < E.n → E'.sz i = E.sz i

theorem Ext.refl (E : Env) (w : World) : Ext E w E w := ⟨fun _ h => h, fun _ _ => rfl, Nat.le_refl _, fun _ _ => rfl, fun _ _ => Nat.le_refl _, fun _ _ _ _ => rfl, fun _ _ => rfl⟩

theorem Ext.trans {E E1 E2 : Env} {w w1 w2 : World} (h : Ext E w E1 w1) (k : Ext E1 w1 E2 w2) : Ext E w E2 w2 :=
  ⟨fun b hb => k.K b (h.K b hb), fun b hb => (k.same b (h.K b hb)).trans (h.same b hb), Nat.le_trans h.n k.n,
    fun i hi => (k.bx i (Nat.lt_of_lt_of_le hi h.n)).trans (h.bx i hi),
    fun i hi => Nat.le_trans (h.len i hi) (k.len i (Nat.lt_of_lt_of_le hi h.n)),
    fun i m hi hm => (k.rv i m (Nat.lt_of_lt_of_le hi h.n) (Nat.le_trans hm (h.len i hi))).trans (h.rv i m hi hm),
    fun i hi => (k.sz i (Nat.lt_of_lt_of_le hi h.n)).trans (h.sz i hi)⟩

theorem RepD.mono {E E' : Env} {w w' : World} (hx : Ext E w E' w') {v : Value} {d : DV} (h : RepD E.K w v d) : RepD E'.K w' v d := h.ext hx.K hx.same

theorem Rep.mono {E E' : Env} {w w' : World} (hx : Ext E w E' w') {v : Value} {p : PV} (h : Rep E w v p) : Rep E' w' v p := by
  induction h with
  | d h => exact .d (h.mono hx)
  | undef => exact .undef
  | agg vs cs hl h1 hr ih => exact .agg vs cs hl h1 ih
  | tup vs cs hl hr ih => exact .tup vs cs hl ih
  | box i off h => rw [← hx.bx i h]; exact .box i off (Nat.lt_of_lt_of_le h hx.n)
  | elem b o cs vals hK hc hr =>
    exact .elem b o cs vals (hx.K b hK) (fun k hk => by rw [World.cell?_of_block (w := w) (hx.same b hK)]; exact hc k hk) (fun k x hk => (hr k x hk).mono hx)
  | row A i n c h hn hv => exact .row A i n c (Nat.lt_of_lt_of_le h hx.n) (Nat.le_trans hn (hx.len i h)) ((hx.rv i n h hn).trans hv)
  | rowel g i n j off c h hn hv =>
    rw [← hx.sz i h]
    exact .rowel g i n j off c (Nat.lt_of_lt_of_le h hx.n) (Nat.le_trans hn (hx.len i h)) ((hx.rv i n h hn).trans hv)
  | clo f vs cs hl hr ih => exact .clo f vs cs hl ih
  | ifc t v c h ih => exact .ifc t v c ih

theorem RepD.unk {K : Nat → Prop} {w : World} {v : Value} {x : DV} (h : RepD K w v x) : RepD K w v (unkD x) := by
  cases h with
  | kb b => exact .bool b
  | ki k n => exact .int k n
  | bool b => exact .bool b
  | int k n => exact .int k n
  | str s h => exact .str s h
  | flt b => exact .flt b
  | cx a b => exact .cx a b
  | nil => exact .nil
  | sl A n c sz es vals hn hc hm hA hs hr => exact .sl A n c sz es vals hn hc hm hA hs hr
  | fn f => exact .fn f
  | nofn => exact .nofn
  | nilp => exact .nilp
  | nili => exact .nili
theorem Rep.unk {E : Env} {w : World} {v : Value} {p : PV} (h : Rep E w v p) : Rep E w v (unkP p) := by
  cases h with
  | d h => exact .d h.unk
  | undef => exact .undef
  | agg vs cs hl h1 hr => exact .agg vs cs hl h1 hr
  | tup vs cs hl hr => exact .tup vs cs hl hr
  | box i off h => exact .box i off h
  | elem b o cs vals hK hc hr => exact .elem b o cs vals hK hc hr
  | row A i n c h hn hv => exact .row A i n c h hn hv
  | rowel g i n j off c h hn hv => exact .rowel g i n j off c h hn hv
  | clo f vs cs hl hr => exact .clo f vs cs hl hr
  | ifc t v c h => exact .ifc t v c h
theorem unkP_one {p : PV} (h : p.one = true) : (unkP p).one = true := by
  cases p with
  | d x => rfl
  | _ => exact h
theorem Rep.unkA {E : Env} {w : World} {v : Value} {p : PV} (h : Rep E w v p) : Rep E w v (unkA p) := by
  cases h with
  | d h => exact .d h.unk
  | undef => exact .undef
  | agg vs cs hl h1 hr =>
    refine .agg vs _ (by simpa using hl) (fun c hc => ?_) (fun i v c hv hc => ?_)
    · obtain ⟨p, hp, rfl⟩ := List.mem_map.1 hc; exact unkP_one (h1 p hp)
    · rw [List.getElem?_map] at hc
      obtain ⟨p, hp, rfl⟩ := Option.map_eq_some_iff.1 hc
      exact (hr i v p hv hp).unk
  | tup vs cs hl hr => exact .tup vs cs hl hr
  | box i off h => exact .box i off h
  | elem b o cs vals hK hc hr => exact .elem b o cs vals hK hc hr
  | row A i n c h hn hv => exact .row A i n c h hn hv
  | rowel g i n j off c h hn hv => exact .rowel g i n j off c h hn hv
  | clo f vs cs hl hr => exact .clo f vs cs hl hr
  | ifc t v c h => exact .ifc t v c h

/-! ### the reckoned memory -/
def BlkOf (E : Env) (i : Nat) : AB → Option Nat
  | .box _ _ => some (E.bx i)
  | .row _ _ xs => (E.rv i xs.length).ownBlock
  | _ => none

def AtB (E : Env) (w : World) (i : Nat) : AB → Prop
  | .box T cs => ∃ vals : Array Value, w.heap[E.bx i]? = some (.cells vals T (0, 0)) ∧ vals.size = cs.length ∧ (∀ c ∈ cs, c.one = true) ∧
      ∀ (k : Nat) (v : Value) (c : PV), vals[k]? = some v → cs[k]? = some c → Rep E w v c
  | .row T sz xs => E.sz i = sz ∧ E.len i = xs.length ∧ 0 < sz ∧ (∀ e ∈ xs, e.length = sz) ∧ ∃ vals : List Value, w.ownsRow 0 T sz (E.rv i xs.length) xs.length vals ∧
      ∀ (j : Nat) (e : List DV) (k : Nat) (v : Value) (d : DV), xs[j]? = some e → e[k]? = some d → vals[j * sz + k]? = some v → RepD E.K w v d
  | .froz T sz xs => E.sz i = sz ∧ E.len i = xs.length ∧ RepD E.K w (E.rv i xs.length) (.sl sz xs)
  | .dead => True

def Foot (E : Env) (h : List AB) (b : Nat) : Prop := ∃ i ab, h[i]? = some ab ∧ BlkOf E i ab = some b

structure HeapRel (Γ : Ctx) (E : Env) (h : List AB) (w : World) : Prop where
  n : E.n = h.length
  K : ∀ b, E.K b → b < w.heap.size
  at_ : ∀ (i : Nat) (ab : AB), h[i]? = some ab → AtB E w i ab
  apart : ∀ (i j : Nat) (ab ab' : AB) (b : Nat), h[i]? = some ab → h[j]? = some ab' → BlkOf E i ab = some b → BlkOf E j ab' = some b → i = j
  notK : ∀ b, Foot E h b → ¬ E.K b
  glob : ∀ g cs, assoc Γ.glob g = some cs → Rep E w (.pointer (some ⟨g, 0, none⟩)) (.elem cs)

structure Fr (E : Env) (h : List AB) (w : World) (E' : Env) (h' : List AB) (w' : World) : Prop where
  os : w'.os = w.os
  tape : w'.tape = w.tape
  output : w'.output = w.output
  size : w.heap.size ≤ w'.heap.size
  same : ∀ b, b < w.heap.size → ¬ Foot E h b → w'.heap[b]? = w.heap[b]?
  ext : Ext E w E' w'
  newK : ∀ b, E'.K b → E.K b ∨ w.heap.size ≤ b ∨ Foot E h b
  foot : ∀ b, Foot E' h' b → w.heap.size ≤ b ∨ Foot E h b

theorem Fr.refl (E : Env) (h : List AB) (w : World) : Fr E h w E h w := ⟨rfl, rfl, rfl, Nat.le_refl _, fun _ _ _ => rfl, Ext.refl _ _, fun _ h => .inl h, fun _ h => .inr h⟩

theorem Fr.trans {E E1 E2 : Env} {h h1 h2 : List AB} {w w1 w2 : World} (f : Fr E h w E1 h1 w1) (g : Fr E1 h1 w1 E2 h2 w2) : Fr E h w E2 h2 w2 := by
  refine ⟨g.os.trans f.os, g.tape.trans f.tape, g.output.trans f.output, Nat.le_trans f.size g.size, fun b hb hn => ?_, f.ext.trans g.ext, fun b hb => ?_, fun b hb => ?_⟩
  · refine (g.same b (Nat.lt_of_lt_of_le hb f.size) fun hf => ?_).trans (f.same b hb hn)
    rcases f.foot b hf with h | h
    · omega
    · exact hn h
  · rcases g.newK b hb with h | h | h
    · exact f.newK b h
    · exact .inr (.inl (Nat.le_trans f.size h))
    · exact .inr (f.foot b h)
  · rcases g.foot b hb with h | h
    · exact .inl (Nat.le_trans f.size h)
    · exact f.foot b h

def SlotsRel (E : Env) (w : World) (tmps : Array Value) (slots : List (Option PV)) : Prop :=
  tmps.size = slots.length ∧ ∀ (t : Nat) (p : PV), slots[t]? = some (some p) → ∃ u, tmps[t]? = some u ∧ Rep E w u p

theorem SlotsRel.mono {E E' : Env} {w w' : World} (hx : Ext E w E' w') {tmps : Array Value} {slots : List (Option PV)} (h : SlotsRel E w tmps slots) : SlotsRel E' w' tmps slots :=
  ⟨h.1, fun t p ht => let ⟨u, hu, hr⟩ := h.2 t p ht; ⟨u, hu, hr.mono hx⟩⟩

structure Rel (Γ : Ctx) (E : Env) (st : St) (a : Act) (w : World) : Prop where
  heap : HeapRel Γ E st.heap w
  slots : SlotsRel E w a.tmps st.slots
  defers : a.defers = []

/-! ### the types' table -/
def tkOf : TypeDesc → TK
  | .bool => .bool
  | .int k => .int k
  | .string => .str
  | .float .f64 => .flt
  | .complex .f64 => .cx
  | .pointer e => .ptr e
  | .slice e => .slice e
  | .array n e => .arr n e
  | .map k e => .map k e
  | .func _ _ _ => .fn
  | .interface _ => .iface
  | .struct fs => .struct (fs.toList.map fun f => (f.offset, f.type))
  | _ => .other

structure TIOK (P : Program) (t : Nat) (i : TI) : Prop where
  under : (P.underlying t).map tkOf = some i.kind
  info : (P.info? t).map (fun j => (j.size, j.bytes, j.zero.bind fun z => dvsOfV z.cells.toList)) = some (i.size, i.bytes, some i.zero)
  zl : i.zero.length = i.size

/-- a struct type whose values may be held against each other, field by field -/
def eqB (P : Program) (T : Nat) : Bool :=
  !P.eqGuardType P.depth T && !P.stoodInHeld T && (match P.underlying T with | some (.struct fl) => fl.toList.all fun f => !(f.name == "_") | _ => false)

structure CtxOK (Γ : Ctx) (P : Program) : Prop where
  tt : ∀ t i, assoc Γ.tt t = some i → TIOK P t i
  fns : ∀ f F, nth Γ.fns f = some F → P.funcs[f]? = some F ∧ (F.name == "runtime.NumGoroutine") = false
  mixed : P.follows .mixedOrders = true
  eqs : ∀ T, Γ.eqs.contains T = true → eqB P T = true

theorem TIOK.info' {P : Program} {t : Nat} {i : TI} (h : TIOK P t i) : ∃ j z, P.info? t = some j ∧ j.size = i.size ∧ j.bytes = i.bytes ∧ j.zero = some z ∧ dvsOfV z.cells.toList = some i.zero := by
  obtain ⟨j, hj, he⟩ := Option.map_eq_some_iff.1 h.info
  simp only [Prod.mk.injEq] at he
  obtain ⟨h1, h2, h3⟩ := he
  obtain ⟨z, hz, hd⟩ := Option.bind_eq_some_iff.1 h3
  exact ⟨j, z, hj, h1, h2, hz, hd⟩
theorem TIOK.under' {P : Program} {t : Nat} {i : TI} (h : TIOK P t i) : ∃ d, P.underlying t = some d ∧ tkOf d = i.kind := Option.map_eq_some_iff.1 h.under
theorem TIOK.run_under {P : Program} {t : Nat} {i : TI} (h : TIOK P t i) (w : World) : ∃ d, (underlying t).run P w = .ok d w ∧ tkOf d = i.kind := by
  obtain ⟨d, hd, hk⟩ := h.under'
  exact ⟨d, by simp [underlying, hd], hk⟩
theorem TIOK.run_sizeOf {P : Program} {t : Nat} {i : TI} (h : TIOK P t i) (w : World) : (sizeOf t).run P w = .ok i.size w := by
  obtain ⟨j, z, hj, h1, _⟩ := h.info'
  simp [sizeOf, typeInfo, hj, h1]
theorem TIOK.run_zero {P : Program} {t : Nat} {i : TI} (h : TIOK P t i) (w : World) : ∃ z, (zeroValue t).run P w = .ok z w ∧ dvsOfV z.cells.toList = some i.zero := by
  obtain ⟨j, z, hj, _, _, hz, hd⟩ := h.info'
  exact ⟨z, by simp [zeroValue, typeInfo, hj, hz], hd⟩

end Go.Proofs.Ytepgblhhajdmoaa.Eng
