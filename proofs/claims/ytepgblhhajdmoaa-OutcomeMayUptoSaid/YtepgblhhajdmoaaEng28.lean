/-
  THE ENGINE, part 28: a walk with its heads; arguments by their kinds.
-/
import Derived.Test.YtepgblhhajdmoaaEng27
import Derived.Laws.BitsLemmas
set_option linter.unusedVariables false
set_option linter.unusedSimpArgs false
namespace Go.Proofs.Ytepgblhhajdmoaa.Eng
open Go

def lvOf (lv : List (List Nat × List Nat)) (p : List Nat) : Option (List Nat) := match lv with
  | [] => none
  | (q, l) :: r => (match q == p with | true => some l | false => lvOf r p)
def lvD (lv : List (List Nat × List Nat)) (p : List Nat) : List Nat := match lvOf lv p with
  | some l => l
  | none => []
def Zr (lv : List (List Nat × List Nat)) (n : Nat) (R : List Nat → List PV → List AB → Prop) (p : List Nat) (st : St) : Prop := match lvOf lv p with
  | some l => atHead n l (R p) st
  | none => (Bad 19)
def nsl (Γ : Ctx) (f : Nat) : Nat := match nth Γ.fns f with
  | some F => F.ntmps
  | none => 0
def headB (B : Code) (p : List Nat) : Bool := match at? B p, p with
  | some (.loop _, _), _ => true
  | some (_, .scope _ _ :: _), _ :: _ => (match p with | (_ + 1) :: _ => true | _ => false)
  | _, _ => false

section
variable {Γ : Ctx} {P : Program} {n0 : Nat} {E E' : Env} {w w' : World} {h : List AB} {a : Act} {kE : AExit → St → Prop} {cut : List (List Nat)} {call : CallF} {pcall : PureF} {B : Code}

/-- A FUNCTION'S WALK: its heads in a family, what falls from head to head. -/
theorem walk (hC : CtxOK Γ P) (hcc : Calling Γ P call pcall) {A : Type} (pth : A → List Nat) (vals : A → List PV) (heaps : A → List AB) (m : A → Nat) (lv : List (List Nat × List Nat)) (fuel : Nat)
    {f : Nat} {ps : List PV} {kr kp : PV → List AB → Prop}
    (hh : ∀ a, headB (bodyOf Γ f) (pth a) = true)
    (body : ∀ (a : A) (R : List Nat → List PV → List AB → Prop), (∀ b vs g, m b < m a → Sub Γ h.length (stOf (nsl Γ f) (lvD lv (pth b)) (vals b) (heaps b)) (stOf (nsl Γ f) (lvD lv (pth b)) vs g) → R (pth b) vs g) →
      evHead Γ call pcall (endOf Γ f h.length kr kp) cut (Zr lv (nsl Γ f) R) (bodyOf Γ f) fuel (pth a) (nsl Γ f) (lvD lv (pth a)) (vals a) (heaps a))
    (run : ∀ (R : List Nat → List PV → List AB → Prop), (∀ b vs g, Sub Γ h.length (stOf (nsl Γ f) (lvD lv (pth b)) (vals b) (heaps b)) (stOf (nsl Γ f) (lvD lv (pth b)) vs g) → R (pth b) vs g) →
      runE Γ call pcall cut (Zr lv (nsl Γ f) R) fuel f ps h kr kp) : CallW Γ P f ps h kr kp := by
  have heads : ∀ k a, m a < k → HeadF Γ P f h.length kr kp (pth a) (stOf (nsl Γ f) (lvD lv (pth a)) (vals a) (heaps a)) := by
    intro k
    induction k with
    | zero => intro a ha; exact absurd ha (Nat.not_lt_zero _)
    | succ k ih =>
      intro a ha
      let R : List Nat → List PV → List AB → Prop := fun p vs g => ∃ b, pth b = p ∧ m b < m a ∧ Sub Γ h.length (stOf (nsl Γ f) (lvD lv p) (vals b) (heaps b)) (stOf (nsl Γ f) (lvD lv p) vs g)
      have hb := body a R fun b vs g h1 h2 => ⟨b, rfl, h1, h2⟩
      rw [evHead_eq] at hb
      refine head_of hC hcc (fun q st hz => ?_) (hh a) hb
      unfold Zr at hz
      split at hz
      · rename_i l hl
        obtain ⟨vs, ⟨b, hb1, hb2, hb3⟩, hs⟩ := atHead_elim (Γ := Γ) (n0 := h.length) hz
        have hlv : lvD lv q = l := by unfold lvD; rw [hl]
        rw [hlv] at hb3
        have := ih b (by omega)
        rw [hb1, hlv] at this
        exact (this.sub hb3).sub hs
      · exact hz.elim
  let R : List Nat → List PV → List AB → Prop := fun p vs g => ∃ b, pth b = p ∧ Sub Γ h.length (stOf (nsl Γ f) (lvD lv p) (vals b) (heaps b)) (stOf (nsl Γ f) (lvD lv p) vs g)
  refine runE_sound hC hcc (fun q st hz => ?_) (run R fun b vs g h2 => ⟨b, rfl, h2⟩)
  unfold Zr at hz
  split at hz
  · rename_i l hl
    obtain ⟨vs, ⟨b, hb1, hb3⟩, hs⟩ := atHead_elim (Γ := Γ) (n0 := h.length) hz
    have hlv : lvD lv q = l := by unfold lvD; rw [hl]
    rw [hlv] at hb3
    have := heads (m b + 1) b (Nat.lt_succ_self _)
    rw [hb1, hlv] at this
    exact (this.sub hb3).sub hs
  · exact hz.elim
/-- a walk without heads -/
theorem walk0 (hC : CtxOK Γ P) (hcc : Calling Γ P call pcall) (fuel : Nat) {f : Nat} {ps : List PV} {kr kp : PV → List AB → Prop} (run : runE Γ call pcall cut (Zr [] 0 fun _ _ _ => False) fuel f ps h kr kp) : CallW Γ P f ps h kr kp :=
  runE_sound hC hcc (fun q st hz => Bad.elim hz) run

theorem Sub.of {n : Nat} {live : List Nat} {vs us : List PV} {g h2 : List AB} (hn : n0 ≤ h2.length) (hv : Wks vs us) (hh : WkA (g.take h2.length) h2) (hb : belows h2.length us = true) (ha : abelow h2.length h2 = true) :
    Sub Γ n0 (stOf n live us h2) (stOf n live vs g) := by
  have := Conf.trim (Γ := Γ) (n := n) (live := live) (g := g.drop h2.length) hn hv hh hb ha
  rwa [List.take_append_drop] at this
/-- the same values, what lies behind fallen away -/
theorem Sub.eq {n : Nat} {live : List Nat} {vs us : List PV} {g h2 : List AB} (hn : n0 ≤ h2.length) (hv : vs = us) (hh : g.take h2.length = h2) (hb : belows h2.length us = true) (ha : abelow h2.length h2 = true) :
    Sub Γ n0 (stOf n live us h2) (stOf n live vs g) := Sub.of hn (hv ▸ Wks.refl _) (by rw [hh]; exact WkA.refl _) hb ha
theorem putAll_set : ∀ (l : List Nat) (vs : List PV) (s : List (Option PV)) (j t : Nat) (p : PV), l[j]? = some t → l.Nodup → (∀ u ∈ l, u < s.length) → j < vs.length → (putAll l vs s id).set t (some p) = putAll l (vs.set j p) s id
  | [], vs, s, j, t, p, hj, _, _, _ => by simp at hj
  | u :: r, [], s, j, t, p, _, _, _, h => by simp at h
  | u :: r, v :: vs, s, j, t, p, hj, hn, hl, h => by
    simp only [List.nodup_cons] at hn
    cases j with
    | zero =>
      simp at hj; subst hj
      simp only [putAll, upd_eq, List.set_cons_zero]
      have key : ∀ (l : List Nat) (vs : List PV) (s : List (Option PV)), u ∉ l → (putAll l vs s id).set u (some p) = putAll l vs (s.set u (some p)) id := by
        intro l
        induction l with
        | nil => intro vs s _; cases vs <;> rfl
        | cons x l ih =>
          intro vs s hx
          cases vs with
          | nil => rfl
          | cons y vs =>
            simp only [List.mem_cons, not_or] at hx
            simp only [putAll, upd_eq]
            rw [ih _ _ hx.2, List.set_comm _ _ (fun e => hx.1 e.symm)]
      rw [key _ _ _ hn.1, List.set_set]
    | succ j =>
      simp only [putAll, upd_eq, List.set_cons_succ]
      exact putAll_set r vs _ j t p (by simpa using hj) hn.2 (fun x hx => by simpa using hl x (List.mem_cons_of_mem _ hx)) (by simpa using h)
/-- among the values at a head one is nil: it is a row of no elements -/
theorem Sub.ghost {n : Nat} {live : List Nat} {vs : List PV} {g : List AB} {j t T sz : Nat} (hj : live[j]? = some t) (hnd : live.Nodup) (hl : ∀ u ∈ live, u < n) (hv : vs[j]? = some (.d .nil)) (hsz : 0 < sz) :
    Sub Γ n0 (stOf n live (vs.set j (.row g.length 0)) (g ++ [.row T sz []])) (stOf n live vs g) := by
  have hjl := (List.getElem?_eq_some_iff.1 hv).1
  have hvj : vs.set j (.d .nil) = vs := by
    apply List.ext_getElem?
    intro i
    rw [List.getElem?_set]
    split
    · rename_i e; subst e; exact hv.symm
    · rfl
  have h1 := putAll_set live vs (List.replicate n none) j t (.d .nil) hj hnd (by simpa using hl) hjl
  rw [hvj] at h1
  have h2 := putAll_set live vs (List.replicate n none) j t (.row g.length 0) hj hnd (by simpa using hl) hjl
  have ht : t < (putAll live vs (List.replicate n none) id).length := by rw [putAll_length]; simpa using hl t (List.mem_of_getElem? hj)
  have := Conf.ghost (Γ := Γ) (n0 := n0) (n := n) (s := slotsOf n live vs) (h := g) (t := t) (T := T) (sz := sz) (by
    unfold slotsOf
    rw [← h1, List.getElem?_set, if_pos rfl, if_pos ht]) hsz
  unfold slotsOf at this
  rw [h2] at this
  exact this
end

/-! ### arguments -/
inductive WkPs : List PV → List PV → Prop
  | nil : WkPs [] []
  | cons {p q : PV} {ps qs : List PV} (h : WkP p q) (r : WkPs ps qs) : WkPs (p :: ps) (q :: qs)
theorem WkPs.refl : ∀ (l : List PV), WkPs l l
  | [] => .nil
  | p :: l => .cons (.refl p) (WkPs.refl l)
theorem WkPs.length {l r : List PV} (h : WkPs l r) : l.length = r.length := by
  induction h with
  | nil => rfl
  | cons _ _ ih => simp [ih]
theorem WkPs.get {l r : List PV} (h : WkPs l r) : ∀ (i : Nat) (q : PV), r[i]? = some q → ∃ p, l[i]? = some p ∧ WkP p q := by
  induction h with
  | nil => intro i q hq; simp at hq
  | cons h _ ih =>
    intro i q hq
    cases i with
    | zero => simp at hq; subst hq; exact ⟨_, rfl, h⟩
    | succ i => obtain ⟨p, h1, h2⟩ := ih i q (by simpa using hq); exact ⟨p, by simpa using h1, h2⟩
theorem CallW.wk_argsP {Γ : Ctx} {P : Program} {f : Nat} {ps qs : List PV} {h : List AB} {kr kp : PV → List AB → Prop} (hc : CallW Γ P f qs h kr kp) (hw : WkPs ps qs) : CallW Γ P f ps h kr kp :=
  ⟨hc.known, fun E w vs hh ha => hc.out E w vs hh ⟨ha.1.trans hw.length, fun i v q hv hq => by
    obtain ⟨p, hp, hpw⟩ := hw.get i q hq
    exact Rep.wkp hpw (ha.2 i v p hv hp)⟩⟩
structure Arg (α : Type) where
  en : α → PV
  de : PV → α
def PV.toV : PV → V
  | .agg [.d x, .d y, .d z, .d u] => dec4 x y z u
  | _ => zeroV
def PV.toI : PV → Int
  | .d x => x.gI
  | _ => 0
def PV.toB : PV → Bool
  | .d x => x.gB
  | _ => false
def PV.toS : PV → List UInt8
  | .d x => x.gS
  | _ => []
def PV.toVs : PV → List V
  | .d x => x.kidsV
  | _ => []
def PV.toEs : PV → List (List DV)
  | .d x => x.gL
  | _ => []
def aV : Arg V := ⟨vPV, PV.toV⟩
def aI (k : IntKind) : Arg Int := ⟨fun n => .d (.int k n), PV.toI⟩
def aB : Arg Bool := ⟨fun b => .d (.bool b), PV.toB⟩
def aS : Arg (List UInt8) := ⟨fun s => .d (.str s), PV.toS⟩
def aVs : Arg (List V) := ⟨fun l => .d (.sl 4 (encL l)), PV.toVs⟩
def aEs (sz : Nat) : Arg (List (List DV)) := ⟨fun l => .d (.sl sz l), PV.toEs⟩
/-- this very thing -/
def aK (p : PV) : Arg Unit := ⟨fun _ => p, fun _ => ()⟩
def E1 {α : Type} (f : Nat) (a : Arg α) (ok : α → Prop) (r : α → PV) : Entry := ⟨f, fun args k => match args with
  | [x] => NeedP (WkPs [x] [a.en (a.de x)] ∧ ok (a.de x)) (k (r (a.de x)))
  | _ => Bad f⟩
def E0' (f : Nat) (r : PV) : Entry := ⟨f, fun args k => match args with
  | [] => k r
  | _ => Bad f⟩
def E2 {α β : Type} (f : Nat) (a : Arg α) (b : Arg β) (ok : α → β → Prop) (r : α → β → PV) : Entry := ⟨f, fun args k => match args with
  | [x, y] => NeedP (WkPs [x, y] [a.en (a.de x), b.en (b.de y)] ∧ ok (a.de x) (b.de y)) (k (r (a.de x) (b.de y)))
  | _ => Bad f⟩
def E3 {α β γ : Type} (f : Nat) (a : Arg α) (b : Arg β) (c : Arg γ) (ok : α → β → γ → Prop) (r : α → β → γ → PV) : Entry := ⟨f, fun args k => match args with
  | [x, y, z] => NeedP (WkPs [x, y, z] [a.en (a.de x), b.en (b.de y), c.en (c.de z)] ∧ ok (a.de x) (b.de y) (c.de z)) (k (r (a.de x) (b.de y) (c.de z)))
  | _ => Bad f⟩
section
variable {Γ : Ctx} {P : Program}
theorem E0_ok {f : Nat} {r : PV} (h : Gives Γ P f [] r) : EntryOK Γ P (E0' f r) := fun args k hk => by
  cases args with
  | nil => exact PureW.mk' _ h hk
  | cons => exact Bad.elim hk
theorem E1_ok {α : Type} {f : Nat} {a : Arg α} {ok : α → Prop} {r : α → PV} (h : ∀ x, ok x → Gives Γ P f [a.en x] (r x)) : EntryOK Γ P (E1 f a ok r) := fun args k hk => by
  match args, hk with
  | [x], hk => obtain ⟨⟨h1, h2⟩, hk⟩ := hk; exact PureW.mk' _ ((h _ h2).wk_argsP h1) hk
  | [], hk => exact Bad.elim hk
  | _ :: _ :: _, hk => exact Bad.elim hk
theorem E2_ok {α β : Type} {f : Nat} {a : Arg α} {b : Arg β} {ok : α → β → Prop} {r : α → β → PV} (h : ∀ x y, ok x y → Gives Γ P f [a.en x, b.en y] (r x y)) : EntryOK Γ P (E2 f a b ok r) := fun args k hk => by
  match args, hk with
  | [x, y], hk => obtain ⟨⟨h1, h2⟩, hk⟩ := hk; exact PureW.mk' _ ((h _ _ h2).wk_argsP h1) hk
  | [], hk => exact Bad.elim hk
  | [_], hk => exact Bad.elim hk
  | _ :: _ :: _ :: _, hk => exact Bad.elim hk
theorem E3_ok {α β γ : Type} {f : Nat} {a : Arg α} {b : Arg β} {c : Arg γ} {ok : α → β → γ → Prop} {r : α → β → γ → PV} (h : ∀ x y z, ok x y z → Gives Γ P f [a.en x, b.en y, c.en z] (r x y z)) : EntryOK Γ P (E3 f a b c ok r) := fun args k hk => by
  match args, hk with
  | [x, y, z], hk => obtain ⟨⟨h1, h2⟩, hk⟩ := hk; exact PureW.mk' _ ((h _ _ _ h2).wk_argsP h1) hk
  | [], hk => exact Bad.elim hk
  | [_], hk => exact Bad.elim hk
  | [_, _], hk => exact Bad.elim hk
  | _ :: _ :: _ :: _ :: _, hk => exact Bad.elim hk
end

section
variable {Γ : Ctx} {P : Program}
/-! ### which calls are carried on in place -/
def Ctx.wh (Γ : Ctx) (w : List Nat) : Ctx := { Γ with whole := w }
theorem heapRel_wh {wl : List Nat} {E : Env} {h : List AB} {w : World} : HeapRel (Γ.wh wl) E h w ↔ HeapRel Γ E h w :=
  ⟨fun hh => ⟨hh.n, hh.K, hh.at_, hh.apart, hh.notK, hh.glob⟩, fun hh => ⟨hh.n, hh.K, hh.at_, hh.apart, hh.notK, hh.glob⟩⟩
theorem ends_wh {wl : List Nat} {E : Env} {h : List AB} {w : World} {kr kp : PV → List AB → Prop} {e : Ending} {w' : World} : Ends (Γ.wh wl) E h w kr kp e w' ↔ Ends Γ E h w kr kp e w' := by
  cases e with
  | returned v => exact ⟨fun ⟨p, E', h', a, b, c, d⟩ => ⟨p, E', h', heapRel_wh.1 a, b, c, d⟩, fun ⟨p, E', h', a, b, c, d⟩ => ⟨p, E', h', heapRel_wh.2 a, b, c, d⟩⟩
  | panicked ch => exact ⟨fun ⟨v, p, E', h', z, a, b, c, d⟩ => ⟨v, p, E', h', z, heapRel_wh.1 a, b, c, d⟩, fun ⟨v, p, E', h', z, a, b, c, d⟩ => ⟨v, p, E', h', z, heapRel_wh.2 a, b, c, d⟩⟩
  | outgrown => exact Iff.rfl
theorem callW_wh {wl : List Nat} {f : Nat} {ps : List PV} {h : List AB} {kr kp : PV → List AB → Prop} : CallW (Γ.wh wl) P f ps h kr kp ↔ CallW Γ P f ps h kr kp :=
  ⟨fun hc => ⟨hc.known, fun E w vs hh ha => (hc.out E w vs (heapRel_wh.2 hh) ha).mono fun _ _ h => ends_wh.1 h⟩, fun hc => ⟨hc.known, fun E w vs hh ha => (hc.out E w vs (heapRel_wh.1 hh) ha).mono fun _ _ h => ends_wh.2 h⟩⟩
theorem ctx_wh {wl : List Nat} (hC : CtxOK Γ P) : CtxOK (Γ.wh wl) P := ⟨hC.tt, hC.fns, hC.mixed, hC.eqs⟩
theorem entry_wh {wl : List Nat} {e : Entry} (h : EntryOK Γ P e) : EntryOK (Γ.wh wl) P e := fun args k hk => by
  obtain ⟨p, h1, h2⟩ := (h args k hk).out
  exact ⟨p, callW_wh.2 h1, h2⟩
theorem entryM_wh {wl : List Nat} {e : EntryM} (h : EntryMOK Γ P e) : EntryMOK (Γ.wh wl) P e := fun args hp kr kp hk => callW_wh.2 (h args hp kr kp hk)
abbrev noZ : List Nat → St → Prop := Zr [] 0 fun _ _ _ => False
/-- these are carried on in place, so deep -/
def inls (Γ : Ctx) (l : List Entry) (base : List EntryM) (fs : List Nat) : Nat → List EntryM
  | 0 => base
  | n + 1 => fs.map (fun f => ⟨f, fun args h kr kp => runE Γ (mcOf (inls Γ l base fs n)) (pcOf l) [] noZ 100 f args h kr kp⟩) ++ base
theorem inls_ok (hC : CtxOK Γ P) {l : List Entry} {base : List EntryM} {fs : List Nat} (h1 : ∀ e ∈ l, EntryOK Γ P e) (h2 : ∀ e ∈ base, EntryMOK Γ P e) : ∀ (n : Nat), ∀ e ∈ inls Γ l base fs n, EntryMOK Γ P e
  | 0 => h2
  | n + 1 => fun e he => by
    rcases List.mem_append.1 he with he | he
    · obtain ⟨f, hf, rfl⟩ := List.mem_map.1 he
      exact fun args h kr kp hk => runE_sound hC (calling_of h1 (inls_ok hC h1 h2 n)) (fun q st hz => Bad.elim hz) hk
    · exact h2 e he
/-- contracts, and what is carried on in place -/
theorem calling_in (hC : CtxOK Γ P) {l : List Entry} {base : List EntryM} {fs : List Nat} (wl : List Nat) (h1 : ∀ e ∈ l, EntryOK Γ P e) (h2 : ∀ e ∈ base, EntryMOK Γ P e) (n : Nat) : Calling (Γ.wh wl) P (mcOf (inls (Γ.wh wl) l base fs n)) (pcOf l) :=
  calling_of (fun e he => entry_wh (h1 e he)) (inls_ok (ctx_wh hC) (fun e he => entry_wh (h1 e he)) (fun e he => entryM_wh (h2 e he)) n)
end

/-! ### small things -/
theorem Need_iff (b : Bool) (k : Prop) : Need b k ↔ b = true ∧ k := ⟨fun h => ⟨h.is, h.then_⟩, fun h => ⟨h.1, h.2⟩⟩
theorem NeedP_iff (p k : Prop) : NeedP p k ↔ p ∧ k := ⟨fun h => ⟨h.is, h.then_⟩, fun h => ⟨h.1, h.2⟩⟩
theorem Split2_iff (b : Bool) (x y : Prop) : Split2 b x y ↔ (b = true → x) ∧ (b = false → y) := ⟨fun h => ⟨h.yes, h.no⟩, fun h => ⟨h.1, h.2⟩⟩
theorem wk_bool {b c : Bool} (h : c = b) : WkP (.d (.bool b)) (.d (.bool c)) := by rw [h]; exact .one (.refl _)
theorem V.ext {v w : V} (h1 : v.k = w.k) (h2 : v.n = w.n) (h3 : v.t = w.t) (h4 : v.kids = w.kids) : v = w := by
  cases v; cases w; simp only [V.k, V.n, V.t, V.kids] at h1 h2 h3 h4; subst h1; subst h2; subst h3; subst h4; rfl
theorem nthV_ext {l r : List V} (h : l.length = r.length) (he : ∀ j, j < l.length → nthV l j = nthV r j) : l = r := by
  apply List.ext_getElem h
  intro i h1 h2
  have := he i h1
  simpa [nthV, List.getD_eq_getElem?_getD, h1, h2] using this
theorem need_of {b : Bool} {k : Prop} (h : b = true) (hk : k) : Need b k := ⟨h, hk⟩
theorem i64_wrap {n : Int} (h1 : -9223372036854775808 ≤ n) (h2 : n ≤ 9223372036854775807) : IntKind.i64.wrap n = n := by
  rw [IntKind.wrap_i64]
  omega
noncomputable def eqV (v w : V) : Bool := @decide (v = w) (Classical.propDecidable _)
theorem eqV_iff {v w : V} : eqV v w = true ↔ v = w := by unfold eqV; simp
theorem eqV_true {v w : V} (h : v = w) : eqV v w = true := eqV_iff.2 h
theorem eqV_false {v w : V} (h : v ≠ w) : eqV v w = false := by
  cases hb : eqV v w with
  | false => rfl
  | true => exact absurd (eqV_iff.1 hb) h
end Go.Proofs.Ytepgblhhajdmoaa.Eng
