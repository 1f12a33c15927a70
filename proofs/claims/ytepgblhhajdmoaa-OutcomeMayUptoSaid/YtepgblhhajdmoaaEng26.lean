/-
  THE ENGINE, part 26: weaker descriptions of one memory; tables of contracts.
-/
import Derived.Test.YtepgblhhajdmoaaEng25
set_option linter.unusedVariables false
set_option linter.unusedSimpArgs false
namespace Go.Proofs.Ytepgblhhajdmoaa.Eng
open Go

/-! ### at a head: the slots that live -/
def pickS (s : List (Option PV)) : List Nat → (List PV → Prop) → Prop
  | [], k => k []
  | t :: r, k => match nth s t with | some (some v) => pickS s r fun vs => k (v :: vs) | _ => BadO (.tmp t)
def putAll {β : Sort _} : List Nat → List PV → List (Option PV) → (List (Option PV) → β) → β
  | t :: r, v :: vs, s, k => upd s t (some v) fun s => putAll r vs s k
  | _, _, s, k => k s
def slotsOf (n : Nat) (live : List Nat) (vs : List PV) : List (Option PV) := putAll live vs (List.replicate n none) id
abbrev stOf (n : Nat) (live : List Nat) (vs : List PV) (h : List AB) : St := ⟨slotsOf n live vs, h⟩
def atHead (n : Nat) (live : List Nat) (R : List PV → List AB → Prop) (st : St) : Prop := match st with
  | ⟨s, h⟩ => (match Nat.beq s.length n with | true => pickS s live fun vs => R (vs.map unkA) h | false => (Bad 20))
/-- from a head on -/
def evHead (Γ : Ctx) (call : CallF) (pcall : PureF) (kE : AExit → St → Prop) (cut : List (List Nat)) (Z : List Nat → St → Prop) (B : Code) (fuel : Nat) (p : List Nat) (n : Nat) (live : List Nat) (vs : List PV) (h : List AB) : Prop :=
  spine (List.replicate n none) fun s => putAll live vs s fun s => evAt Γ call pcall kE cut Z B fuel (round B p) ⟨s, h⟩

section
variable {Γ : Ctx} {P : Program} {n0 : Nat} {E E' : Env} {w w' : World} {h : List AB} {a : Act} {kE : AExit → St → Prop} {cut : List (List Nat)} {Z : List Nat → St → Prop} {call : CallF} {pcall : PureF} {B : Code}

theorem putAll_eq {β : Sort _} : ∀ (l : List Nat) (vs : List PV) (s : List (Option PV)) (k : List (Option PV) → β), putAll l vs s k = k (putAll l vs s id)
  | [], vs, s, k => by cases vs <;> rfl
  | t :: r, [], s, k => rfl
  | t :: r, v :: vs, s, k => by simp only [putAll, upd_eq]; exact putAll_eq r vs _ k
theorem evHead_eq {fuel : Nat} {p : List Nat} {n : Nat} {live : List Nat} {vs : List PV} : evHead Γ call pcall kE cut Z B fuel p n live vs h = evAt Γ call pcall kE cut Z B fuel (round B p) (stOf n live vs h) := by
  unfold evHead; rw [spine_eq, putAll_eq]; rfl
theorem putAll_length : ∀ (l : List Nat) (vs : List PV) (s : List (Option PV)), (putAll l vs s id).length = s.length
  | [], vs, s => by cases vs <;> rfl
  | t :: r, [], s => rfl
  | t :: r, v :: vs, s => by simp only [putAll, upd_eq]; rw [putAll_length r vs]; simp
theorem putAll_get : ∀ (l : List Nat) (vs : List PV) (s : List (Option PV)) (t : Nat) (p : PV), (putAll l vs s id)[t]? = some (some p) → s[t]? = some (some p) ∨ ∃ j : Nat, l[j]? = some t ∧ vs[j]? = some p
  | [], vs, s, t, p, h => by cases vs <;> exact .inl h
  | u :: r, [], s, t, p, h => .inl h
  | u :: r, v :: vs, s, t, p, h => by
    simp only [putAll, upd_eq] at h
    rcases putAll_get r vs _ t p h with h | ⟨j, h1, h2⟩
    · rw [List.getElem?_set] at h
      split at h
      · rename_i e
        split at h
        · cases h; exact .inr ⟨0, by simp [e], rfl⟩
        · cases h
      · exact .inl h
    · exact .inr ⟨j + 1, by simpa using h1, by simpa using h2⟩
theorem pickS_elim {s : List (Option PV)} : ∀ {l : List Nat} {k : List PV → Prop}, pickS s l k → ∃ vs, (∀ (j t : Nat) (p : PV), l[j]? = some t → vs[j]? = some p → s[t]? = some (some p)) ∧ k vs
  | [], k, hk => ⟨[], fun j t p h => by simp at h, hk⟩
  | t :: r, k, hk => by
    simp only [pickS, nth_eq] at hk
    split at hk
    · rename_i v hv
      obtain ⟨vs, h1, h2⟩ := pickS_elim hk
      refine ⟨v :: vs, fun j u p hj hp => ?_, h2⟩
      cases j with
      | zero => simp at hj hp; subst hj; subst hp; exact hv
      | succ j => exact h1 j u p (by simpa using hj) (by simpa using hp)
    · exact hk.elim

theorem Sub.slots {s s' : List (Option PV)} (hl : s'.length = s.length) (hs : ∀ (t : Nat) (p : PV), s'[t]? = some (some p) → s[t]? = some (some p)) : Sub Γ n0 ⟨s', h⟩ ⟨s, h⟩ :=
  fun E a w hn hr => ⟨E, ⟨hr.heap, ⟨by rw [hr.slots.1]; exact hl.symm, fun t p ht => hr.slots.2 t p (hs t p ht)⟩, hr.defers⟩, FrB.refl hn⟩
theorem putAll_unk : ∀ (l : List Nat) (vs : List PV) (s s' : List (Option PV)) (t : Nat) (p : PV), s.length = s'.length → (∀ (t : Nat) (p : PV), s'[t]? = some (some p) → ∃ q, s[t]? = some (some q) ∧ (p = q ∨ p = unkA q)) →
    (putAll l (vs.map unkA) s' id)[t]? = some (some p) → ∃ q, (putAll l vs s id)[t]? = some (some q) ∧ (p = q ∨ p = unkA q)
  | [], vs, s, s', t, p, hl, hs, h => by cases vs <;> exact hs t p h
  | u :: r, [], s, s', t, p, hl, hs, h => hs t p h
  | u :: r, v :: vs, s, s', t, p, hl, hs, h => by
    simp only [List.map_cons, putAll, upd_eq] at h ⊢
    refine putAll_unk r vs _ _ t p (by simpa using hl) (fun t p ht => ?_) h
    rw [List.getElem?_set] at ht ⊢
    split
    · rename_i e
      rw [if_pos e] at ht
      split at ht
      · rename_i hlt; cases ht; rw [if_pos (by omega)]; exact ⟨_, rfl, .inr rfl⟩
      · cases ht
    · rename_i e
      rw [if_neg e] at ht
      exact hs t p ht
theorem Sub.unk {n : Nat} {live : List Nat} {vs : List PV} : Sub Γ n0 (stOf n live (vs.map unkA) h) (stOf n live vs h) := fun E a w hn hr => by
  refine ⟨E, ⟨hr.heap, ⟨?_, fun t p ht => ?_⟩, hr.defers⟩, FrB.refl hn⟩
  · have h1 := hr.slots.1
    simp only [slotsOf, putAll_length] at h1 ⊢
    exact h1
  · obtain ⟨q, hq, hpq⟩ := putAll_unk live vs _ _ t p rfl (fun t p ht => by simp [List.getElem?_replicate] at ht) ht
    obtain ⟨u, hu, hrep⟩ := hr.slots.2 t q hq
    rcases hpq with rfl | rfl
    · exact ⟨u, hu, hrep⟩
    · exact ⟨u, hu, hrep.unkA⟩
theorem atHead_elim {n : Nat} {live : List Nat} {R : List PV → List AB → Prop} {st : St} (hk : atHead n live R st) : ∃ vs, R vs st.heap ∧ Sub Γ n0 (stOf n live vs st.heap) st := by
  obtain ⟨s, h⟩ := st
  unfold atHead at hk
  dsimp only at hk
  split at hk
  · rename_i hb
    have hl := Nat.eq_of_beq_eq_true hb
    obtain ⟨vs, h1, h2⟩ := pickS_elim hk
    refine ⟨vs.map unkA, h2, Sub.unk.trans (Sub.slots ?_ fun t p ht => ?_)⟩
    · rw [slotsOf, putAll_length]; simp [hl]
    · rcases putAll_get _ _ _ _ _ ht with h | ⟨j, g1, g2⟩
      · simp [List.getElem?_replicate] at h
      · exact h1 j t p g1 g2
  · exact hk.elim

/-! ### what a value says less -/
inductive Wk : PV → PV → Prop
  | refl (p : PV) : Wk p p
  | nil (sz : Nat) : Wk (.d .nil) (.d (.sl sz []))
  | kb (b : Bool) : Wk (.d (.kb b)) (.d (.bool b))
  | ki (k : IntKind) (n : Int) : Wk (.d (.ki k n)) (.d (.int k n))
  | kn (k : IntKind) (n : Int) : Wk (.d (.int k n)) (.d (.ki k n))
inductive Wks : List PV → List PV → Prop
  | nil : Wks [] []
  | cons {p q : PV} {ps qs : List PV} (h : Wk p q) (r : Wks ps qs) : Wks (p :: ps) (q :: qs)
inductive WkA : List AB → List AB → Prop
  | nil : WkA [] []
  | same (x : AB) {l r : List AB} (h : WkA l r) : WkA (x :: l) (x :: r)
  | box (T : Nat) {cs ds : List PV} {l r : List AB} (hc : Wks cs ds) (h : WkA l r) : WkA (.box T cs :: l) (.box T ds :: r)
theorem Wks.refl : ∀ (l : List PV), Wks l l
  | [] => .nil
  | p :: l => .cons (.refl p) (Wks.refl l)
theorem WkA.refl : ∀ (l : List AB), WkA l l
  | [] => .nil
  | p :: l => .same p (WkA.refl l)
theorem RepD.nil_sl {K : Nat → Prop} {v : Value} (h : RepD K w v .nil) (sz : Nat) : RepD K w v (.sl sz []) := by
  cases h
  exact .sl none 0 0 sz [] (fun _ _ => undef) rfl (Nat.le_refl _) (Nat.zero_le _) (fun h => absurd h (Nat.lt_irrefl 0)) (fun j e hj => by simp at hj) (fun j e k d hj => by simp at hj)
theorem Rep.wk {v : Value} {p q : PV} (h : Rep E w v p) (hw : Wk p q) : Rep E w v q := by
  cases hw with
  | refl => exact h
  | nil sz => cases h with | d h => exact .d (h.nil_sl sz)
  | kb b => exact h.unk
  | ki k n => exact h.unk
  | kn k n => cases h with | d h => cases h with | int => exact .d (.ki _ _)
theorem Wk.one {p q : PV} (hw : Wk p q) (h : p.one = true) : q.one = true := by
  cases hw with
  | refl => exact h
  | nil => rfl
  | kb => rfl
  | ki => rfl
  | kn => rfl
theorem Wks.length {l r : List PV} (h : Wks l r) : l.length = r.length := by
  induction h with
  | nil => rfl
  | cons _ _ ih => simp [ih]
theorem Wks.get {l r : List PV} (h : Wks l r) : ∀ (i : Nat) (q : PV), r[i]? = some q → ∃ p, l[i]? = some p ∧ Wk p q := by
  induction h with
  | nil => intro i q hq; simp at hq
  | cons h _ ih =>
    intro i q hq
    cases i with
    | zero => simp at hq; subst hq; exact ⟨_, rfl, h⟩
    | succ i => obtain ⟨p, h1, h2⟩ := ih i q (by simpa using hq); exact ⟨p, by simpa using h1, h2⟩
theorem Wks.mem {l r : List PV} (h : Wks l r) {q : PV} (hq : q ∈ r) : ∃ p ∈ l, Wk p q := by
  obtain ⟨i, hi, rfl⟩ := List.getElem_of_mem hq
  obtain ⟨p, h1, h2⟩ := h.get i _ (List.getElem?_eq_getElem hi)
  exact ⟨p, List.mem_of_getElem? h1, h2⟩
theorem WkA.get {l r : List AB} (h : WkA l r) : l.length = r.length ∧ ∀ (i : Nat) (q : AB), r[i]? = some q → l[i]? = some q ∨ ∃ T cs ds, q = .box T ds ∧ l[i]? = some (.box T cs) ∧ Wks cs ds := by
  induction h with
  | nil => exact ⟨rfl, fun i q hq => by simp at hq⟩
  | same x h ih =>
    refine ⟨by simp [ih.1], fun i q hq => ?_⟩
    cases i with
    | zero => simp at hq; subst hq; exact .inl rfl
    | succ i => rcases ih.2 i q (by simpa using hq) with h | ⟨T, cs, ds, e, h1, h2⟩
                · exact .inl (by simpa using h)
                · exact .inr ⟨T, cs, ds, e, by simpa using h1, h2⟩
  | box T hc h ih =>
    refine ⟨by simp [ih.1], fun i q hq => ?_⟩
    cases i with
    | zero => simp at hq; subst hq; exact .inr ⟨T, _, _, rfl, rfl, hc⟩
    | succ i => rcases ih.2 i q (by simpa using hq) with h | ⟨T, cs, ds, e, h1, h2⟩
                · exact .inl (by simpa using h)
                · exact .inr ⟨T, cs, ds, e, by simpa using h1, h2⟩

/-- WHAT LIES BEHIND FALLS AWAY, and values say less. -/
theorem Conf.trim {n : Nat} {live : List Nat} {vs us : List PV} {h1 h2 g : List AB} (hn : n0 ≤ h2.length) (hv : Wks vs us) (hh : WkA h1 h2) (hb : belows h2.length us = true) (ha : abelow h2.length h2 = true) :
    Sub Γ n0 (stOf n live us h2) (stOf n live vs (h1 ++ g)) := by
  intro E a w hn0 hr
  obtain ⟨hlen, hget⟩ := hh.get
  have hEn : E.n = (h1 ++ g).length := hr.heap.n
  let E' : Env := { E with n := h2.length }
  have hle : h2.length ≤ E.n := by rw [hEn, ← hlen]; simp
  have hag : Agree h2.length E E' := ⟨fun _ h => h, Nat.le_refl _, fun _ _ => rfl, fun _ _ _ => rfl, fun _ _ => rfl, fun _ _ => rfl⟩
  have hblk : ∀ i ab, BlkOf E' i ab = BlkOf E i ab := fun i ab => by cases ab <;> rfl
  have hold : ∀ i q, h2[i]? = some q → ∃ ab, (h1 ++ g)[i]? = some ab ∧ BlkOf E i ab = BlkOf E i q := fun i q hq => by
    have hil : i < h1.length := by rw [hlen]; exact (List.getElem?_eq_some_iff.1 hq).1
    rw [List.getElem?_append_left hil]
    rcases hget i q hq with h | ⟨T, cs, ds, rfl, h, _⟩
    · exact ⟨_, h, rfl⟩
    · exact ⟨_, h, rfl⟩
  have hfoot : ∀ b, Foot E' h2 b → Foot E (h1 ++ g) b := fun b ⟨i, ab, hi, hib⟩ => by
    obtain ⟨x, hx, hb⟩ := hold i ab hi
    exact ⟨i, x, hx, by rw [hb, ← hblk]; exact hib⟩
  refine ⟨E', ⟨⟨rfl, hr.heap.K, fun i q hq => ?_, fun i j x y b hi hj hx hy => ?_, fun b hf => hr.heap.notK b (hfoot b hf), fun gl cs hg => (hr.heap.glob gl cs hg).cut hag rfl⟩, ⟨?_, fun t p ht => ?_⟩, hr.defers⟩,
    ⟨rfl, rfl, rfl, Nat.le_refl _, fun _ _ _ => rfl, fun _ h => h, fun _ _ => rfl, hn, fun _ _ => rfl, fun _ _ => Nat.le_refl _, fun _ _ _ _ => rfl, fun _ _ => rfl, fun _ h => .inl h, fun b hb => .inr (hfoot b hb)⟩⟩
  · have hil : i < h1.length := by rw [hlen]; exact (List.getElem?_eq_some_iff.1 hq).1
    have at' : ∀ ab, h1[i]? = some ab → AtB E w i ab := fun ab h => hr.heap.at_ i ab (by rw [List.getElem?_append_left hil]; exact h)
    rcases hget i q hq with h | ⟨T, cs, ds, rfl, h, hw⟩
    · have := at' q h
      cases q with
      | box T cs =>
        obtain ⟨vals, a1, a2, a3, a4⟩ := this
        exact ⟨vals, a1, a2, a3, fun k v c hv hc => (a4 k v c hv hc).cut hag (belows_mem (abelow_get ha i T cs hq) c (List.mem_of_getElem? hc))⟩
      | row T sz xs => exact this
      | froz T sz xs => exact this
      | dead => trivial
    · obtain ⟨vals, a1, a2, a3, a4⟩ := at' _ h
      refine ⟨vals, a1, a2.trans hw.length, fun c hc => ?_, fun k v c hv hc => ?_⟩
      · obtain ⟨p, hp, hpw⟩ := hw.mem hc
        exact hpw.one (a3 p hp)
      · obtain ⟨p, hp, hpw⟩ := hw.get k c hc
        exact ((a4 k v p hv hp).wk hpw).cut hag (belows_mem (abelow_get ha i T ds hq) c (List.mem_of_getElem? hc))
  · obtain ⟨x, hx', e1⟩ := hold i x hi
    obtain ⟨y, hy', e2⟩ := hold j y hj
    rw [hblk, ← e1] at hx
    rw [hblk, ← e2] at hy
    exact hr.heap.apart i j _ _ b hx' hy' hx hy
  · have h1 := hr.slots.1
    simp only [slotsOf, putAll_length] at h1 ⊢
    exact h1
  · have key : ∀ (l : List Nat) (vs us : List PV) (s s' : List (Option PV)) (t : Nat) (p : PV), Wks vs us → s.length = s'.length → (∀ (t : Nat) (p : PV), s'[t]? = some (some p) → ∃ q, s[t]? = some (some q) ∧ Wk q p ∧ p.under h2.length = true) → belows h2.length us = true →
        (putAll l us s' id)[t]? = some (some p) → ∃ q, (putAll l vs s id)[t]? = some (some q) ∧ Wk q p ∧ p.under h2.length = true := by
      intro l
      induction l with
      | nil => intro vs us s s' t p hw hl hs hb ht; cases hw <;> exact hs t p ht
      | cons u l ih =>
        intro vs us s s' t p hw hl hs hb ht
        cases hw with
        | nil => exact hs t p ht
        | cons hq hw =>
          simp only [belows, Bool.and_eq_true] at hb
          simp only [putAll, upd_eq] at ht ⊢
          refine ih _ _ _ _ t p hw (by simpa using hl) (fun t p ht => ?_) hb.2 ht
          rw [List.getElem?_set] at ht ⊢
          split
          · rename_i e
            rw [if_pos e] at ht
            split at ht
            · rename_i hlt; cases ht; rw [if_pos (by omega)]; exact ⟨_, rfl, hq, hb.1⟩
            · cases ht
          · rename_i e
            rw [if_neg e] at ht
            exact hs t p ht
    obtain ⟨q, hq, hw, hu⟩ := key live vs us _ _ t p hv rfl (fun t p ht => by simp [List.getElem?_replicate] at ht) hb ht
    obtain ⟨v, hv', hrv⟩ := hr.slots.2 t q hq
    exact ⟨v, hv', (hrv.wk hw).cut hag hu⟩

/-- A SLICE THAT IS nil IS A ROW OF NO ELEMENTS OF THE CALL'S OWN. -/
theorem Conf.ghost {n : Nat} {s : List (Option PV)} {t T sz : Nat} (ht : s[t]? = some (some (.d .nil))) (hsz : 0 < sz) : Sub Γ n0 ⟨s.set t (some (.row h.length 0)), h ++ [.row T sz []]⟩ ⟨s, h⟩ := by
  intro E a w hn hr
  obtain ⟨E', g1, g2, g3⟩ := add_row (T := T) (sz := sz) (xs := []) (v := .slice none 0 0) (vals := []) hr.heap (w' := w) ⟨rfl, rfl, rfl, Nat.le_refl _, fun _ _ _ => rfl⟩ hsz (fun e he => by cases he) (World.ownsRow_nil w 0 T sz)
    (fun k hk => by simp [Value.ownBlock] at hk) (fun q e' m x d hq => by simp at hq)
  refine ⟨E', ⟨g1, ⟨by simp [hr.slots.1], fun u p hu => ?_⟩, hr.defers⟩, g2.toB hn⟩
  have hsl := hr.slots.mono g2.ext
  rw [List.getElem?_set] at hu
  split at hu
  · rename_i e
    subst e
    split at hu
    · cases hu
      obtain ⟨v, hv, hrep⟩ := hsl.2 t _ ht
      cases hrep with | d hrep =>
      cases hrep with | nil => exact ⟨_, hv, g3⟩
    · cases hu
  · exact hsl.2 u p hu

/-! ### tables of contracts -/
structure Entry where
  f : Nat
  go : List PV → (PV → Prop) → Prop
structure EntryM where
  f : Nat
  go : List PV → List AB → (PV → List AB → Prop) → (PV → List AB → Prop) → Prop
def pcOf : List Entry → PureF
  | [], f, _, _ => Bad (1000 + f)
  | e :: r, f, args, k => match Nat.beq e.f f with | true => e.go (args.map unkA) k | false => pcOf r f args k
def mcOf : List EntryM → CallF
  | [], f, _, _, _, _ => Bad (1000 + f)
  | e :: r, f, args, h, kr, kp => match Nat.beq e.f f with | true => e.go args h kr kp | false => mcOf r f args h kr kp
def EntryOK (Γ : Ctx) (P : Program) (e : Entry) : Prop := ∀ args k, e.go args k → PureW Γ P e.f args k
def EntryMOK (Γ : Ctx) (P : Program) (e : EntryM) : Prop := ∀ args h kr kp, e.go args h kr kp → CallW Γ P e.f args h kr kp
theorem calling_of {l : List Entry} {m : List EntryM} (h1 : ∀ e ∈ l, EntryOK Γ P e) (h2 : ∀ e ∈ m, EntryMOK Γ P e) : Calling Γ P (mcOf m) (pcOf l) := by
  constructor
  · intro f ps h kr kp hk
    induction m with
    | nil => exact Bad.elim hk
    | cons e m ih =>
      unfold mcOf at hk
      split at hk
      · rename_i hb
        have := Nat.eq_of_beq_eq_true hb
        subst this
        exact h2 e List.mem_cons_self _ _ _ _ hk
      · exact ih (fun e he => h2 e (List.mem_cons_of_mem _ he)) hk
  · intro f ps k hk
    induction l with
    | nil => exact Bad.elim hk
    | cons e l ih =>
      unfold pcOf at hk
      split at hk
      · rename_i hb
        have := Nat.eq_of_beq_eq_true hb
        subst this
        obtain ⟨p, g1, g2⟩ := (h1 e List.mem_cons_self _ _ hk).out
        exact ⟨p, ⟨g1.known, fun E w vs hh ha => g1.out E w vs hh ha.unk⟩, g2⟩
      · exact ih (fun e he => h1 e (List.mem_cons_of_mem _ he)) hk

/-- what a call comes to, where it hangs on data alone -/
abbrev Gives (Γ : Ctx) (P : Program) (f : Nat) (ps : List PV) (p : PV) : Prop := CallW Γ P f ps [] (fun r h => r = p ∧ h = []) (fun _ _ => False)
theorem PureW.mk' {f : Nat} {ps : List PV} {k : PV → Prop} (p : PV) (h : Gives Γ P f ps p) (hk : k p) : PureW Γ P f ps k := ⟨p, h, hk⟩
inductive WkP : PV → PV → Prop
  | one {p q : PV} (h : Wk p q) : WkP p q
  | agg {cs ds : List PV} (h : Wks cs ds) : WkP (.agg cs) (.agg ds)
  | tup2 {p q p' q' : PV} (h : WkP p q) (h' : WkP p' q') : WkP (.tup [p, p']) (.tup [q, q'])
theorem WkP.refl (p : PV) : WkP p p := .one (.refl p)
theorem Rep.wkp {p q : PV} (hw : WkP p q) : ∀ {v : Value}, Rep E w v p → Rep E w v q := by
  induction hw with
  | one hw => exact fun h => h.wk hw
  | agg hw =>
    intro v h
    cases h with | agg vs _ hl h1 hr =>
    refine .agg vs _ (hl.trans hw.length) (fun c hc => ?_) (fun i u c hu hc => ?_)
    · obtain ⟨p, hp, hpw⟩ := hw.mem hc; exact hpw.one (h1 p hp)
    · obtain ⟨p, hp, hpw⟩ := hw.get i c hc; exact (hr i u p hu hp).wk hpw
  | tup2 h1 h2 ih1 ih2 =>
    intro v h
    cases h with | tup vs _ hl hr =>
    refine .tup vs _ hl fun i u c hu hc => ?_
    match i with
    | 0 => simp at hc; subst hc; exact ih1 (hr 0 u _ hu rfl)
    | 1 => simp at hc; subst hc; exact ih2 (hr 1 u _ hu rfl)
    | i + 2 => simp at hc
theorem CallW.wk {f : Nat} {ps : List PV} {kr kr' kp : PV → List AB → Prop} (hc : CallW Γ P f ps h kr kp) (hk : ∀ r h', kr r h' → ∃ q, WkP r q ∧ kr' q h') : CallW Γ P f ps h kr' kp :=
  ⟨hc.known, fun E w vs hh ha => (hc.out E w vs hh ha).mono fun e w' he => by
    cases e with
    | returned v =>
      obtain ⟨p, E', h', a, b, c, d⟩ := he
      obtain ⟨q, g1, g2⟩ := hk p h' d
      exact ⟨q, E', h', a, b, Rep.wkp g1 c, g2⟩
    | panicked ch => exact he
    | outgrown => exact he⟩
/-- a function that is handed data and makes data: its walk -/
def unkR : PV → PV
  | .tup cs => .tup (cs.map unkA)
  | p => unkA p
theorem Rep.unkR {v : Value} {p : PV} (h : Rep E w v p) : Rep E w v (unkR p) := by
  cases h with
  | tup vs cs hl hr =>
    refine .tup vs _ (by simpa using hl) fun i v c hv hc => ?_
    rw [List.getElem?_map] at hc
    obtain ⟨p, hp, rfl⟩ := Option.map_eq_some_iff.1 hc
    exact (hr i v p hv hp).unkA
  | d h => exact (Rep.d h).unkA
  | undef => exact .undef
  | agg vs cs hl h1 hr => exact (Rep.agg vs cs hl h1 hr).unkA
  | box i off h => exact .box i off h
  | elem b o cs vals hK hc hr => exact .elem b o cs vals hK hc hr
  | row A i n c h hn hv => exact .row A i n c h hn hv
  | rowel g i n j off c h hn hv => exact .rowel g i n j off c h hn hv
  | clo f vs cs hl hr => exact .clo f vs cs hl hr
  | ifc t v c h => exact .ifc t v c h
abbrev finW (p : PV) (r : PV) (h : List AB) : Prop := shutV false r h fun v _ => needS false (v.under 0) (WkP (unkR v) p)
theorem gives_of {f : Nat} {ps : List PV} {p : PV} (hc : CallW Γ P f ps [] (finW p) (fun _ _ => False)) : Gives Γ P f ps p := by
  refine ⟨hc.known, fun E w vs hh ha => (hc.out E w vs hh ha).mono fun e w' he => ?_⟩
  cases e with
  | returned v =>
    obtain ⟨q, E1, h1, g1, g2, g3, g4⟩ := he
    obtain ⟨r, E2, h2, f1, f2, f3, _, f5⟩ := shutV_sound q g1 g3 g4
    obtain ⟨hu, hw⟩ := (need_iff _ _).1 f5
    have htr : trim ([] : List AB).length r h2 (fun r' h' => r' = r ∧ h' = []) := by
      unfold trim
      rw [takeK_eq]
      have : (r.under ([] : List AB).length && abelow ([] : List AB).length (h2.take ([] : List AB).length)) = true := by simp [hu, abelow]
      rw [this]
      simp
    obtain ⟨E3, h3, q1, q2, q3, q4, q5⟩ := trim_sound hh.n (g2.trans f2) f1 f3 htr
    subst q5
    exact ⟨p, E3, [], q1, q2, Rep.wkp hw (Rep.unkR (q4 ▸ q3)), rfl, rfl⟩
  | panicked ch => obtain ⟨_, _, _, _, _, _, _, _, hf⟩ := he; exact hf.elim
  | outgrown => exact he.elim
theorem ArgsRel.wk {vs : Array Value} {ps qs : List PV} (h : ArgsRel E w vs ps) (hw : Wks ps qs) : ArgsRel E w vs qs :=
  ⟨h.1.trans hw.length, fun i v q hv hq => by
    obtain ⟨p, hp, hpw⟩ := hw.get i q hq
    exact (h.2 i v p hv hp).wk hpw⟩
theorem CallW.wk_args {f : Nat} {ps qs : List PV} {kr kp : PV → List AB → Prop} (hw : Wks ps qs) (hc : CallW Γ P f qs h kr kp) : CallW Γ P f ps h kr kp :=
  ⟨hc.known, fun E w vs hh ha => hc.out E w vs hh (ha.wk hw)⟩
end
end Go.Proofs.Ytepgblhhajdmoaa.Eng
