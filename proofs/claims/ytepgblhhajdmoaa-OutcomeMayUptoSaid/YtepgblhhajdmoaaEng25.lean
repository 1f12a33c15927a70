/-
  THE ENGINE, part 25: a function's text by its places; loops are left over at their heads.
-/
import Derived.Test.YtepgblhhajdmoaaEng24
set_option linter.unusedVariables false
set_option linter.unusedSimpArgs false
namespace Go.Proofs.Ytepgblhhajdmoaa.Eng
open Go

inductive Itm where
  | seq (p : List Nat) (b : Code) | block (id : Nat) | scope (p : List Nat) (b : Code) | loop (p : List Nat) (b : Code)
def down (c : Nat) (p : List Nat) : Code × List Itm → Option (Code × List Itm)
  | (.seq a b, s) => (match c with | 0 => some (a, .seq p b :: s) | _ => some (b, s))
  | (.cond _ x y, s) => (match c with | 0 => some (x, s) | _ => some (y, s))
  | (.block id b, s) => some (b, .block id :: s)
  | (.scope b, s) => (match c with | 0 => some (b, .scope p b :: s) | l + 1 => (match findLabel b l with | some r => some (r, .scope p b :: s) | none => none))
  | (.loop b, s) => some (b, .loop p b :: s)
  | _ => none
/-- what stands at a place (told from the innermost step out), and what stands behind it -/
def at? (B : Code) : List Nat → Option (Code × List Itm)
  | [] => some (B, [])
  | c :: p => match at? B p with | some x => down c p x | none => none

inductive Foc where
  | code (p : List Nat) (cd : Code) | exit (x : AExit)

section
variable (Γ : Ctx) (call : CallF) (pcall : PureF) (kE : AExit → St → Prop) (cut : List (List Nat)) (Z : List Nat → St → Prop)

def evS (rec : Foc → List Itm → St → Prop) : Foc → List Itm → St → Prop
  | .code p cd, s, st => (match cd with
    | .skip | .label _ => rec (.exit .normal) s st
    | .seq a b => rec (.code (0 :: p) a) (.seq p b :: s) st
    | .cond b x y => withO Γ st.slots b fun v => (match v.bv with
      | .sym b => splitB false b fun b => (match b with | true => rec (.code (0 :: p) x) s st | false => rec (.code (1 :: p) y) s st)
      | .known b => (match b with | true => rec (.code (0 :: p) x) s st | false => rec (.code (1 :: p) y) s st)
      | .no => (Bad 37))
    | .block id b => rec (.code (0 :: p) b) (.block id :: s) st
    | .exit id => rec (.exit (.exit id)) s st
    | .ret => rec (.exit .ret) s st
    | .goto l => rec (.exit (.goto l)) s st
    | .scope b => rec (.code (0 :: p) b) (.scope p b :: s) st
    | .region id ops dr => (match st with
      | ⟨sl, h⟩ => (match dr with
        | false => opsX Γ false call pcall ops.toList ops.toList sl h fun x st => rec (.exit x) s st
        | true => drawX Γ false call pcall ops sl h fun x st => rec (.exit x) s st))
    | .loop b => Z p st
    | _ => (Bad 48))
  | .exit x, s, st => (match s with
    | [] => kE x st
    | .seq p b :: s => (match x with | .normal => rec (.code (1 :: p) b) s st | x => rec (.exit x) s st)
    | .block id :: s => (match x with
      | .exit i => (match Nat.beq i id with | true => rec (.exit .normal) s st | false => rec (.exit (.exit i)) s st)
      | x => rec (.exit x) s st)
    | .scope p b :: s => (match x with
      | .goto l => (match cut.contains ((l + 1) :: p) with
        | true => Z ((l + 1) :: p) st
        | false => (match findLabel b l with | some r => rec (.code ((l + 1) :: p) r) (.scope p b :: s) st | none => rec (.exit (.goto l)) s st))
      | x => rec (.exit x) s st)
    | .loop p b :: s => (match x with | .normal => Z p st | x => rec (.exit x) s st))

def ev (n : Nat) : Foc → List Itm → St → Prop := Nat.rec (motive := fun _ => Foc → List Itm → St → Prop) (fun _ _ _ => (Bad 62)) (fun _ ih => evS Γ call pcall kE cut Z ih) n
def evAt (B : Code) (n : Nat) (p : List Nat) (st : St) : Prop := match at? B p with | some (cd, s) => ev Γ call pcall kE cut Z n (.code p cd) s st | none => (Bad 63)
end

/-- a call's end -/
def endX (Γ : Ctx) (F : Func) (n0 : Nat) (kr kp : PV → List AB → Prop) : AExit → St → Prop := fun x st => (match st with
  | ⟨s, h⟩ => (match x with
    | .normal | .ret => resultsX Γ false h s F.results.toList fun vs => oneOrTup vs fun r => settle false h r fun r h => trim n0 r h kr
    | .panic v => kp v h
    | _ => (Bad 71)))

section
variable (Γ : Ctx) (P : Program) (n0 : Nat) (kE : AExit → St → Prop)
def contW : List Itm → AExit → St → Prop
  | [] => kE
  | .seq p b :: s => fun x st => (match x with | .normal => CodeW Γ P n0 b (contW s) st | x => contW s x st)
  | .block id :: s => fun x st => (match x with
    | .exit i => (match Nat.beq i id with | true => contW s .normal st | false => contW s (.exit i) st)
    | x => contW s x st)
  | .scope p b :: s => fun x st => (match x with
    | .goto l => (match findLabel b l with | some r => ScopeW Γ P n0 b r (contW s) st | none => contW s (.goto l) st)
    | x => contW s x st)
  | .loop p b :: s => fun x st => (match x with | .normal => LoopW Γ P n0 b b (contW s) st | x => contW s x st)
/-- at the head of a loop, or behind a jump: in every memory that holds this all goes on to the end -/
def Head (B : Code) (p : List Nat) (st : St) : Prop :=
  match at? B p, p with
  | some (.loop b, s), _ => LoopW Γ P n0 b b (contW Γ P n0 kE s) st
  | some (r, .scope q b :: s), (l + 1) :: q' => ScopeW Γ P n0 b r (contW Γ P n0 kE s) st
  | _, _ => False
end

section
variable {Γ : Ctx} {P : Program} {n0 : Nat} {E E' : Env} {w w' : World} {h : List AB} {a : Act} {kE : AExit → St → Prop} {cut : List (List Nat)} {Z : List Nat → St → Prop} {call : CallF} {pcall : PureF} {B : Code}

theorem CodeW.mono {cd : Code} {k k' : AExit → St → Prop} {st : St} (hc : CodeW Γ P n0 cd k st) (h : ∀ x st, k x st → k' x st) : CodeW Γ P n0 cd k' st :=
  ⟨fun E a w hn hr => wp_mono (hc.out E a w hn hr) fun e a' w' ⟨xa, st', E', h1, h2, h3, h4⟩ => ⟨xa, st', E', h1, h2, h3, h _ _ h4⟩⟩

def recW (Γ : Ctx) (P : Program) (n0 : Nat) : CodeF := fun sc cd st k => match sc with
  | .plain => CodeW Γ P n0 cd k st
  | .scope b => ScopeW Γ P n0 b cd k st
  | .loop b => LoopW Γ P n0 b cd k st
theorem recW_ok : RecOK Γ P n0 (recW Γ P n0) := ⟨fun _ _ _ h => h, fun _ _ _ _ h => h, fun _ _ _ _ h => h⟩
def Lw (Γ : Ctx) (P : Program) (n0 : Nat) (call : CallF) (pcall : PureF) : Leaves := ⟨CodeW Γ P n0, call, pcall⟩
theorem step_ok (hC : CtxOK Γ P) (hcc : Calling Γ P call pcall) : RecOK Γ P n0 (codeStep Γ false (Lw Γ P n0 call pcall) (recW Γ P n0)) :=
  codeStep_sound hC recW_ok (fun _ _ _ h => h) (fun _ => hcc) (fun h => by cases h)

theorem code_loop {b : Code} {k : AExit → St → Prop} {st : St} (hk : LoopW Γ P n0 b b k st) : CodeW Γ P n0 (.loop b) k st :=
  ⟨fun E a w hn hr bf kk cs => by
    obtain ⟨e, a', w', hp, harr⟩ := hk.out E a w hn hr bf kk cs
    exact ⟨e, a', w', hp, .of_steps (.one step_loop) harr⟩⟩
theorem loop_code (hC : CtxOK Γ P) {b cd : Code} {p : List Nat} {s : List Itm} {st : St} (hk : CodeW Γ P n0 cd (contW Γ P n0 kE (.loop p b :: s)) st) : LoopW Γ P n0 b cd (contW Γ P n0 kE s) st :=
  (step_ok hC calling).loop b cd st _ (hk.mono fun x st h => by cases x <;> exact h)
theorem scope_code (hC : CtxOK Γ P) {b cd : Code} {p : List Nat} {s : List Itm} {st : St} (hk : CodeW Γ P n0 cd (contW Γ P n0 kE (.scope p b :: s)) st) : ScopeW Γ P n0 b cd (contW Γ P n0 kE s) st :=
  (step_ok hC calling).scope b cd st _ (hk.mono fun x st h => by cases x <;> exact h)

/-- what stands in what is behind a place stands there in the text -/
def Ok (B : Code) : List Itm → Prop
  | [] => True
  | .seq p b :: s => (∃ a, at? B p = some (.seq a b, s)) ∧ Ok B s
  | .block _ :: s => Ok B s
  | .scope p b :: s => at? B p = some (.scope b, s) ∧ Ok B s
  | .loop p b :: s => at? B p = some (.loop b, s) ∧ Ok B s
theorem at_ok : ∀ (p : List Nat) {cd : Code} {s : List Itm}, at? B p = some (cd, s) → Ok B s
  | [], cd, s, h => by simp [at?] at h; obtain ⟨rfl, rfl⟩ := h; trivial
  | c :: p, cd, s, h => by
    unfold at? at h
    split at h
    · rename_i x hx
      obtain ⟨cx, sx⟩ := x
      have ih := at_ok p hx
      unfold down at h
      split at h
      · rename_i a b s' he
        cases he
        split at h <;> cases h
        · exact ⟨⟨_, hx⟩, ih⟩
        · exact ih
      · rename_i b x y s' he
        cases he
        split at h <;> cases h <;> exact ih
      · rename_i id b s' he
        cases he; cases h; exact ih
      · rename_i b s' he
        cases he
        split at h
        · cases h; exact ⟨hx, ih⟩
        · split at h
          · cases h; exact ⟨hx, ih⟩
          · cases h
      · rename_i b s' he
        cases he; cases h; exact ⟨hx, ih⟩
      · cases h
    · cases h
theorem at_next {p : List Nat} {x : Code × List Itm} (h : at? B p = some x) (c : Nat) : at? B (c :: p) = down c p x := by rw [at?, h]

theorem ev_sound (hC : CtxOK Γ P) (hcc : Calling Γ P call pcall) (hZ : ∀ q st, Z q st → Head Γ P n0 kE B q st) : ∀ n,
    (∀ p cd s st, at? B p = some (cd, s) → ev Γ call pcall kE cut Z n (.code p cd) s st → CodeW Γ P n0 cd (contW Γ P n0 kE s) st) ∧
    (∀ x s st, Ok B s → ev Γ call pcall kE cut Z n (.exit x) s st → contW Γ P n0 kE s x st)
  | 0 => ⟨fun p cd s st _ h => h.elim, fun x s st _ h => h.elim⟩
  | n + 1 => by
    obtain ⟨ihc, ihx⟩ := ev_sound hC hcc hZ n
    refine ⟨fun p cd s st hat hk => ?_, fun x s st hok hk => ?_⟩
    · have hok := at_ok p hat
      replace hk : evS Γ call pcall kE cut Z (ev Γ call pcall kE cut Z n) (.code p cd) s st := hk
      have go : codeStep Γ false (Lw Γ P n0 call pcall) (recW Γ P n0) .plain cd st (contW Γ P n0 kE s) → CodeW Γ P n0 cd (contW Γ P n0 kE s) st := (step_ok hC hcc).code cd st _
      simp only [evS] at hk
      split at hk
      · exact go (ihx _ _ _ hok hk)
      · exact go (ihx _ _ _ hok hk)
      · rename_i a b
        refine go ((ihc _ _ _ _ (at_next hat 0) hk).mono fun x st h => ?_)
        cases x <;> exact h
      · rename_i b x y
        refine go ?_
        show withO Γ st.slots b _
        unfold withO at hk ⊢
        split at hk
        · split at hk
          · rename_i t hbv
            rw [splitB_eq] at hk
            simp only [hbv]
            rw [splitB_eq]
            cases t
            · exact ihc _ _ _ _ (at_next hat 1) hk
            · exact ihc _ _ _ _ (at_next hat 0) hk
          · rename_i t hbv
            simp only [hbv]
            cases t
            · exact ihc _ _ _ _ (at_next hat 1) hk
            · exact ihc _ _ _ _ (at_next hat 0) hk
          · exact hk.elim
        · exact hk.elim
      · rename_i id b
        refine go ((ihc _ _ _ _ (at_next hat 0) hk).mono fun x st h => ?_)
        cases x <;> exact h
      · exact go (ihx _ _ _ hok hk)
      · exact go (ihx _ _ _ hok hk)
      · exact go (ihx _ _ _ hok hk)
      · rename_i b
        exact go (scope_code hC (ihc _ _ _ _ (at_next hat 0) hk))
      · rename_i id ops dr
        obtain ⟨sl, h⟩ := st
        have hm : ∀ {F : (AExit → St → Prop) → Prop}, F (fun x st => ev Γ call pcall kE cut Z n (.exit x) s st) → (∀ k k', (∀ x st, k x st → k' x st) → F k → F k') → F (contW Γ P n0 kE s) :=
          fun h hmon => hmon _ _ (fun x st h => ihx x s st hok h) h
        refine ⟨fun E a w hn hr => ?_⟩
        cases dr with
        | false => exact wp_mono (wp_region_list (opsX_sound hC hcc _ hr.heap hr.slots hr.defers (Fr.refl _ _ _) hk)) fun e a' w' ⟨xa, st', E', h1, h2, h3, h4⟩ => ⟨xa, st', E', h1, h2, h3.toB hn, ihx xa s st' hok h4⟩
        | true => exact wp_mono (drawX_sound hC hcc hr.heap hr.slots hr.defers (Fr.refl _ _ _) hk) fun e a' w' ⟨xa, st', E', h1, h2, h3, h4⟩ => ⟨xa, st', E', h1, h2, h3.toB hn, ihx xa s st' hok h4⟩
      · rename_i b
        have := hZ p st hk
        unfold Head at this
        rw [hat] at this
        exact code_loop this
      · exact hk.elim
    · replace hk : evS Γ call pcall kE cut Z (ev Γ call pcall kE cut Z n) (.exit x) s st := hk
      simp only [evS] at hk
      split at hk
      · exact hk
      · rename_i p b s
        obtain ⟨⟨a, hat⟩, hok⟩ := hok
        unfold contW
        cases x
        · exact ihc _ _ _ _ (at_next hat 1) hk
        all_goals exact ihx _ _ _ hok hk
      · rename_i id s
        unfold contW
        cases x
        case exit i =>
          dsimp only at hk ⊢
          split at hk
          · exact ihx _ _ _ hok hk
          · exact ihx _ _ _ hok hk
        all_goals exact ihx _ _ _ hok hk
      · rename_i p b s
        obtain ⟨hat, hok'⟩ := hok
        unfold contW
        cases x
        case goto l =>
          dsimp only at hk ⊢
          split at hk
          · have := hZ _ st hk
            have h1 := at_next hat (l + 1)
            simp only [down] at h1
            split
            · rename_i r hr
              rw [hr] at h1
              unfold Head at this
              rw [h1] at this
              cases r with
              | loop b' => exact scope_code hC (code_loop this)
              | _ => exact this
            · rename_i hr
              rw [hr] at h1
              unfold Head at this
              rw [h1] at this
              exact this.elim
          · split at hk
            · rename_i r hr
              have h1 := at_next hat (l + 1)
              simp only [down, hr] at h1
              exact scope_code hC (ihc _ _ _ _ h1 hk)
            · exact ihx _ _ _ hok' hk
        all_goals exact ihx _ _ _ hok' hk
      · rename_i p b s
        obtain ⟨hat, hok'⟩ := hok
        unfold contW
        cases x
        · have := hZ p st hk
          unfold Head at this
          rw [hat] at this
          exact this
        all_goals exact ihx _ _ _ hok' hk

/-- A FUNCTION, by its text's places. -/
def runE (Γ : Ctx) (call : CallF) (pcall : PureF) (cut : List (List Nat)) (Z : List Nat → St → Prop) (n f : Nat) (args : List PV) (h : List AB) (kr kp : PV → List AB → Prop) : Prop :=
  match nth Γ.fns f with
  | some F => (match F.body with
    | some b => lenK false h 0 fun n0 => spine (entry F args) fun s => ev Γ call pcall (endX Γ F n0 kr kp) cut Z n (.code [] b) [] ⟨s, h⟩
    | none => (Bad 280))
  | none => (Bad 281)
def bodyOf (Γ : Ctx) (f : Nat) : Code := match nth Γ.fns f with
  | some F => (match F.body with | some b => b | none => .skip)
  | none => .skip
def endOf (Γ : Ctx) (f n0 : Nat) (kr kp : PV → List AB → Prop) : AExit → St → Prop := match nth Γ.fns f with
  | some F => endX Γ F n0 kr kp
  | none => fun _ _ => (Bad 287)
abbrev HeadF (Γ : Ctx) (P : Program) (f n0 : Nat) (kr kp : PV → List AB → Prop) (p : List Nat) (st : St) : Prop := Head Γ P n0 (endOf Γ f n0 kr kp) (bodyOf Γ f) p st
theorem runE_sound (hC : CtxOK Γ P) (hcc : Calling Γ P call pcall) {n f : Nat} {ps : List PV} {h : List AB} {kr kp : PV → List AB → Prop}
    (hZ : ∀ q st, Z q st → HeadF Γ P f h.length kr kp q st) (hk : runE Γ call pcall cut Z n f ps h kr kp) : CallW Γ P f ps h kr kp := by
  unfold runE at hk
  refine enterX_sound (c := false) hC (recW_ok (n0 := h.length)) ?_
  unfold enterX
  split at hk
  · rename_i F hF
    split at hk
    · rename_i b hb
      have hB : bodyOf Γ f = b := by simp only [bodyOf, hF, hb]
      have hE : endOf Γ f h.length kr kp = endX Γ F h.length kr kp := by simp only [endOf, hF]
      simp only [hF, hb]
      rw [lenK_eq, spine_eq, Nat.zero_add] at hk ⊢
      refine ((ev_sound (B := b) hC hcc (fun q st hz => ?_) n).1 [] b [] _ rfl hk).mono fun x st hx => by cases x <;> first | exact hx | exact Bad.elim hx
      have := hZ q st hz
      unfold HeadF at this
      rw [hB, hE] at this
      exact this
    · exact hk.elim
  · exact hk.elim

/-! ### heads -/
/-- a weaker description of the same memories -/
def Sub (Γ : Ctx) (n0 : Nat) (st' st : St) : Prop := ∀ (E : Env) (a : Act) (w : World), n0 ≤ E.n → Rel Γ E st a w → ∃ E', Rel Γ E' st' a w ∧ FrB n0 E st.heap w E' st'.heap w
theorem Sub.refl (st : St) : Sub Γ n0 st st := fun E a w hn h => ⟨E, h, FrB.refl hn⟩
theorem Sub.trans {a b c : St} (h : Sub Γ n0 a b) (k : Sub Γ n0 b c) : Sub Γ n0 a c := fun E x w hn hr => by
  obtain ⟨E1, h1, f1⟩ := k E x w hn hr
  obtain ⟨E2, h2, f2⟩ := h E1 x w f1.n h1
  exact ⟨E2, h2, f1.trans f2⟩
theorem CodeW.sub {cd : Code} {k : AExit → St → Prop} {st st' : St} (hs : Sub Γ n0 st' st) (h : CodeW Γ P n0 cd k st') : CodeW Γ P n0 cd k st :=
  ⟨fun E a w hn hr => by
    obtain ⟨E', h1, f1⟩ := hs E a w hn hr
    exact wp_mono (h.out E' a w f1.n h1) fun _ _ _ => PostB.back f1⟩
theorem LoopW.sub {b cd : Code} {k : AExit → St → Prop} {st st' : St} (hs : Sub Γ n0 st' st) (h : LoopW Γ P n0 b cd k st') : LoopW Γ P n0 b cd k st :=
  ⟨fun E a w hn hr bf kk cs => by
    obtain ⟨E', h1, f1⟩ := hs E a w hn hr
    obtain ⟨e, a', w', hp, harr⟩ := h.out E' a w f1.n h1 bf kk cs
    exact ⟨e, a', w', hp.back f1, harr⟩⟩
theorem ScopeW.sub {b cd : Code} {k : AExit → St → Prop} {st st' : St} (hs : Sub Γ n0 st' st) (h : ScopeW Γ P n0 b cd k st') : ScopeW Γ P n0 b cd k st :=
  ⟨fun E a w hn hr bf kk cs => by
    obtain ⟨E', h1, f1⟩ := hs E a w hn hr
    obtain ⟨e, a', w', hp, harr⟩ := h.out E' a w f1.n h1 bf kk cs
    exact ⟨e, a', w', hp.back f1, harr⟩⟩
theorem Head.sub {p : List Nat} {st st' : St} (hs : Sub Γ n0 st' st) (h : Head Γ P n0 kE B p st') : Head Γ P n0 kE B p st := by
  unfold Head at h ⊢
  split at h
  · exact LoopW.sub hs h
  · exact ScopeW.sub hs h
  · exact h.elim

/-- the place from which a head's round goes -/
def round (B : Code) (p : List Nat) : List Nat := match at? B p with
  | some (.loop _, _) => 0 :: p
  | _ => p
theorem head_of (hC : CtxOK Γ P) (hcc : Calling Γ P call pcall) {n : Nat} {p : List Nat} {st : St} (hZ : ∀ q st, Z q st → Head Γ P n0 kE B q st) (hp : (match at? B p, p with | some (.loop _, _), _ => true | some (_, .scope _ _ :: _), _ :: _ => (match p with | (_ + 1) :: _ => true | _ => false) | _, _ => false) = true)
    (hk : evAt Γ call pcall kE cut Z B n (round B p) st) : Head Γ P n0 kE B p st := by
  have hs := ev_sound (cut := cut) (B := B) hC hcc hZ n
  unfold Head
  unfold round at hk
  split at hp
  · rename_i b s _ hat
    simp only [hat] at hk ⊢
    unfold evAt at hk
    rw [at_next hat 0] at hk
    simp only [down] at hk
    exact loop_code hC (hs.1 _ _ _ _ (by rw [at_next hat 0]; rfl) hk)
  · rename_i r q b s c p hnl hat
    split at hp
    · rename_i l p he
      cases he
      simp only [hat] at hk ⊢
      cases r with
      | loop b' => exact (hnl b' rfl).elim
      | _ =>
        unfold evAt at hk
        rw [hat] at hk
        exact scope_code hC (hs.1 _ _ _ _ hat hk)
    · cases hp
  · cases hp
/-- A LOOP: each round's state in a family, and what falls from round to round. -/
theorem head_ind {ι : Type} (m : ι → Nat) (I : ι → St) {p : List Nat} (step : ∀ i, (∀ j, m j < m i → Head Γ P n0 kE B p (I j)) → Head Γ P n0 kE B p (I i)) : ∀ i, Head Γ P n0 kE B p (I i) := by
  have key : ∀ n i, m i < n → Head Γ P n0 kE B p (I i) := by
    intro n
    induction n with
    | zero => intro i hi; exact absurd hi (Nat.not_lt_zero _)
    | succ n ih => intro i hi; exact step i fun j hj => ih j (by omega)
  exact fun i => key (m i + 1) i (Nat.lt_succ_self _)
end
end Go.Proofs.Ytepgblhhajdmoaa.Eng
