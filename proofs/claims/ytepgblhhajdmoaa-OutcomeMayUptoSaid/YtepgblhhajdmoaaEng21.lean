/-
  THE ENGINE, part 21: what is carried out comes to one thing alone.
-/
import Derived.Test.YtepgblhhajdmoaaEng20
set_option linter.unusedVariables false
set_option linter.unusedSimpArgs false
namespace Go.Proofs.Ytepgblhhajdmoaa.Eng
open Go

section
variable {α β : Type} {Γ : Ctx} {md : Bool}

theorem Lin.eq {F G : (α → Prop) → Prop} (h : Lin G) (he : ∀ k, F k = G k) : Lin F := by
  have : F = G := funext he
  rw [this]; exact h
theorem Lin.frz {hp : List AB} {v : PV} {F : DV → List AB → (α → Prop) → Prop} (h : ∀ v h, Lin (F v h)) : Lin fun k => frz md hp v fun v h => F v h k := by
  unfold Eng.frz
  repeat' first | exact Lin.bad _ | exact h _ _ | (refine Lin.need fun _ => ?_) | exact (h _ _).eq fun k => by rw [upd_eq] | split
theorem Lin.frzs : ∀ {vs : List PV} {hp : List AB} {F : List DV → List AB → (α → Prop) → Prop}, (∀ v h, Lin (F v h)) → Lin fun k => frzs md hp vs fun v h => F v h k
  | [], hp, F, h => h _ _
  | v :: r, hp, F, h => Lin.frz fun x h' => Lin.frzs (F := fun l h => F (unkD x :: l) h) fun l h' => h _ _
theorem Lin.storeX {c : Bool} {hp : List AB} {T : Nat} {a v : PV} {F : List AB → (α → Prop) → Prop} (h : ∀ h, Lin (F h)) : Lin fun k => storeX Γ c hp T a v fun h => F h k := by
  unfold Eng.storeX
  refine Lin.tinfo fun i => Lin.need fun _ => ?_
  split
  · split
    · refine Lin.need fun _ => (h _).eq fun k => by rw [fcells_eq, upd_eq]
    · exact Lin.bad _
  · refine Lin.frzs fun new h' => ?_
    split
    · exact Lin.need fun _ => Lin.elemAt fun e => Lin.need fun _ => (h _).eq fun k => by rw [fdvs_eq, setK_eq, upd_eq]
    · exact Lin.bad _
  · exact Lin.bad _
theorem Lin.appendX {c : Bool} {hp : List AB} {T : Nat} {s x : PV} {F : PV → List AB → (α → Prop) → Prop} (h : ∀ v h, Lin (F v h)) : Lin fun k => appendX Γ c hp T s x fun v h => F v h k := by
  unfold Eng.appendX
  refine Lin.tinfo fun i => ?_
  split
  · refine Lin.tinfo fun u => ?_
    unfold newEls
    split
    · exact Lin.bad _
    · refine Lin.elems fun _ new => Lin.need fun _ => ?_
      split
      · exact Lin.need fun _ => (h _ _).eq fun k => by rw [frows_eq, lenK_eq, lenC_eq, snoc_eq]
      · split
        · exact Lin.need fun _ => Lin.need fun _ => (h _ _).eq fun k => by rw [frows_eq, lenC_eq, upd_eq]
        · exact Lin.bad _
      · exact Lin.bad _
  · exact Lin.bad _
theorem Lin.fillX {c : Bool} {fs : List (Nat × Nat)} : ∀ {ps : List (Nat × PV)} {cs : List PV} {F : List PV → (α → Prop) → Prop}, (∀ cs, Lin (F cs)) → Lin fun k => fillX Γ c fs ps cs fun cs => F cs k
  | [], cs, F, h => h _
  | (f, v) :: r, cs, F, h => by
    unfold Eng.fillX
    split
    · exact Lin.tinfo fun u => Lin.need fun _ => Lin.fcells fun cs => Lin.fillX h
    · exact Lin.bad _
theorem Lin.withParts {slots : List (Option PV)} : ∀ {l : List (Nat × Operand)} {F : List (Nat × PV) → (α → Prop) → Prop}, (∀ vs, Lin (F vs)) → Lin fun k => withParts Γ slots l fun vs => F vs k
  | [], F, h => h _
  | (i, x) :: r, F, h => Lin.withO fun v => Lin.withParts (F := fun vs k => F ((i, v) :: vs) k) fun vs => h _
theorem Lin.elsX {sz : Nat} : ∀ {l : List (Nat × PV)} {hp : List AB} {F : List (List DV) → List AB → (α → Prop) → Prop}, (∀ v h, Lin (F v h)) → Lin fun k => elsX md hp sz l fun v h => F v h k
  | [], hp, F, h => h _ _
  | (_, v) :: r, hp, F, h => by
    simp only [Eng.elsX]
    exact Lin.need fun _ => Lin.frzs fun e h' => Lin.elsX (F := fun es h => F (e :: es) h) fun es h' => h _ _
theorem Lin.maxX : ∀ {ps : List PV} {m : Int} {F : Int → (α → Prop) → Prop}, (∀ v, Lin (F v)) → Lin fun k => maxX m ps fun v => F v k
  | [], m, F, h => h _
  | v :: r, m, F, h => by
    unfold Eng.maxX
    split
    · exact Lin.maxX (ps := r) h
    · exact Lin.bad _
theorem Lin.builtinX {c : Bool} {hp : List AB} {b : Builtin} {ts : List Nat} {vs : List PV} {F : PV → List AB → (α → Prop) → Prop} (h : ∀ v h, Lin (F v h)) : Lin fun k => builtinX Γ c hp b ts vs fun v h => F v h k := by
  unfold Eng.builtinX
  split
  · exact Lin.lenX fun v => h _ _
  · exact Lin.need fun _ => Lin.appendX h
  · split
    · exact Lin.maxX fun m => h _ _
    · exact Lin.bad _
  · exact Lin.bad _
theorem Lin.sliceP {hp : List AB} {T : Nat} {x : PV} {lo hi : Option PV} {F : PV → List AB → (α → Prop) → Prop} (h : ∀ v h, Lin (F v h)) : Lin fun k => Eng.sliceX Γ md hp T x lo hi fun v h => F v h k := by
  unfold Eng.sliceX
  refine Lin.tinfo fun i => Lin.bound fun _ => ?_
  repeat' first | exact Lin.bad _ | exact h _ _ | (refine Lin.need fun _ => ?_) | (refine Lin.tinfo fun _ => ?_) | (refine Lin.bound fun _ => ?_) | (refine Lin.frz fun _ _ => ?_) | split
theorem Lin.pureX {c : Bool} {slots : List (Option PV)} {hp : List AB} {op : Op} {F : PV → List AB → (α → Prop) → Prop} (h : ∀ v h, Lin (F v h)) : Lin fun k => pureX Γ c slots hp op fun v h => F v h k := by
  unfold Eng.pureX
  split
  · exact Lin.withO fun v => h _ _
  · exact Lin.withO fun v => h _ _
  · refine Lin.withO fun v => ?_
    split
    · refine Lin.splitB fun b => ?_
      cases b
      · exact Lin.withO fun v => h _ _
      · exact Lin.withO fun v => h _ _
    · split
      · exact Lin.withO fun v => h _ _
      · exact Lin.withO fun v => h _ _
    · exact Lin.bad _
  · exact Lin.tinfo fun i => (h _ _).eq fun k => by rw [fcells_eq, lenK_eq, snoc_eq]
  · exact Lin.withO fun v => Lin.tinfo fun i => Lin.need fun _ => (h _ _).eq fun k => by rw [fcells_eq, lenK_eq, snoc_eq]
  · refine Lin.tinfo fun i => ?_
    split
    · exact Lin.need fun _ => Lin.withParts fun vs => Lin.fillX fun cs => h _ _
    · exact Lin.bad _
  · refine Lin.tinfo fun i => ?_
    split
    · exact Lin.tinfo fun u => Lin.withParts fun vs => Lin.need fun _ => Lin.elsX fun es h' => (h _ _).eq fun k => by rw [frows_eq, lenK_eq, snoc_eq]
    · exact Lin.bad _
  · exact Lin.withO fun v => Lin.loadX fun v => h _ _
  · exact Lin.withO fun v => Lin.withO fun u => Lin.storeX fun h' => h _ _
  · exact Lin.withO fun v => Lin.fieldAddrX fun v => h _ _
  · exact Lin.withO fun v => Lin.fieldX fun v => h _ _
  · exact Lin.withO fun v => Lin.withO fun u => Lin.indexAddrX fun v => h _ _
  · exact Lin.withO fun v => Lin.withO fun u => Lin.indexX fun v => h _ _
  · exact Lin.withO fun v => Lin.withO fun u => Lin.binX fun v => h _ _
  · exact Lin.withO fun v => Lin.unX fun v => h _ _
  · exact Lin.withO fun v => Lin.convX h
  · exact Lin.withO fun v => Lin.withOO fun l => Lin.withOO fun r => Lin.sliceP h
  · refine Lin.withO fun n => Lin.withO fun m => ?_
    split
    · refine Lin.tinfo fun i => ?_
      split
      · exact Lin.tinfo fun u => Lin.need fun _ => Lin.need fun _ => (h _ _).eq fun k => by rw [frows_eq, lenK_eq, snoc_eq]
      · exact Lin.bad _
    · exact Lin.bad _
  · refine Lin.need fun _ => Lin.withOs fun vs => ?_
    split
    · exact h _ _
    · exact h _ _
  · refine Lin.tinfo fun i => ?_
    split
    · exact Lin.bad _
    · exact Lin.withO fun v => h _ _
  · refine Lin.withO fun v => ?_
    repeat' first | exact Lin.bad _ | exact h _ _ | split
  · refine Lin.withO fun v => ?_
    repeat' first | exact Lin.bad _ | exact h _ _ | split
  · exact Lin.bad _

mutual
theorem Lin.shutV : ∀ (p : PV) {hp : List AB} {F : PV → List AB → (α → Prop) → Prop}, (∀ v h, Lin (F v h)) → Lin fun k => shutV md p hp fun v h => F v h k
  | .row i n, hp, F, h => by simp only [Eng.shutV]; exact Lin.frz fun x h' => h _ _
  | .agg cs, hp, F, h => by simp only [Eng.shutV]; exact Lin.shutL cs fun x h' => h _ _
  | .tup cs, hp, F, h => by simp only [Eng.shutV]; exact Lin.shutL cs fun x h' => h _ _
  | .d x, hp, F, h => by simp only [Eng.shutV]; exact h _ _
  | .undef, hp, F, h => by simp only [Eng.shutV]; exact h _ _
  | .box i o, hp, F, h => by simp only [Eng.shutV]; exact h _ _
  | .elem cs, hp, F, h => by simp only [Eng.shutV]; exact h _ _
  | .rowel i n j o, hp, F, h => by simp only [Eng.shutV]; exact h _ _
  | .clo f cs, hp, F, h => by simp only [Eng.shutV]; exact h _ _
  | .ifc t c, hp, F, h => by simp only [Eng.shutV]; exact Lin.shutV c fun x h' => h _ _
theorem Lin.shutL : ∀ (cs : List PV) {hp : List AB} {F : List PV → List AB → (α → Prop) → Prop}, (∀ v h, Lin (F v h)) → Lin fun k => shutL md cs hp fun v h => F v h k
  | [], hp, F, h => by simp only [Eng.shutL]; exact h _ _
  | c :: cs, hp, F, h => by
    simp only [Eng.shutL]
    exact Lin.shutV c (F := fun v h k => Eng.shutL md cs h fun r h => F (v :: r) h k) fun v h' => Lin.shutL cs (F := fun r h k => F (v :: r) h k) fun r h' => h _ _
end
theorem Lin.settleL : ∀ (cs : List PV) {hp : List AB} {F : List PV → List AB → (α → Prop) → Prop}, (∀ v h, Lin (F v h)) → Lin fun k => settleL md cs hp fun v h => F v h k
  | [], hp, F, h => by unfold Eng.settleL; exact h _ _
  | c :: cs, hp, F, h => by
    cases c with
    | agg ds => exact Lin.shutV _ (F := fun v h k => Eng.settleL md cs h fun r h => F (v :: r) h k) fun v h' => Lin.settleL cs (F := fun r h k => F (v :: r) h k) fun r h' => h _ _
    | _ => exact Lin.settleL cs (F := fun r h k => F (_ :: r) h k) fun r h' => h _ _
theorem Lin.settle {hp : List AB} {p : PV} {F : PV → List AB → (α → Prop) → Prop} (h : ∀ v h, Lin (F v h)) : Lin fun k => settle md hp p fun v h => F v h k := by
  unfold Eng.settle
  split
  · exact Lin.shutV _ h
  · exact Lin.settleL _ fun cs h' => h _ _
  · exact h _ _
theorem Lin.trim {n : Nat} {r : PV} {hp : List AB} {F : PV → List AB → (α → Prop) → Prop} (h : ∀ v h, Lin (F v h)) : Lin fun k => trim n r hp fun v h => F v h k := by
  unfold Eng.trim
  cases hb : (r.under n && abelow n (hp.take n))
  · exact (h r hp).eq fun k => by rw [takeK_eq, hb]
  · exact (h r (hp.take n)).eq fun k => by rw [takeK_eq, hb]
theorem Lin.resultsX {c : Bool} {hp : List AB} {slots : List (Option PV)} : ∀ {rs : List ResultVar} {F : List PV → (α → Prop) → Prop}, (∀ v, Lin (F v)) → Lin fun k => resultsX Γ c hp slots rs fun v => F v k
  | [], F, h => h _
  | .tmp t :: r, F, h => by
    unfold Eng.resultsX
    split
    · exact Lin.resultsX (F := fun vs k => F (_ :: vs) k) fun vs => h _
    · exact Lin.bad _
  | .cell a T :: r, F, h => by
    unfold Eng.resultsX
    split
    · exact Lin.loadX fun v => Lin.resultsX (F := fun vs k => F (v :: vs) k) fun vs => h _
    · exact Lin.bad _
theorem Lin.oneOrTup {vs : List PV} {F : PV → (α → Prop) → Prop} (h : ∀ v, Lin (F v)) : Lin fun k => oneOrTup vs fun v => F v k := by
  unfold Eng.oneOrTup
  split
  · exact h _
  · exact h _
theorem Lin.guardX {all : List Oper} {slots : List (Option PV)} {g : Option (Nat × Bool)} {F G : List (Option PV) → (α → Prop) → Prop} (hF : ∀ s, Lin (F s)) (hG : ∀ s, Lin (G s)) : Lin fun k => guardX md all slots g (fun s => F s k) (fun s => G s k) := by
  unfold Eng.guardX
  split
  · exact hF _
  · split
    · split
      · split
        case h_2 => exact Lin.bad _
        split
        · refine Lin.splitB fun b => ?_
          cases hb : (b == _)
          · exact (hG _).eq fun k => by rw [upd_eq]
          · exact (hF _).eq fun k => by rw [upd_eq]
        · split
          · exact hF _
          · exact hG _
        · split
          · exact hG _
          · exact Lin.bad _
      · exact Lin.bad _
    · exact Lin.bad _
theorem Lin.putX {c : Bool} {slots : List (Option PV)} {dst : Option Nat} {v : PV} {F : List (Option PV) → (α → Prop) → Prop} (h : ∀ s, Lin (F s)) : Lin fun k => putX c slots dst v fun s => F s k := by
  unfold Eng.putX
  split
  · exact Lin.need fun _ => (h _).eq fun k => by rw [fpv_eq, upd_eq]
  · exact h _
theorem Lin.maskX {o : Oper} {i : Nat} : ∀ {heads : List Oper} {j : Nat} {slots : List (Option PV)} {F : List (Option PV) → (α → Prop) → Prop}, (∀ s, Lin (F s)) → Lin fun k => maskX o i j heads slots fun s => F s k
  | [], j, slots, F, h => h _
  | p :: r, j, slots, F, h => by
    unfold Eng.maskX
    split
    · exact Lin.maskX h
    · split
      · exact Lin.maskX h
      · exact (Lin.maskX h).eq fun k => by rw [upd_eq]

/-! ### callers -/
/-- a caller that comes to one thing alone -/
structure CallLin (call : CallF) (pcall : PureF) : Prop where
  call : ∀ f ps h, Lin fun k : (PV × List AB) ⊕ (PV × List AB) → Prop => call f ps h (fun v h => k (.inl (v, h))) (fun v h => k (.inr (v, h)))
  pcall : ∀ f ps, Lin (pcall f ps)

theorem CallLin.at {call : CallF} {pcall : PureF} (hl : CallLin call pcall) {f : Nat} {ps : List PV} {hp : List AB} {F G : PV → List AB → (α → Prop) → Prop} (hF : ∀ v h, Lin (F v h)) (hG : ∀ v h, Lin (G v h)) :
    Lin fun k => call f ps hp (fun v h => F v h k) (fun v h => G v h k) := fun k hk => by
  obtain ⟨x, h1, h2⟩ := hl.call f ps hp (fun x => match x with | .inl (v, h) => F v h k | .inr (v, h) => G v h k) hk
  rcases x with ⟨v, h⟩ | ⟨v, h⟩
  · obtain ⟨y, g1, g2⟩ := hF v h k h1
    exact ⟨y, g1, fun k' hk' => h2 (fun x => match x with | .inl (v, h) => F v h k' | .inr (v, h) => G v h k') (g2 k' hk')⟩
  · obtain ⟨y, g1, g2⟩ := hG v h k h1
    exact ⟨y, g1, fun k' hk' => h2 (fun x => match x with | .inl (v, h) => F v h k' | .inr (v, h) => G v h k') (g2 k' hk')⟩
theorem CallLin.atP {call : CallF} {pcall : PureF} (hl : CallLin call pcall) {f : Nat} {ps : List PV} {F : PV → (α → Prop) → Prop} (hF : ∀ v, Lin (F v)) : Lin fun k => pcall f ps fun v => F v k := fun k hk => by
  obtain ⟨x, h1, h2⟩ := hl.pcall f ps _ hk
  obtain ⟨y, g1, g2⟩ := hF x k h1
  exact ⟨y, g1, fun k' hk' => h2 _ (g2 k' hk')⟩

variable {call : CallF} {pcall : PureF}
theorem Lin.callX (hl : CallLin call pcall) {f : Nat} {ps : List PV} {hp : List AB} {F G : PV → List AB → (α → Prop) → Prop} (hF : ∀ v h, Lin (F v h)) (hG : ∀ v h, Lin (G v h)) :
    Lin fun k => callX Γ md call pcall f ps hp (fun v h => F v h k) (fun v h => G v h k) := by
  unfold Eng.callX
  split
  · exact Lin.shutL _ fun vs h' => Lin.need fun _ => hl.atP fun v => hF _ _
  · exact hl.at hF hG
theorem Lin.opV (hl : CallLin call pcall) {c : Bool} {slots : List (Option PV)} {hp : List AB} {o : Oper} {F G : PV → List AB → (α → Prop) → Prop} (hF : ∀ v h, Lin (F v h)) (hG : ∀ v h, Lin (G v h)) :
    Lin fun k => opV Γ c call pcall slots hp o (fun v h => F v h k) (fun v h => G v h k) := by
  unfold Eng.opV
  split
  · refine Lin.withOs fun vs => ?_
    split
    · exact Lin.builtinX hF
    · refine Lin.withO fun fv => ?_
      split
      · exact Lin.callX hl hF hG
      · exact (Lin.callX hl hF hG).eq fun k => by rw [spine_eq]
      · exact Lin.bad _
    · exact Lin.bad _
  · exact Lin.pureX hF
theorem Lin.opsX (hl : CallLin call pcall) {c : Bool} {all : List Oper} : ∀ {l : List Oper} {slots : List (Option PV)} {hp : List AB} {F : AExit → St → (α → Prop) → Prop}, (∀ x s, Lin (F x s)) →
    Lin fun k => opsX Γ c call pcall all l slots hp fun x s => F x s k
  | [], slots, hp, F, h => h _ _
  | o :: r, slots, hp, F, h => Lin.guardX (fun s => Lin.opV hl (fun v h' => Lin.putX fun s => Lin.opsX hl h) (fun v h' => h _ _)) (fun s => Lin.putX fun s => Lin.opsX hl h)
theorem Lin.headX (hp : ∀ f vs, Lin (pcall f vs)) {c : Bool} {all heads : List Oper} : ∀ {l : List Oper} {i : Nat} {slots : List (Option PV)} {hp' : List AB} {F : List (Option PV) → (α → Prop) → Prop}, (∀ o ∈ l, stillB Γ o = true) → (∀ s, Lin (F s)) →
    Lin fun k => headX Γ c pcall all heads i l slots hp' fun s => F s k
  | [], i, slots, hp', F, hs, h => h _
  | o :: r, i, slots, hp', F, hs, h => by
    unfold Eng.headX
    refine Lin.maskX fun ms => Lin.guardX (fun ms => ?_) (fun _ => Lin.putX fun s => Lin.headX hp (fun q hq => hs q (List.mem_cons_of_mem _ hq)) h)
    intro k hk
    obtain ⟨x, h1, h2⟩ := Lin.stillV (c := c) hp (hs o List.mem_cons_self) _ hk
    obtain ⟨y, g1, g2⟩ := (Lin.putX (c := c) (slots := slots) (dst := o.dst) (v := x) fun s => Lin.headX (c := c) (all := all) (heads := heads) (i := i + 1) (hp' := hp') hp (fun q hq => hs q (List.mem_cons_of_mem _ hq)) h) k h1
    exact ⟨y, g1, fun k' hk' => h2 _ (g2 k' hk')⟩
theorem Lin.drawX (hl : CallLin call pcall) {c : Bool} {ops : Array Oper} {slots : List (Option PV)} {hp : List AB} {F : AExit → St → (α → Prop) → Prop} (h : ∀ x s, Lin (F x s)) :
    Lin fun k => drawX Γ c call pcall ops slots hp fun x s => F x s k := by
  unfold Eng.drawX
  refine Lin.need fun _ => Lin.headX hl.pcall (fun o ho => ?_) fun s => Lin.opsX hl h
  obtain ⟨m, hm, rfl⟩ := List.getElem_of_mem ho
  exact (takeWhile_get _ _ _ _ (List.getElem?_eq_getElem hm)).2

/-- code that comes to one thing alone -/
def CodeLin (rec : CodeF) : Prop := ∀ m cd st, Lin fun k : AExit × St → Prop => rec m cd st fun x s => k (x, s)
theorem CodeLin.at {rec : CodeF} (hl : CodeLin rec) {m : Around} {cd : Code} {st : St} {F : AExit → St → (α → Prop) → Prop} (hF : ∀ x s, Lin (F x s)) : Lin fun k => rec m cd st fun x s => F x s k := fun k hk => by
  obtain ⟨⟨x, s⟩, h1, h2⟩ := hl m cd st (fun p => F p.1 p.2 k) hk
  obtain ⟨y, g1, g2⟩ := hF x s k h1
  exact ⟨y, g1, fun k' hk' => h2 (fun p => F p.1 p.2 k') (g2 k' hk')⟩

theorem Lin.enterX {rec : CodeF} (hl : CodeLin rec) {c : Bool} {f : Nat} {ps : List PV} {hp : List AB} {F G : PV → List AB → (α → Prop) → Prop} (hF : ∀ v h, Lin (F v h)) (hG : ∀ v h, Lin (G v h)) :
    Lin fun k => enterX Γ c rec f ps hp (fun v h => F v h k) (fun v h => G v h k) := by
  unfold Eng.enterX
  split
  · split
    · refine Lin.eq (G := fun k => rec .plain _ ⟨entry _ ps, hp⟩ fun x st => _) ?_ (fun k => by rw [lenK_eq, spine_eq])
      refine hl.at fun x st => ?_
      obtain ⟨s, h'⟩ := st
      cases x
      · exact Lin.resultsX fun vs => Lin.oneOrTup fun r => Lin.settle fun r h => Lin.trim hF
      · exact Lin.bad _
      · exact Lin.bad _
      · exact Lin.resultsX fun vs => Lin.oneOrTup fun r => Lin.settle fun r h => Lin.trim hF
      · exact hG _ _
    · exact Lin.bad _
  · exact Lin.bad _
theorem callLin_enter {rec : CodeF} (hl : CodeLin rec) {c : Bool} : CallLin (enterX Γ c rec) (enterP Γ c rec) := by
  refine ⟨fun f ps h => ?_, fun f ps => ?_⟩
  · have := Lin.enterX (Γ := Γ) (α := (PV × List AB) ⊕ (PV × List AB)) hl (c := c) (f := f) (ps := ps) (hp := h) (F := fun v h k => k (.inl (v, h))) (G := fun v h k => k (.inr (v, h))) (fun v h => Lin.ret (Sum.inl (v, h))) (fun v h => Lin.ret (Sum.inr (v, h)))
    exact this
  · have key : ∀ n, Lin fun k : PV → Prop => Eng.enterX Γ c rec f ps [] (fun v h => Eng.shutV c v h fun v _ => Eng.need c (v.under 0) (k v)) (fun _ _ => Bad n) := fun n => by
      have := Lin.enterX (Γ := Γ) (α := PV) hl (c := c) (f := f) (ps := ps) (hp := []) (F := fun v h k => Eng.shutV c v h fun v _ => Eng.need c (v.under 0) (k v)) (G := fun v h k => Bad n) (fun v h => Lin.shutV v fun v h => Lin.need fun _ => Lin.ret v) (fun v h => Lin.bad n)
      exact this
    exact key _

theorem codeLin_step {rec : CodeF} (hl : CodeLin rec) {L : Leaves} (hL : ∀ cd st, Lin fun k : AExit × St → Prop => L.code cd (fun x s => k (x, s)) st) : CodeLin (codeStep Γ true L rec) := by
  intro m cd st
  have hce := callLin_enter (Γ := Γ) hl (c := true)
  cases m with
  | plain =>
    cases cd with
    | skip => exact Lin.ret (AExit.normal, st)
    | label => exact Lin.ret (AExit.normal, st)
    | seq a b =>
      refine hl.at (F := fun x st k => _) fun x st => ?_
      cases x
      · exact hl.at (F := fun x s k => k (x, s)) fun x s => Lin.ret _
      all_goals exact Lin.ret _
    | cond b x y =>
      refine Lin.withO fun v => ?_
      split
      · refine Lin.splitB fun t => ?_
        cases t
        · exact hl.at (F := fun x s k => k (x, s)) fun x s => Lin.ret _
        · exact hl.at (F := fun x s k => k (x, s)) fun x s => Lin.ret _
      · split
        · exact hl.at (F := fun x s k => k (x, s)) fun x s => Lin.ret _
        · exact hl.at (F := fun x s k => k (x, s)) fun x s => Lin.ret _
      · exact Lin.bad _
    | block id b =>
      refine hl.at (F := fun x st k => _) fun x st => ?_
      cases x
      case exit i =>
        cases hb : Nat.beq i id
        · exact (Lin.ret (AExit.exit i, st)).eq fun k => by simp only [hb]
        · exact (Lin.ret (AExit.normal, st)).eq fun k => by simp only [hb]
      all_goals exact Lin.ret _
    | exit id => exact Lin.ret (AExit.exit id, st)
    | ret => exact Lin.ret (AExit.ret, st)
    | goto l => exact Lin.ret (AExit.goto l, st)
    | scope b => exact hl.at (F := fun x s k => k (x, s)) fun x s => Lin.ret _
    | region id ops dr =>
      obtain ⟨s, h⟩ := st
      cases dr
      · exact Lin.opsX hce (F := fun x s k => k (x, s)) fun x s => Lin.ret _
      · exact Lin.drawX hce (F := fun x s k => k (x, s)) fun x s => Lin.ret _
    | loop b => exact hl.at (F := fun x s k => k (x, s)) fun x s => Lin.ret _
    | _ => exact hL _ _
  | scope b =>
    refine hl.at (F := fun x st k => _) fun x st => ?_
    cases x
    case goto l =>
      cases hb : findLabel b l with
      | none => exact (Lin.ret (AExit.goto l, st)).eq fun k => by simp only [hb]
      | some rest => exact (hl.at (m := .scope b) (cd := rest) (st := st) (F := fun x s k => k (x, s)) fun x s => Lin.ret _).eq fun k => by simp only [hb]
    all_goals exact Lin.ret _
  | loop b =>
    refine hl.at (F := fun x st k => _) fun x st => ?_
    cases x
    · exact hl.at (F := fun x s k => k (x, s)) fun x s => Lin.ret _
    all_goals exact Lin.ret _

end
end Go.Proofs.Ytepgblhhajdmoaa.Eng
