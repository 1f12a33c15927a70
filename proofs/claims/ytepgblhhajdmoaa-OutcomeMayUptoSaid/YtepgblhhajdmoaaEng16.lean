/-
  THE ENGINE, part 16: what neither asks nor turns memory comes to one value alone.
-/
import Derived.Test.YtepgblhhajdmoaaEng15
set_option linter.unusedVariables false
set_option linter.unusedSimpArgs false
namespace Go.Proofs.Ytepgblhhajdmoaa.Eng
open Go

/-- it hands on one thing, whoever asks -/
def Lin {α : Type} (F : (α → Prop) → Prop) : Prop := ∀ k, F k → ∃ x, k x ∧ ∀ k' : α → Prop, k' x → F k'

section
variable {α β : Type} {Γ : Ctx} {md : Bool}
theorem Lin.ret (x : α) : Lin fun k : α → Prop => k x := fun k h => ⟨x, h, fun _ h => h⟩
theorem Lin.bad (n : Nat) : Lin fun k : α → Prop => Bad n := fun k h => h.elim
theorem Lin.badO (x : Operand) : Lin fun k : α → Prop => BadO x := fun k h => h.elim
theorem Lin.need {b : Bool} {F : (α → Prop) → Prop} (h : b = true → Lin F) : Lin fun k => need md b (F k) := fun k hk => by
  obtain ⟨h1, h2⟩ := (need_iff _ _).1 hk
  obtain ⟨x, g1, g2⟩ := h h1 k h2
  exact ⟨x, g1, fun k' hk' => (need_iff _ _).2 ⟨h1, g2 k' hk'⟩⟩
theorem Lin.tinfo {t : Nat} {F : TI → (α → Prop) → Prop} (h : ∀ i, Lin (F i)) : Lin fun k => tinfo Γ t fun i => F i k := by
  unfold Eng.tinfo
  cases assoc Γ.tt t with
  | none => exact Lin.bad _
  | some i => exact h i
theorem Lin.withO {slots : List (Option PV)} {x : Operand} {F : PV → (α → Prop) → Prop} (h : ∀ v, Lin (F v)) : Lin fun k => withO Γ slots x fun v => F v k := by
  unfold Eng.withO
  cases evalO Γ slots x with
  | none => exact Lin.badO _
  | some v => exact h v
theorem Lin.withOs {slots : List (Option PV)} : ∀ {xs : List Operand} {F : List PV → (α → Prop) → Prop}, (∀ vs, Lin (F vs)) → Lin fun k => withOs Γ slots xs fun vs => F vs k
  | [], F, h => h []
  | x :: r, F, h => Lin.withO fun v => Lin.withOs (F := fun vs k => F (v :: vs) k) fun vs => h (v :: vs)
theorem Lin.withOO {slots : List (Option PV)} {o : Option Operand} {F : Option PV → (α → Prop) → Prop} (h : ∀ v, Lin (F v)) : Lin fun k => withOO Γ slots o fun v => F v k := by
  cases o with
  | none => exact h none
  | some x => exact Lin.withO (F := fun v k => F (some v) k) fun v => h (some v)
theorem Lin.splitB {b : Bool} {F : Bool → (α → Prop) → Prop} (h : ∀ b, Lin (F b)) : Lin fun k => splitB md b fun b => F b k := by
  have : (fun k => Eng.splitB md b fun b => F b k) = F b := by funext k; rw [splitB_eq]
  rw [this]; exact h b
theorem Lin.bound {o : Option PV} {d : Int} {F : Int → (α → Prop) → Prop} (h : ∀ n, Lin (F n)) : Lin fun k => bound o d fun n => F n k := by
  unfold Eng.bound
  split
  · exact h _
  · split
    · exact h _
    · exact Lin.bad _
theorem Lin.elems {hp : List AB} {v : PV} {F : Nat → List (List DV) → (α → Prop) → Prop} (h : ∀ n es, Lin (F n es)) : Lin fun k => elems md hp v fun n es => F n es k := by
  unfold Eng.elems
  split
  · exact h _ _
  · exact h _ _
  · split
    · exact Lin.need fun _ => h _ _
    · exact Lin.need fun _ => h _ _
    · exact Lin.bad _
  · exact Lin.bad _
theorem Lin.fcells {c : Bool} {cs : List PV} {F : List PV → (α → Prop) → Prop} (h : ∀ cs, Lin (F cs)) : Lin fun k => fcells c cs fun cs => F cs k := by
  have : (fun k => Eng.fcells c cs fun cs => F cs k) = F cs := by funext k; rw [fcells_eq]
  rw [this]; exact h cs

theorem Lin.finX {c : Bool} {i : TI} {cs : List PV} {F : PV → (α → Prop) → Prop} (h : ∀ v, Lin (F v)) : Lin fun k => finX c i cs fun v => F v k := by
  unfold Eng.finX
  refine Lin.need fun _ => ?_
  split
  · exact Lin.fcells (F := fun cs k => F (.agg cs) k) fun cs => h _
  · exact Lin.fcells (F := fun cs k => F (.agg cs) k) fun cs => h _
  · split
    · exact h _
    · exact Lin.bad _
theorem Lin.elemAt {t : Nat} {es : List (List DV)} {n : Nat} {F : List DV → (α → Prop) → Prop} (h : ∀ e, Lin (F e)) : Lin fun k => elemAt Γ md t es n fun e => F e k := by
  unfold Eng.elemAt
  split
  · split
    · exact h _
    · exact Lin.bad _
  · split
    · exact Lin.need fun _ => h _
    · exact Lin.bad _
theorem Lin.loadX {c : Bool} {hp : List AB} {T : Nat} {a : PV} {F : PV → (α → Prop) → Prop} (h : ∀ v, Lin (F v)) : Lin fun k => loadX Γ c hp T a fun v => F v k := by
  unfold Eng.loadX
  refine Lin.tinfo fun i => ?_
  split
  · split
    · exact Lin.finX h
    · exact Lin.bad _
  · exact Lin.finX h
  · split
    · exact Lin.need fun _ => Lin.elemAt fun e => Lin.finX h
    · exact Lin.need fun _ => Lin.elemAt fun e => Lin.finX h
    · exact Lin.bad _
  · exact Lin.bad _

theorem Lin.fieldAddrX {T f : Nat} {a : PV} {F : PV → (α → Prop) → Prop} (h : ∀ v, Lin (F v)) : Lin fun k => fieldAddrX Γ md T a f fun v => F v k := by
  unfold Eng.fieldAddrX
  refine Lin.tinfo fun i => ?_
  repeat' first | exact Lin.bad _ | exact h _ | (refine Lin.need fun _ => ?_) | (refine Lin.tinfo fun _ => ?_) | split
theorem Lin.part {c : Bool} {i : TI} {cs : List PV} {off : Nat} {F : PV → (α → Prop) → Prop} (h : ∀ v, Lin (F v)) : Lin fun k => part c i cs off fun v => F v k := by
  unfold Eng.part
  split
  · exact Lin.fcells (F := fun cs k => F (.agg cs) k) fun cs => h _
  · exact Lin.fcells (F := fun cs k => F (.agg cs) k) fun cs => h _
  · split
    · exact h _
    · exact Lin.bad _
theorem Lin.fieldX {c : Bool} {T f : Nat} {a : PV} {F : PV → (α → Prop) → Prop} (h : ∀ v, Lin (F v)) : Lin fun k => fieldX Γ c T a f fun v => F v k := by
  unfold Eng.fieldX
  refine Lin.tinfo fun i => ?_
  repeat' first | exact Lin.bad _ | exact Lin.part h | (refine Lin.need fun _ => ?_) | (refine Lin.tinfo fun _ => ?_) | split
theorem Lin.indexAddrX {hp : List AB} {T : Nat} {a b : PV} {F : PV → (α → Prop) → Prop} (h : ∀ v, Lin (F v)) : Lin fun k => indexAddrX Γ md hp T a b fun v => F v k := by
  unfold Eng.indexAddrX
  repeat' first | exact Lin.bad _ | exact h _ | (refine Lin.elemAt fun _ => ?_) | (refine Lin.need fun _ => ?_) | (refine Lin.tinfo fun _ => ?_) | split
theorem Lin.indexX {c : Bool} {T : Nat} {a b : PV} {F : PV → (α → Prop) → Prop} (h : ∀ v, Lin (F v)) : Lin fun k => indexX Γ c T a b fun v => F v k := by
  unfold Eng.indexX
  repeat' first | exact Lin.bad _ | exact h _ | exact Lin.part h | (refine Lin.need fun _ => ?_) | (refine Lin.tinfo fun _ => ?_) | split
theorem Lin.intX {kn : Bool} {op : BinOp} {kd : IntKind} {x y : Int} {F : PV → (α → Prop) → Prop} (h : ∀ v, Lin (F v)) : Lin fun k => intX md kn op kd x y fun v => F v k := by
  unfold Eng.intX
  repeat' first | exact Lin.bad _ | exact h _ | (refine Lin.need fun _ => ?_) | split
theorem Lin.strX {op : BinOp} {x y : List UInt8} {F : PV → (α → Prop) → Prop} (h : ∀ v, Lin (F v)) : Lin fun k => strX md op x y fun v => F v k := by
  unfold Eng.strX
  repeat' first | exact Lin.bad _ | exact h _ | (refine Lin.need fun _ => ?_) | split
theorem Lin.cellsEq : ∀ {fs : List (Nat × Nat)} {n : Nat} {x y : List PV} {F : Bool → (α → Prop) → Prop}, (∀ v, Lin (F v)) → Lin fun k => cellsEq Γ md n fs x y fun v => F v k
  | [], n, [], [], F, h => by unfold Eng.cellsEq; exact h _
  | [], n, [], _ :: _, F, h => by unfold Eng.cellsEq; exact Lin.bad _
  | [], n, _ :: _, _, F, h => by unfold Eng.cellsEq; exact Lin.bad _
  | (off, U) :: fs, n, [], _, F, h => by unfold Eng.cellsEq; exact Lin.bad _
  | (off, U) :: fs, n, _ :: _, [], F, h => by unfold Eng.cellsEq; exact Lin.bad _
  | (off, U) :: fs, n, a :: x, b :: y, F, h => by
    unfold Eng.cellsEq
    refine Lin.need fun _ => Lin.tinfo fun u => ?_
    split
    · exact Lin.need fun _ => Lin.cellsEq fun r => h _
    · exact Lin.cellsEq fun r => h _
    · exact Lin.cellsEq fun r => h _
    · exact Lin.bad _
theorem Lin.eqX {T : Nat} {x y : PV} {F : Bool → Bool → (α → Prop) → Prop} (h : ∀ kn v, Lin (F kn v)) : Lin fun k => eqX Γ md T x y fun kn v => F kn v k := by
  unfold Eng.eqX
  refine Lin.tinfo fun u => ?_
  repeat' first | exact Lin.bad _ | exact h _ _ | exact Lin.cellsEq (F := F false) (h false) | (refine Lin.need fun _ => ?_) | split
theorem Lin.binX {op : BinOp} {T : Nat} {x y : PV} {F : PV → (α → Prop) → Prop} (h : ∀ v, Lin (F v)) : Lin fun k => binX Γ md op T x y fun v => F v k := by
  unfold Eng.binX
  repeat' first | exact Lin.bad _ | exact h _ | exact Lin.intX h | exact Lin.strX h | exact Lin.eqX (F := fun kn b k => F (.d (mkB kn b)) k) (fun kn b => h _) | exact Lin.eqX (F := fun kn b k => F (.d (mkB kn (!b))) k) (fun kn b => h _) | (refine Lin.need fun _ => ?_) | split
theorem Lin.unX {op : UnOp} {x : PV} {F : PV → (α → Prop) → Prop} (h : ∀ v, Lin (F v)) : Lin fun k => unX op x fun v => F v k := by
  unfold Eng.unX
  repeat' first | exact Lin.bad _ | exact h _ | split
theorem Lin.convX {hp : List AB} {s t : Nat} {x : PV} {F : PV → List AB → (α → Prop) → Prop} (h : ∀ v h, Lin (F v h)) : Lin fun k => convX Γ md hp s t x fun v h => F v h k := by
  unfold Eng.convX
  refine Lin.tinfo fun _ => Lin.tinfo fun _ => ?_
  repeat' first | exact Lin.bad _ | exact h _ _ | (refine Lin.need fun _ => ?_) | (refine Lin.tinfo fun _ => ?_) | (refine Lin.elems fun _ _ => ?_) | split
theorem Lin.lenX {hp : List AB} {T : Nat} {x : PV} {F : PV → (α → Prop) → Prop} (h : ∀ v, Lin (F v)) : Lin fun k => lenX Γ md hp T x fun v => F v k := by
  unfold Eng.lenX
  refine Lin.tinfo fun _ => ?_
  repeat' first | exact Lin.bad _ | exact h _ | (refine Lin.elems fun _ _ => ?_) | split
theorem Lin.sliceX {hp : List AB} {T : Nat} {x : DV} {lo hi : Option PV} {F : PV → List AB → (α → Prop) → Prop} (h : ∀ v h, Lin (F v h)) : Lin fun k => sliceX Γ md hp T (.d x) lo hi fun v h => F v h k := by
  unfold Eng.sliceX
  refine Lin.tinfo fun i => Lin.bound fun _ => ?_
  generalize i.kind = kd
  cases kd <;> cases x <;> simp only [frz]
  repeat' first | exact Lin.bad _ | exact h _ _ | (refine Lin.need fun _ => ?_) | (refine Lin.tinfo fun _ => ?_) | (refine Lin.bound fun _ => ?_) | split

theorem Lin.thawL {hp : List AB} : ∀ {vs : List PV} {F : List PV → (α → Prop) → Prop}, (∀ v, Lin (F v)) → Lin fun k => thawL md hp vs fun v => F v k
  | [], F, h => h []
  | v :: r, F, h => by
    cases v with
    | row i n =>
      unfold Eng.thawL
      split
      · exact Lin.need fun _ => Lin.thawL (F := fun r k => F (_ :: r) k) fun r => h _
      · exact Lin.bad _
    | _ => exact Lin.need fun _ => Lin.thawL (F := fun r k => F (_ :: r) k) fun r => h _

theorem Lin.stillV {c : Bool} {pcall : PureF} (hp : ∀ f vs, Lin (pcall f vs)) {slots : List (Option PV)} {heap : List AB} {o : Oper} (ho : stillB Γ o = true) : Lin (stillV Γ c pcall slots heap o) := by
  obtain ⟨dst, op, ty, pos, after, guard⟩ := o
  cases op <;> simp only [stillB] at ho <;> (try (cases ho; done)) <;> show Lin (fun kt => Eng.stillV Γ c pcall slots heap _ kt) <;> simp only [Eng.stillV, pureX]
  case move => exact Lin.withO fun v => Lin.ret _
  case assign => exact Lin.withO fun v => Lin.ret _
  case pick =>
    refine Lin.withO fun v => ?_
    split
    · refine Lin.splitB fun b => ?_
      cases b
      · exact Lin.withO fun v => Lin.ret _
      · exact Lin.withO fun v => Lin.ret _
    · split
      · exact Lin.withO fun v => Lin.ret _
      · exact Lin.withO fun v => Lin.ret _
    · exact Lin.bad _
  case load => exact Lin.withO fun v => Lin.loadX fun v => Lin.ret _
  case fieldAddr => exact Lin.withO fun v => Lin.fieldAddrX fun v => Lin.ret _
  case field => exact Lin.withO fun v => Lin.fieldX fun v => Lin.ret _
  case indexAddr => exact Lin.withO fun v => Lin.withO fun v => Lin.indexAddrX fun v => Lin.ret _
  case index => exact Lin.withO fun v => Lin.withO fun v => Lin.indexX fun v => Lin.ret _
  case binOp => exact Lin.withO fun v => Lin.withO fun v => Lin.binX fun v => Lin.ret _
  case unOp => exact Lin.withO fun v => Lin.unX fun v => Lin.ret _
  case convert => exact Lin.withO fun v => Lin.convX fun v h => Lin.ret _
  case slice lo hi mx =>
    cases mx with
    | some m => cases ho
    | none =>
      refine Lin.withO fun v => Lin.withOO fun l => Lin.withOO fun r => Lin.thawL fun xs => ?_
      split
      · exact Lin.sliceX fun v h => Lin.ret _
      · exact Lin.bad _
  case makeFunc fn first caps =>
    cases fn with
    | func f =>
      simp only [pureX]
      refine Lin.need fun _ => Lin.withOs fun vs => ?_
      split
      · exact Lin.ret _
      · exact Lin.ret _
    | _ => simp only [pureX]; exact Lin.bad _
  case makeInterface =>
    refine Lin.tinfo fun i => ?_
    split
    · exact Lin.bad _
    · exact Lin.withO fun v => Lin.ret _
  case extract =>
    refine Lin.withO fun v => ?_
    repeat' first | exact Lin.bad _ | exact Lin.ret _ | split
  case nilCheck =>
    refine Lin.withO fun v => ?_
    repeat' first | exact Lin.bad _ | exact Lin.ret _ | split
  case call cl =>
    refine Lin.withOs fun vs => ?_
    split
    · split
      · exact Lin.lenX fun v => Lin.ret _
      · exact Lin.bad _
    · refine Lin.withO fun fv => ?_
      split
      · exact Lin.thawL fun vs => hp _ _
      · exact Lin.thawL fun vs => hp _ _
      · exact Lin.bad _
    · exact Lin.bad _

end
end Go.Proofs.Ytepgblhhajdmoaa.Eng
