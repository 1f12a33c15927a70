/-
  THE ENGINE, part 27: how long what stands in memory can be; values of the type system, as data.
-/
import Derived.Test.YtepgblhhajdmoaaEng26
set_option linter.unusedVariables false
set_option linter.unusedSimpArgs false
namespace Go.Proofs.Ytepgblhhajdmoaa.Eng
open Go

/-- what is asked of a contract's arguments -/
structure NeedP (p : Prop) (k : Prop) : Prop where
  is : p
  then_ : k

def longest : Nat := 9223372036854775807
mutual
def DV.small : DV → Prop
  | .str s => s.length ≤ longest
  | .sl _ es => es.length ≤ longest ∧ smallLL es
  | _ => True
def smallL : List DV → Prop
  | [] => True
  | x :: r => x.small ∧ smallL r
def smallLL : List (List DV) → Prop
  | [] => True
  | x :: r => smallL x ∧ smallLL r
end
theorem smallL_of {l : List DV} (h : ∀ x ∈ l, x.small) : smallL l := by
  induction l with
  | nil => trivial
  | cons x r ih => exact ⟨h x List.mem_cons_self, ih fun y hy => h y (List.mem_cons_of_mem _ hy)⟩
theorem smallLL_of {l : List (List DV)} (h : ∀ x ∈ l, smallL x) : smallLL l := by
  induction l with
  | nil => trivial
  | cons x r ih => exact ⟨h x List.mem_cons_self, ih fun y hy => h y (List.mem_cons_of_mem _ hy)⟩
theorem smallLL_mem {l : List (List DV)} (h : smallLL l) : ∀ x ∈ l, smallL x := by
  induction l with
  | nil => intro x hx; cases hx
  | cons y r ih =>
    intro x hx
    rcases List.mem_cons.1 hx with rfl | hx
    · exact h.1
    · exact ih h.2 x hx
theorem RepD.small {K : Nat → Prop} {w : World} {v : Value} {d : DV} (h : RepD K w v d) : d.small := by
  induction h with
  | str s h =>
    show s.data.toList.length ≤ longest
    rw [Array.length_toList]; exact h
  | sl A n c sz es vals hn hc hm hA hs hr ih =>
    refine ⟨by rw [hn]; exact hm, smallLL_of fun x hx => smallL_of fun y hy => ?_⟩
    obtain ⟨j, hj, rfl⟩ := List.getElem_of_mem hx
    obtain ⟨k, hk, rfl⟩ := List.getElem_of_mem hy
    exact ih j _ k _ (List.getElem?_eq_getElem hj) (List.getElem?_eq_getElem hk)
  | _ => trivial
def PV.smallA : PV → Prop
  | .d x => x.small
  | .agg cs => ∀ x, .d x ∈ cs → x.small
  | _ => True
def AB.small : AB → Prop
  | .box _ cs => ∀ x, .d x ∈ cs → x.small
  | .row _ _ xs => xs.length ≤ longest ∧ smallLL xs
  | .froz _ _ xs => xs.length ≤ longest ∧ smallLL xs
  | .dead => True

section
variable {Γ : Ctx} {P : Program} {n0 : Nat} {E E' : Env} {w w' : World} {h : List AB} {a : Act}
theorem Rep.smallA {v : Value} {p : PV} (h : Rep E w v p) : p.smallA := by
  cases h with
  | d h => exact h.small
  | agg vs cs hl h1 hr =>
    intro x hx
    obtain ⟨i, hi, he⟩ := List.getElem_of_mem hx
    have := hr i vs[i] _ (Array.getElem?_eq_getElem (by omega)) (List.getElem?_eq_getElem hi)
    rw [he] at this
    generalize vs[i] = u at this
    cases this with | d h => exact h.small
  | _ => trivial
theorem HeapRel.small (hh : HeapRel Γ E h w) : ∀ ab ∈ h, ab.small := by
  intro ab hab
  obtain ⟨i, hi, rfl⟩ := List.getElem_of_mem hab
  have ha := hh.at_ i _ (List.getElem?_eq_getElem hi)
  generalize h[i] = ab at ha
  cases ab with
  | box T cs =>
    obtain ⟨vals, a1, a2, a3, a4⟩ := ha
    intro x hx
    obtain ⟨j, hj, he⟩ := List.getElem_of_mem hx
    have := a4 j vals[j] _ (Array.getElem?_eq_getElem (by omega)) (List.getElem?_eq_getElem hj)
    rw [he] at this
    generalize vals[j] = u at this
    cases this with | d h => exact h.small
  | row T sz xs =>
    obtain ⟨e1, e2, e3, e4, vals, ho, hr⟩ := ha
    have hr1 := ho.1
    refine ⟨?_, smallLL_of fun x hx => smallL_of fun y hy => ?_⟩
    · rcases ho.2 with ⟨_, h0⟩ | ⟨g, cap, cur, _, _, _, hcap, hmax, _⟩
      · rw [h0]; exact Nat.zero_le _
      · unfold maxLen at hmax; unfold longest; omega
    · obtain ⟨j, hj, rfl⟩ := List.getElem_of_mem hx
      obtain ⟨k, hk, rfl⟩ := List.getElem_of_mem hy
      have hsz := e4 _ (List.getElem_mem hj)
      have hlt : j * sz + k < vals.length := by
        rw [hr1]
        have : (j + 1) * sz ≤ xs.length * sz := Nat.mul_le_mul_right _ hj
        rw [Nat.succ_mul] at this
        omega
      exact (hr j _ k _ _ (List.getElem?_eq_getElem hj) (List.getElem?_eq_getElem hk) (List.getElem?_eq_getElem hlt)).small
  | froz T sz xs => exact ha.2.2.small
  | dead => trivial

/-- of what is handed over we know how long it may be -/
theorem CallW.assume {f : Nat} {ps : List PV} {kr kp : PV → List AB → Prop} (hk : ∃ fn, P.funcs[f]? = some fn ∧ (fn.name == "runtime.NumGoroutine") = false ∧ fn.body.isSome = true)
    (H : (∀ p ∈ ps, p.smallA) → (∀ ab ∈ h, ab.small) → CallW Γ P f ps h kr kp) : CallW Γ P f ps h kr kp :=
  ⟨hk, fun E w vs hh ha => (H (fun p hp => by
    obtain ⟨i, hi, rfl⟩ := List.getElem_of_mem hp
    exact (ha.2 i (vs[i]'(by rw [ha.1]; exact hi)) _ (Array.getElem?_eq_getElem (by rw [ha.1]; exact hi)) (List.getElem?_eq_getElem hi)).smallA) hh.small).out E w vs hh ha⟩
def knownB (Γ : Ctx) (f : Nat) : Bool := match nth Γ.fns f with
  | some F => F.body.isSome
  | none => false
theorem known_of (hC : CtxOK Γ P) {f : Nat} (h : knownB Γ f = true) : ∃ fn, P.funcs[f]? = some fn ∧ (fn.name == "runtime.NumGoroutine") = false ∧ fn.body.isSome = true := by
  unfold knownB at h
  split at h
  · rename_i F hF
    obtain ⟨h1, h2⟩ := hC.fns f F hF
    exact ⟨F, h1, h2, h⟩
  · cases h
end

/-! ### values -/
inductive V where
  | mk (k n : Int) (t : List UInt8) (kids : List V)
def V.k : V → Int | .mk k _ _ _ => k
def V.n : V → Int | .mk _ n _ _ => n
def V.t : V → List UInt8 | .mk _ _ t _ => t
def V.kids : V → List V | .mk _ _ _ l => l
mutual
def enc : V → List DV
  | .mk k n t l => [.int .u8 k, .int .u64 n, .str t, .sl 4 (encL l)]
def encL : List V → List (List DV)
  | [] => []
  | v :: r => enc v :: encL r
end
mutual
def DV.kidsV : DV → List V
  | .sl _ es => decLL es
  | _ => []
def decLL : List (List DV) → List V
  | [] => []
  | e :: r => decL e :: decLL r
def decL : List DV → V
  | [a, b, c, d] => .mk a.gI b.gI c.gS d.kidsV
  | _ => .mk 0 0 [] []
end
def zeroV : V := .mk 0 0 [] []
/-- a value, as it is handed over -/
def vPV (v : V) : PV := .agg [.d (.int .u8 v.k), .d (.int .u64 v.n), .d (.str v.t), .d (.sl 4 (encL v.kids))]
def dec4 (a b c d : DV) : V := .mk a.gI b.gI c.gS d.kidsV
def nthV (l : List V) (n : Nat) : V := l.getD n zeroV

@[simp] theorem V.eta (v : V) : V.mk v.k v.n v.t v.kids = v := by cases v; rfl
@[simp] theorem V.k_mk (k n : Int) (t : List UInt8) (l : List V) : (V.mk k n t l).k = k := rfl
@[simp] theorem V.n_mk (k n : Int) (t : List UInt8) (l : List V) : (V.mk k n t l).n = n := rfl
@[simp] theorem V.t_mk (k n : Int) (t : List UInt8) (l : List V) : (V.mk k n t l).t = t := rfl
@[simp] theorem V.kids_mk (k n : Int) (t : List UInt8) (l : List V) : (V.mk k n t l).kids = l := rfl
theorem enc_eq (v : V) : enc v = [.int .u8 v.k, .int .u64 v.n, .str v.t, .sl 4 (encL v.kids)] := by cases v; simp only [enc, V.k, V.n, V.t, V.kids]
@[simp] theorem encL_length (l : List V) : (encL l).length = l.length := by
  induction l with
  | nil => rfl
  | cons v r ih => simp only [encL, List.length_cons, ih]
theorem encL_eq (l : List V) : encL l = l.map enc := by
  induction l with
  | nil => rfl
  | cons v r ih => simp only [encL, List.map_cons, ih]
@[simp] theorem encL_nil : encL [] = [] := by simp only [encL]
@[simp] theorem encL_cons (v : V) (r : List V) : encL (v :: r) = enc v :: encL r := by simp only [encL]
@[simp] theorem encL_append (l r : List V) : encL (l ++ r) = encL l ++ encL r := by simp [encL_eq]
mutual
theorem decL_enc : ∀ v : V, decL (enc v) = v
  | .mk k n t l => by simp only [enc, decL, DV.gI, DV.iv, DV.gS, DV.kidsV, decLL_encL l]
theorem decLL_encL : ∀ l : List V, decLL (encL l) = l
  | [] => by simp only [encL, decLL]
  | v :: r => by simp only [encL, decLL, decL_enc v, decLL_encL r]
end
attribute [simp] decL_enc decLL_encL
@[simp] theorem nthD_encL {l : List V} {n : Nat} (h : n < l.length) : nthD (encL l) n = enc (nthV l n) := by
  simp [nthD, nthV, encL_eq, h]
@[simp] theorem cell_k (v : V) : (cellD (enc v) 0).gI = v.k := by rw [enc_eq]; rfl
@[simp] theorem cell_n (v : V) : (cellD (enc v) 1).gI = v.n := by rw [enc_eq]; rfl
@[simp] theorem cell_t (v : V) : (cellD (enc v) 2).gS = v.t := by rw [enc_eq]; rfl
@[simp] theorem cell_l (v : V) : (cellD (enc v) 3).gL = encL v.kids := by rw [enc_eq]; rfl
@[simp] theorem dec4_cells (k n : Int) (t : List UInt8) (sz : Nat) (l : List V) : dec4 (.int .u8 k) (.int .u64 n) (.str t) (.sl sz (encL l)) = .mk k n t l := by simp [dec4, DV.gI, DV.iv, DV.gS, DV.kidsV]
@[simp] theorem dec4_nil (k n : Int) (t : List UInt8) : dec4 (.int .u8 k) (.int .u64 n) (.str t) .nil = .mk k n t [] := by simp [dec4, DV.gI, DV.iv, DV.gS, DV.kidsV]
theorem shaped_enc (v : V) : shapedB [.int .u8, .int .u64, .str, .sl 4] (enc v) = true := by rw [enc_eq]; rfl
@[simp] theorem elemOK_encL {l : List V} {n : Nat} (h : n < l.length) : elemOK [.int .u8, .int .u64, .str, .sl 4] (encL l) n = true := by
  simp only [elemOK, encL_eq, List.getElem?_map, List.getElem?_eq_getElem h, Option.map_some, shaped_enc]
def V.small (v : V) : Prop := smallL (enc v)
theorem V.small_iff (v : V) : v.small ↔ v.t.length ≤ longest ∧ v.kids.length ≤ longest ∧ ∀ u ∈ v.kids, u.small := by
  unfold V.small
  rw [enc_eq]
  simp only [smallL, DV.small, true_and, and_true, encL_length]
  refine and_congr_right fun _ => and_congr_right fun _ => ⟨fun h u hu => smallLL_mem h _ (by rw [encL_eq]; exact List.mem_map_of_mem hu), fun h => smallLL_of fun x hx => ?_⟩
  rw [encL_eq] at hx
  obtain ⟨u, hu, rfl⟩ := List.mem_map.1 hx
  exact h u hu
theorem vPV_small {v : V} (h : (vPV v).smallA) : v.small := by
  unfold V.small
  rw [enc_eq]
  exact ⟨trivial, trivial, h _ (by simp), h _ (by simp), trivial⟩
theorem nthV_mem {l : List V} {n : Nat} (h : n < l.length) : nthV l n ∈ l := by
  unfold nthV
  rw [List.getD_eq_getElem?_getD, List.getElem?_eq_getElem h]
  exact List.getElem_mem h

mutual
def V.size : V → Nat
  | .mk _ _ _ l => sizeL l + 1
def sizeL : List V → Nat
  | [] => 0
  | v :: r => v.size + sizeL r
end
theorem V.size_eq (v : V) : v.size = sizeL v.kids + 1 := by cases v; simp only [V.size, V.kids]
theorem sizeL_mem {l : List V} {u : V} (h : u ∈ l) : u.size ≤ sizeL l := by
  induction l with
  | nil => cases h
  | cons x r ih =>
    simp only [sizeL]
    rcases List.mem_cons.1 h with rfl | h
    · omega
    · have := ih h; omega
theorem V.size_kid {v u : V} (h : u ∈ v.kids) : u.size < v.size := by
  have := sizeL_mem h
  rw [V.size_eq v]
  omega
end Go.Proofs.Ytepgblhhajdmoaa.Eng
