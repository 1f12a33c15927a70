/-
  What the questions of layer 7 are answered: when two answers are the same.
-/
import Derived.Test.YtepgblhhajdmoaaVal2
import Derived.Test.YtepgblhhajdmoaaVal1
set_option linter.unusedVariables false
set_option linter.unusedSimpArgs false
namespace Go.Proofs.Ytepgblhhajdmoaa
open Go Go.Proofs.Ytepgblhhajdmoaa.Eng
structure Td where
  n : Int
  s : List UInt8
  v : V
  l : List (List UInt8)
  b : Bool
  e : Int
def encS (l : List (List UInt8)) : List (List DV) := l.map fun s => [DV.str s]
def tPV (t : Td) : PV := .agg [.d (.int .u64 t.n), .d (.str t.s), .d (.int .u8 t.v.k), .d (.int .u64 t.v.n), .d (.str t.v.t), .d (.sl 4 (encL t.v.kids)), .d (.sl 1 (encS t.l)), .d (.bool t.b), .d (.int .i64 t.e)]
def decS (es : List (List DV)) : List (List UInt8) := es.map fun e => (cellD e 0).gS
def Eng.PV.toT : PV → Td
  | .agg [.d x0, .d x1, .d x2, .d x3, .d x4, .d x5, .d x6, .d x7, .d x8] => ⟨x0.gI, x1.gS, .mk x2.gI x3.gI x4.gS x5.kidsV, decS x6.gL, x7.gB, x8.gI⟩
  | _ => ⟨0, [], zeroV, [], false, 0⟩
def aT : Arg Td := ⟨tPV, Eng.PV.toT⟩
@[simp] theorem decS_encS (l : List (List UInt8)) : decS (encS l) = l := by
  induction l with
  | nil => rfl
  | cons s r ih =>
    have : decS (encS (s :: r)) = s :: decS (encS r) := rfl
    rw [this, ih]
@[simp] theorem encS_length (l : List (List UInt8)) : (encS l).length = l.length := by simp [encS]
def nthS (l : List (List UInt8)) (i : Nat) : List UInt8 := l.getD i []
theorem nthD_encS {l : List (List UInt8)} {i : Nat} (h : i < l.length) : nthD (encS l) i = [.str (nthS l i)] := by
  simp [nthD, encS, nthS, h]
theorem elemOK_encS {l : List (List UInt8)} {i : Nat} (h : i < l.length) : elemOK [CK.str] (encS l) i = true := by
  simp [elemOK, encS, h, shapedB]
theorem cell_s (s : List UInt8) : (cellD [DV.str s] 0).gS = s := rfl
theorem nthS_ext {l r : List (List UInt8)} (h : l.length = r.length) (he : ∀ j, j < l.length → nthS l j = nthS r j) : l = r := by
  apply List.ext_getElem h
  intro i h1 h2
  have := he i h1
  simpa [nthS, List.getD_eq_getElem?_getD, h1, h2] using this
noncomputable def eqT (t u : Td) : Bool := @decide (t = u) (Classical.propDecidable _)
theorem eqT_iff {t u : Td} : eqT t u = true ↔ t = u := by unfold eqT; simp
theorem eqT_false {t u : Td} (h : t ≠ u) : eqT t u = false := by
  cases hb : eqT t u with
  | false => rfl
  | true => exact absurd (eqT_iff.1 hb) h
theorem Td.ext' {t u : Td} (h1 : t.n = u.n) (h2 : t.s = u.s) (h3 : t.b = u.b) (h4 : t.e = u.e) (h5 : t.v = u.v) (h6 : t.l = u.l) : t = u := by
  cases t; cases u; simp at *; exact ⟨h1, h2, h5, h6, h3, h4⟩
theorem told_same (t u : Td) (hv : t.v.size ≤ 1099511627776) : G 28 [tPV t, tPV u] (.d (.bool (eqT t u))) := by
  refine CallW.assume (known _ (by kernel_rfl)) fun hs _ => ?_
  have hl : t.l.length ≤ 9223372036854775807 := by
    have h1 := hs (tPV t) (by simp)
    have h2 := h1 (.sl 1 (encS t.l)) (by simp)
    have := h2.1
    rw [encS_length] at this
    exact this
  clear hs
  refine gives_of ?_
  refine walk ctxOK (calling_of (l := [E2 17 aV aV (fun x _ => x.size ≤ 1099511627776) (fun x y => .d (.bool (eqV x y)))]) (m := []) (by simp only [List.mem_singleton, forall_eq]; exact E2_ok fun x y h => ref_same_ _ x y h) (by simp)) (cut := [])
    (A := { i : Nat // i ≤ t.l.length ∧ t.n = u.n ∧ t.s = u.s ∧ t.b = u.b ∧ t.e = u.e ∧ t.v = u.v ∧ t.l.length = u.l.length ∧ ∀ j, j < i → nthS t.l j = nthS u.l j })
    (fun _ => [0, 1, 0, 1, 1]) (fun i => [.box 0 0, .box 1 0, .d (.int .i64 i.1)]) (fun _ => [.box 51 (tPV t).cells, .box 51 (tPV u).cells]) (fun i => t.l.length - i.1) [([0, 1, 0, 1, 1], [2, 3, 5])] 60
    (fun _ => by kernel_rfl) ?_ ?_
  · rintro ⟨i, hi, h1, h2, h3, h4, h5, h6, h7⟩ R hR
    dsimp only
    refine Eq.mpr (show _ = (Split2 (decide ((↑i : Int) < (↑(List.length (encS (Td.l t))) : Int))) (Need (decide ((0 : Int) ≤ (↑i : Int)) && decide ((↑i : Int) < (↑(List.length (encS (Td.l t))) : Int))) (Need (elemOK [CK.str] (encS (Td.l t)) i) (Need (decide ((0 : Int) ≤ (↑i : Int)) && decide ((↑i : Int) < (↑(List.length (encS (Td.l u))) : Int))) (Need (elemOK [CK.str] (encS (Td.l u)) i) (Split2 (!DV.gS (cellD (nthD (encS (Td.l t)) i) (0 : Nat)) == DV.gS (cellD (nthD (encS (Td.l u)) i) (0 : Nat))) (WkP (PV.d (DV.kb false)) (PV.d (DV.bool (eqT t u)))) (R [(0 : Nat), (1 : Nat), (0 : Nat), (1 : Nat), (1 : Nat)] [PV.box (0 : Nat) (0 : Nat), PV.box (1 : Nat) (0 : Nat), PV.d (DV.int IntKind.i64 (IntKind.wrap IntKind.i64 ((↑i : Int) + (1 : Int))))] [AB.box (51 : Nat) [PV.d (DV.int IntKind.u64 (Td.n t)), PV.d (DV.str (Td.s t)), PV.d (DV.int IntKind.u8 (V.k (Td.v t))), PV.d (DV.int IntKind.u64 (V.n (Td.v t))), PV.d (DV.str (V.t (Td.v t))), PV.d (DV.sl (4 : Nat) (encL (V.kids (Td.v t)))), PV.d (DV.sl (1 : Nat) (encS (Td.l t))), PV.d (DV.bool (Td.b t)), PV.d (DV.int IntKind.i64 (Td.e t))], AB.box (51 : Nat) [PV.d (DV.int IntKind.u64 (Td.n u)), PV.d (DV.str (Td.s u)), PV.d (DV.int IntKind.u8 (V.k (Td.v u))), PV.d (DV.int IntKind.u64 (V.n (Td.v u))), PV.d (DV.str (V.t (Td.v u))), PV.d (DV.sl (4 : Nat) (encL (V.kids (Td.v u)))), PV.d (DV.sl (1 : Nat) (encS (Td.l u))), PV.d (DV.bool (Td.b u)), PV.d (DV.int IntKind.i64 (Td.e u))]])))))) (WkP (PV.d (DV.kb true)) (PV.d (DV.bool (eqT t u))))) by kernel_rfl) ?_
    refine ⟨fun hlt => ?_, fun hge => ?_⟩
    · have hlt : i < t.l.length := by simpa using hlt
      have hlw : i < u.l.length := by omega
      simp only [nthD_encS hlt, nthD_encS hlw, cell_s]
      refine ⟨by simp; omega, elemOK_encS hlt, by simp; omega, elemOK_encS hlw, fun hne => wk_bool ?_, fun he => ?_⟩
      · refine eqT_false fun e => ?_
        rw [e] at hne
        simp at hne
      · have he : nthS t.l i = nthS u.l i := by simpa using he
        refine hR ⟨i + 1, by omega, h1, h2, h3, h4, h5, h6, fun j hj => ?_⟩ _ _ (by dsimp only; omega) (Sub.eq (by simp) ?_ rfl rfl rfl)
        · rcases Nat.lt_succ_iff_lt_or_eq.1 hj with h | h
          · exact h7 j h
          · rw [h]; exact he
        · rw [i64_wrap (by omega) (by omega)]; rfl
    · have hge : t.l.length ≤ i := by simpa using hge
      exact wk_bool (eqT_iff.2 (Td.ext' h1 h2 h3 h4 h5 (nthS_ext h6 fun j hj => h7 j (by omega))))
  · intro R hR
    refine Eq.mpr (show _ = (Split2 (Td.n t != Td.n u) (WkP (PV.d (DV.kb false)) (PV.d (DV.bool (eqT t u)))) (Split2 (!Td.s t == Td.s u) (WkP (PV.d (DV.kb false)) (PV.d (DV.bool (eqT t u)))) (Split2 (!Td.b t == Td.b u) (WkP (PV.d (DV.kb false)) (PV.d (DV.bool (eqT t u)))) (Split2 (Td.e t != Td.e u) (WkP (PV.d (DV.kb false)) (PV.d (DV.bool (eqT t u)))) (NeedP (WkPs [PV.agg [PV.d (DV.int IntKind.u8 (V.k (Td.v t))), PV.d (DV.int IntKind.u64 (V.n (Td.v t))), PV.d (DV.str (V.t (Td.v t))), PV.d (DV.sl (4 : Nat) (encL (V.kids (Td.v t))))], PV.agg [PV.d (DV.int IntKind.u8 (V.k (Td.v u))), PV.d (DV.int IntKind.u64 (V.n (Td.v u))), PV.d (DV.str (V.t (Td.v u))), PV.d (DV.sl (4 : Nat) (encL (V.kids (Td.v u))))]] [vPV (V.mk (V.k (Td.v t)) (V.n (Td.v t)) (V.t (Td.v t)) (decLL (encL (V.kids (Td.v t))))), vPV (V.mk (V.k (Td.v u)) (V.n (Td.v u)) (V.t (Td.v u)) (decLL (encL (V.kids (Td.v u)))))] ∧ V.size (V.mk (V.k (Td.v t)) (V.n (Td.v t)) (V.t (Td.v t)) (decLL (encL (V.kids (Td.v t))))) ≤ (1099511627776 : Nat)) (Split2 (!eqV (V.mk (V.k (Td.v t)) (V.n (Td.v t)) (V.t (Td.v t)) (decLL (encL (V.kids (Td.v t))))) (V.mk (V.k (Td.v u)) (V.n (Td.v u)) (V.t (Td.v u)) (decLL (encL (V.kids (Td.v u)))))) (WkP (PV.d (DV.kb false)) (PV.d (DV.bool (eqT t u)))) (Split2 ((↑(List.length (encS (Td.l t))) : Int) != (↑(List.length (encS (Td.l u))) : Int)) (WkP (PV.d (DV.kb false)) (PV.d (DV.bool (eqT t u)))) (R [(0 : Nat), (1 : Nat), (0 : Nat), (1 : Nat), (1 : Nat)] [PV.box (0 : Nat) (0 : Nat), PV.box (1 : Nat) (0 : Nat), PV.d (DV.int IntKind.i64 (0 : Int))] [AB.box (51 : Nat) [PV.d (DV.int IntKind.u64 (Td.n t)), PV.d (DV.str (Td.s t)), PV.d (DV.int IntKind.u8 (V.k (Td.v t))), PV.d (DV.int IntKind.u64 (V.n (Td.v t))), PV.d (DV.str (V.t (Td.v t))), PV.d (DV.sl (4 : Nat) (encL (V.kids (Td.v t)))), PV.d (DV.sl (1 : Nat) (encS (Td.l t))), PV.d (DV.bool (Td.b t)), PV.d (DV.int IntKind.i64 (Td.e t))], AB.box (51 : Nat) [PV.d (DV.int IntKind.u64 (Td.n u)), PV.d (DV.str (Td.s u)), PV.d (DV.int IntKind.u8 (V.k (Td.v u))), PV.d (DV.int IntKind.u64 (V.n (Td.v u))), PV.d (DV.str (V.t (Td.v u))), PV.d (DV.sl (4 : Nat) (encL (V.kids (Td.v u)))), PV.d (DV.sl (1 : Nat) (encS (Td.l u))), PV.d (DV.bool (Td.b u)), PV.d (DV.int IntKind.i64 (Td.e u))]])))))))) by kernel_rfl) ?_
    simp only [decLL_encL, V.eta]
    refine ⟨fun h => wk_bool (eqT_false fun e => ?_), fun h1 => ⟨fun h => wk_bool (eqT_false fun e => ?_), fun h2 => ⟨fun h => wk_bool (eqT_false fun e => ?_), fun h3 => ⟨fun h => wk_bool (eqT_false fun e => ?_), fun h4 => ⟨⟨.refl _, hv⟩, fun h => wk_bool (eqT_false fun e => ?_), fun h5 => ⟨fun h => wk_bool (eqT_false fun e => ?_), fun h6 => ?_⟩⟩⟩⟩⟩⟩
    · rw [e] at h; simp at h
    · rw [e] at h; simp at h
    · rw [e] at h; simp at h
    · rw [e] at h; simp at h
    · rw [e] at h; simp [eqV] at h
    · rw [e] at h; simp at h
    · exact hR ⟨0, Nat.zero_le _, by simpa using h1, by simpa using h2, by simpa using h3, by simpa using h4, eqV_iff.1 (by simpa using h5), by simp at h6; omega, fun j hj => by omega⟩ _ _ (Sub.eq (by simp) rfl rfl rfl rfl)
end Go.Proofs.Ytepgblhhajdmoaa
