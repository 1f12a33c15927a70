/-
  What the values' functions of the reference come to: sameness, copies.
-/
import Derived.Test.YtepgblhhajdmoaaPlain
set_option linter.unusedVariables false
set_option linter.unusedSimpArgs false
namespace Go.Proofs.Ytepgblhhajdmoaa
open Go Go.Proofs.Ytepgblhhajdmoaa.Eng
theorem ref_same_ : ∀ (n : Nat) (v w : V), v.size ≤ n → G 17 [vPV v, vPV w] (.d (.bool (eqV v w))) := by
  intro n
  induction n with
  | zero => intro v w h; rw [V.size_eq] at h; omega
  | succ n ih =>
    intro v w hv
    refine CallW.assume (known_of ctxOK (by kernel_rfl)) fun hs _ => ?_
    have hsv := ((V.small_iff v).1 (vPV_small (hs _ (by simp)))).2.1
    unfold longest at hsv
    clear hs
    refine gives_of ?_
    refine walk ctxOK (calling_of (l := [E2 17 aV aV (fun x _ => x.size ≤ n) (fun x y => .d (.bool (eqV x y)))]) (m := []) (by simp only [List.mem_singleton, forall_eq]; exact E2_ok fun x y h => ih x y h) (by simp)) (cut := [])
      (A := { i : Nat // i ≤ v.kids.length ∧ v.k = w.k ∧ v.n = w.n ∧ v.t = w.t ∧ v.kids.length = w.kids.length ∧ ∀ j, j < i → nthV v.kids j = nthV w.kids j })
      (fun _ => [0, 1, 0, 1, 1]) (fun i => [.box 0 0, .box 1 0, .d (.int .i64 i.1)]) (fun _ => [.box 28 (vPV v).cells, .box 28 (vPV w).cells]) (fun i => v.kids.length - i.1) [([0, 1, 0, 1, 1], [2, 3, 5])] 60
      (fun _ => by kernel_rfl) ?_ ?_
    · rintro ⟨i, hi, h1, h2, h3, h4, h5⟩ R hR
      dsimp only
      refine Eq.mpr (show _ = (Split2 (decide ((↑i : Int) < (↑(List.length (encL (V.kids v))) : Int))) (Need (decide ((0 : Int) ≤ (↑i : Int)) && decide ((↑i : Int) < (↑(List.length (encL (V.kids v))) : Int))) (Need (elemOK [CK.int IntKind.u8, CK.int IntKind.u64, CK.str, CK.sl (4 : Nat)] (encL (V.kids v)) i) (Need (decide ((0 : Int) ≤ (↑i : Int)) && decide ((↑i : Int) < (↑(List.length (encL (V.kids w))) : Int))) (Need (elemOK [CK.int IntKind.u8, CK.int IntKind.u64, CK.str, CK.sl (4 : Nat)] (encL (V.kids w)) i) (Need true (Need true (NeedP (WkPs [PV.agg [PV.d (DV.int IntKind.u8 (DV.gI (cellD (nthD (encL (V.kids v)) i) (0 : Nat)))), PV.d (DV.int IntKind.u64 (DV.gI (cellD (nthD (encL (V.kids v)) i) (1 : Nat)))), PV.d (DV.str (DV.gS (cellD (nthD (encL (V.kids v)) i) (2 : Nat)))), PV.d (DV.sl (4 : Nat) (DV.gL (cellD (nthD (encL (V.kids v)) i) (3 : Nat))))], PV.agg [PV.d (DV.int IntKind.u8 (DV.gI (cellD (nthD (encL (V.kids w)) i) (0 : Nat)))), PV.d (DV.int IntKind.u64 (DV.gI (cellD (nthD (encL (V.kids w)) i) (1 : Nat)))), PV.d (DV.str (DV.gS (cellD (nthD (encL (V.kids w)) i) (2 : Nat)))), PV.d (DV.sl (4 : Nat) (DV.gL (cellD (nthD (encL (V.kids w)) i) (3 : Nat))))]] [vPV (V.mk (DV.gI (cellD (nthD (encL (V.kids v)) i) (0 : Nat))) (DV.gI (cellD (nthD (encL (V.kids v)) i) (1 : Nat))) (DV.gS (cellD (nthD (encL (V.kids v)) i) (2 : Nat))) (decLL (DV.gL (cellD (nthD (encL (V.kids v)) i) (3 : Nat))))), vPV (V.mk (DV.gI (cellD (nthD (encL (V.kids w)) i) (0 : Nat))) (DV.gI (cellD (nthD (encL (V.kids w)) i) (1 : Nat))) (DV.gS (cellD (nthD (encL (V.kids w)) i) (2 : Nat))) (decLL (DV.gL (cellD (nthD (encL (V.kids w)) i) (3 : Nat)))))] ∧ V.size (V.mk (DV.gI (cellD (nthD (encL (V.kids v)) i) (0 : Nat))) (DV.gI (cellD (nthD (encL (V.kids v)) i) (1 : Nat))) (DV.gS (cellD (nthD (encL (V.kids v)) i) (2 : Nat))) (decLL (DV.gL (cellD (nthD (encL (V.kids v)) i) (3 : Nat))))) ≤ n) (Split2 (!eqV (V.mk (DV.gI (cellD (nthD (encL (V.kids v)) i) (0 : Nat))) (DV.gI (cellD (nthD (encL (V.kids v)) i) (1 : Nat))) (DV.gS (cellD (nthD (encL (V.kids v)) i) (2 : Nat))) (decLL (DV.gL (cellD (nthD (encL (V.kids v)) i) (3 : Nat))))) (V.mk (DV.gI (cellD (nthD (encL (V.kids w)) i) (0 : Nat))) (DV.gI (cellD (nthD (encL (V.kids w)) i) (1 : Nat))) (DV.gS (cellD (nthD (encL (V.kids w)) i) (2 : Nat))) (decLL (DV.gL (cellD (nthD (encL (V.kids w)) i) (3 : Nat)))))) (WkP (PV.d (DV.bool false)) (PV.d (DV.bool (eqV v w)))) (R [(0 : Nat), (1 : Nat), (0 : Nat), (1 : Nat), (1 : Nat)] [PV.box (0 : Nat) (0 : Nat), PV.box (1 : Nat) (0 : Nat), PV.d (DV.int IntKind.i64 (IntKind.wrap IntKind.i64 ((↑i : Int) + (1 : Int))))] [AB.box (28 : Nat) [PV.d (DV.int IntKind.u8 (V.k v)), PV.d (DV.int IntKind.u64 (V.n v)), PV.d (DV.str (V.t v)), PV.d (DV.sl (4 : Nat) (encL (V.kids v)))], AB.box (28 : Nat) [PV.d (DV.int IntKind.u8 (V.k w)), PV.d (DV.int IntKind.u64 (V.n w)), PV.d (DV.str (V.t w)), PV.d (DV.sl (4 : Nat) (encL (V.kids w)))]]))))))))) (WkP (PV.d (DV.bool true)) (PV.d (DV.bool (eqV v w))))) by kernel_rfl) ?_
      refine ⟨fun hlt => ?_, fun hge => ?_⟩
      · have hlt : i < v.kids.length := by simpa using hlt
        have hlw : i < w.kids.length := by omega
        have hsz := V.size_kid (nthV_mem hlt)
        simp only [nthD_encL hlt, nthD_encL hlw, cell_k, cell_n, cell_t, cell_l, decLL_encL, V.eta]
        refine ⟨by simp; omega, by simp [hlt], by simp; omega, by simp [hlw], rfl, rfl, ⟨.refl _, by omega⟩, fun hne => wk_bool ?_, fun he => ?_⟩
        · refine eqV_false fun e => ?_
          rw [e] at hne
          simp [eqV] at hne
        · have he : nthV v.kids i = nthV w.kids i := eqV_iff.1 (by simpa using he)
          refine hR ⟨i + 1, by omega, h1, h2, h3, h4, fun j hj => ?_⟩ _ _ (by dsimp only; omega) (Sub.eq (by simp) ?_ rfl rfl rfl)
          · rcases Nat.lt_succ_iff_lt_or_eq.1 hj with h | h
            · exact h5 j h
            · rw [h]; exact he
          · rw [i64_wrap (by omega) (by omega)]; rfl
      · have hge : v.kids.length ≤ i := by simpa using hge
        exact wk_bool (eqV_true (V.ext h1 h2 h3 (nthV_ext h4 fun j hj => h5 j (by omega))))
    · intro R hR
      refine Eq.mpr (show _ = (Split2 (V.k v != V.k w) (WkP (PV.d (DV.bool false)) (PV.d (DV.bool (eqV v w)))) (Split2 (V.n v != V.n w) (WkP (PV.d (DV.bool false)) (PV.d (DV.bool (eqV v w)))) (Split2 (!V.t v == V.t w) (WkP (PV.d (DV.bool false)) (PV.d (DV.bool (eqV v w)))) (Split2 ((↑(List.length (encL (V.kids v))) : Int) != (↑(List.length (encL (V.kids w))) : Int)) (WkP (PV.d (DV.bool false)) (PV.d (DV.bool (eqV v w)))) (R [(0 : Nat), (1 : Nat), (0 : Nat), (1 : Nat), (1 : Nat)] [PV.box (0 : Nat) (0 : Nat), PV.box (1 : Nat) (0 : Nat), PV.d (DV.int IntKind.i64 (0 : Int))] [AB.box (28 : Nat) [PV.d (DV.int IntKind.u8 (V.k v)), PV.d (DV.int IntKind.u64 (V.n v)), PV.d (DV.str (V.t v)), PV.d (DV.sl (4 : Nat) (encL (V.kids v)))], AB.box (28 : Nat) [PV.d (DV.int IntKind.u8 (V.k w)), PV.d (DV.int IntKind.u64 (V.n w)), PV.d (DV.str (V.t w)), PV.d (DV.sl (4 : Nat) (encL (V.kids w)))]]))))) by kernel_rfl) ?_
      refine ⟨fun h => wk_bool (eqV_false fun e => ?_), fun h1 => ⟨fun h => wk_bool (eqV_false fun e => ?_), fun h2 => ⟨fun h => wk_bool (eqV_false fun e => ?_), fun h3 => ⟨fun h => wk_bool (eqV_false fun e => ?_), fun h4 => ?_⟩⟩⟩⟩
      · rw [e] at h; simp at h
      · rw [e] at h; simp at h
      · rw [e] at h; simp at h
      · rw [e] at h; simp at h
      · exact hR ⟨0, Nat.zero_le _, by simpa using h1, by simpa using h2, by simpa using h3, by simp at h4; omega, fun j hj => by omega⟩ _ _ (Sub.eq (by simp) rfl rfl rfl rfl)
end Go.Proofs.Ytepgblhhajdmoaa
