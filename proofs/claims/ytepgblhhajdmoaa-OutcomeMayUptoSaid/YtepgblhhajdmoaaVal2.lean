/-
  Copies of values: the reference's, and the program's.
-/
import Derived.Test.YtepgblhhajdmoaaPlain
set_option linter.unusedVariables false
set_option linter.unusedSimpArgs false
namespace Go.Proofs.Ytepgblhhajdmoaa
open Go Go.Proofs.Ytepgblhhajdmoaa.Eng

theorem ref_copyAll_step (l : List V) (hl : sizeL l ≤ 1099511627776) (hc : ∀ v : V, v.size ≤ sizeL l → G 25 [vPV v] (vPV v)) : G 14 [.d (.sl 4 (encL l))] (.d (.sl 4 (encL l))) := by
  have hll := length_le_sizeL l
  refine gives_of ?_
  refine walk ctxOK (calling_of (l := [E1 25 aV (fun x => x.size ≤ sizeL l) (fun x => vPV x)]) (m := []) (by simp only [List.mem_singleton, forall_eq]; exact E1_ok fun x h => hc x h) (by simp)) (cut := [])
    (A := { i : Nat // i ≤ l.length })
    (fun _ => [0, 1, 0, 1, 1]) (fun i => [.d (.sl 4 (encL l)), .row 0 i.1, .d (.int .i64 i.1)]) (fun i => [.row 28 4 (encL (l.take i.1))]) (fun i => l.length - i.1) [([0, 1, 0, 1, 1], [0, 3, 4])] 60
    (fun _ => by kernel_rfl) ?_ ?_
  · rintro ⟨i, hi⟩ R hR
    dsimp only
    refine Eq.mpr (show _ = (Split2 (decide ((↑i : Int) < (↑(List.length (encL l)) : Int))) (Need (decide ((0 : Int) ≤ (↑i : Int)) && decide ((↑i : Int) < (↑(List.length (encL l)) : Int))) (Need (elemOK [CK.int IntKind.u8, CK.int IntKind.u64, CK.str, CK.sl (4 : Nat)] (encL l) i) (NeedP (WkPs [PV.agg [PV.d (DV.int IntKind.u8 (DV.gI (cellD (nthD (encL l) i) (0 : Nat)))), PV.d (DV.int IntKind.u64 (DV.gI (cellD (nthD (encL l) i) (1 : Nat)))), PV.d (DV.str (DV.gS (cellD (nthD (encL l) i) (2 : Nat)))), PV.d (DV.sl (4 : Nat) (DV.gL (cellD (nthD (encL l) i) (3 : Nat))))]] [vPV (V.mk (DV.gI (cellD (nthD (encL l) i) (0 : Nat))) (DV.gI (cellD (nthD (encL l) i) (1 : Nat))) (DV.gS (cellD (nthD (encL l) i) (2 : Nat))) (decLL (DV.gL (cellD (nthD (encL l) i) (3 : Nat)))))] ∧ V.size (V.mk (DV.gI (cellD (nthD (encL l) i) (0 : Nat))) (DV.gI (cellD (nthD (encL l) i) (1 : Nat))) (DV.gS (cellD (nthD (encL l) i) (2 : Nat))) (decLL (DV.gL (cellD (nthD (encL l) i) (3 : Nat))))) ≤ sizeL l) (Need ((1 : Nat) == (1 : Nat)) (Need (List.length (encL (List.take i l)) == i && fits (List.length (encL (List.take i l)) + (1 : Nat)) (56 : Nat) && true) (R [(0 : Nat), (1 : Nat), (0 : Nat), (1 : Nat), (1 : Nat)] [PV.d (DV.sl (4 : Nat) (encL l)), PV.row (0 : Nat) (List.length (encL (List.take i l) ++ [[DV.int IntKind.u8 (DV.gI (cellD (nthD (encL l) i) (0 : Nat))), DV.int IntKind.u64 (DV.gI (cellD (nthD (encL l) i) (1 : Nat))), DV.str (DV.gS (cellD (nthD (encL l) i) (2 : Nat))), DV.sl (4 : Nat) (encL (decLL (DV.gL (cellD (nthD (encL l) i) (3 : Nat)))))]])), PV.d (DV.int IntKind.i64 (IntKind.wrap IntKind.i64 ((↑i : Int) + (1 : Int))))] [AB.row (28 : Nat) (4 : Nat) (encL (List.take i l) ++ [[DV.int IntKind.u8 (DV.gI (cellD (nthD (encL l) i) (0 : Nat))), DV.int IntKind.u64 (DV.gI (cellD (nthD (encL l) i) (1 : Nat))), DV.str (DV.gS (cellD (nthD (encL l) i) (2 : Nat))), DV.sl (4 : Nat) (encL (decLL (DV.gL (cellD (nthD (encL l) i) (3 : Nat)))))]]), AB.row (28 : Nat) (4 : Nat) [[DV.int IntKind.u8 (DV.gI (cellD (nthD (encL l) i) (0 : Nat))), DV.int IntKind.u64 (DV.gI (cellD (nthD (encL l) i) (1 : Nat))), DV.str (DV.gS (cellD (nthD (encL l) i) (2 : Nat))), DV.sl (4 : Nat) (encL (decLL (DV.gL (cellD (nthD (encL l) i) (3 : Nat)))))]]])))))) (Need (List.length (encL (List.take i l)) == i) (WkP (PV.d (DV.sl (4 : Nat) (encL (List.take i l)))) (PV.d (DV.sl (4 : Nat) (encL l)))))) by kernel_rfl) ?_
    refine ⟨fun hlt => ?_, fun hge => ?_⟩
    · have hlt : i < l.length := by simpa using hlt
      have hmin : min i l.length = i := by omega
      have hsz := size_nth hlt
      simp only [nthD_encL hlt, cell_k, cell_n, cell_t, cell_l, decLL_encL, V.eta, cells_enc]
      refine ⟨by simp; omega, by simp [hlt], ⟨.refl _, by omega⟩, rfl, by simp [fits, mostBytes, hmin]; omega, ?_⟩
      refine hR ⟨i + 1, by omega⟩ _ _ (by dsimp only; omega) (Sub.eq (by simp) ?_ ?_ rfl rfl)
      · rw [i64_wrap (by omega) (by omega), encL_take_succ hlt]
        simp
        omega
      · simp only [encL_take_succ hlt]; rfl
    · have hge : l.length ≤ i := by simpa using hge
      have he : i = l.length := by omega
      subst he
      refine ⟨by simp, ?_⟩
      rw [List.take_length]
      exact WkP.refl _
  · intro R hR
    refine Eq.mpr (show _ = (R [(0 : Nat), (1 : Nat), (0 : Nat), (1 : Nat), (1 : Nat)] [PV.d (DV.sl (4 : Nat) (encL l)), PV.d DV.nil, PV.d (DV.int IntKind.i64 (0 : Int))] []) by kernel_rfl) ?_
    refine hR ⟨0, Nat.zero_le _⟩ _ _ ?_
    try rw [encL_length]
    have := Sub.ghost (Γ := Γ) (n0 := 0) (n := nsl Γ 14) (live := [0, 3, 4]) (vs := [.d (.sl 4 (encL l)), .d .nil, .d (.int .i64 0)]) (g := []) (j := 1) (t := 3) (T := 28) (sz := 4) rfl (by decide) (by intro u hu; simp at hu; rcases hu with rfl | rfl | rfl <;> decide) rfl (by decide)
    exact this

theorem ref_copy_step (v : V) (h : G 14 [.d (.sl 4 (encL v.kids))] (.d (.sl 4 (encL v.kids)))) : G 25 [vPV v] (vPV v) := by
  refine gives_of ?_
  refine walk0 ctxOK (calling_of (l := [E1 14 aVs (fun x => x = v.kids) (fun x => .d (.sl 4 (encL x)))]) (m := []) (by simp only [List.mem_singleton, forall_eq]; exact E1_ok fun x hx => by subst hx; exact h) (by simp)) (cut := []) 60 ?_
  refine Eq.mpr (show _ = (NeedP (WkPs [PV.d (DV.sl (4 : Nat) (encL (V.kids v)))] [PV.d (DV.sl (4 : Nat) (encL (decLL (encL (V.kids v)))))] ∧ decLL (encL (V.kids v)) = V.kids v) (WkP (PV.agg [PV.d (DV.int IntKind.u8 (V.k v)), PV.d (DV.int IntKind.u64 (V.n v)), PV.d (DV.str (V.t v)), PV.d (DV.sl (4 : Nat) (encL (decLL (encL (V.kids v)))))]) (vPV v))) by kernel_rfl) ?_
  simp only [decLL_encL]
  exact ⟨⟨.refl _, trivial⟩, WkP.refl _⟩
theorem ref_copies : ∀ (n : Nat), n ≤ 1099511627776 → (∀ v : V, v.size ≤ n → G 25 [vPV v] (vPV v)) := by
  intro n
  induction n with
  | zero => intro _ v h; have := size_pos v; omega
  | succ n ih =>
    intro hn v hv
    have hk := sizeL_kids v
    exact ref_copy_step v (ref_copyAll_step v.kids (by omega) fun u hu => ih (by omega) u (by omega))
theorem ref_copy (v : V) (h : v.size ≤ 1099511627776) : G 25 [vPV v] (vPV v) := ref_copies 1099511627776 (Nat.le_refl _) v h
theorem ref_copyAll (l : List V) (h : sizeL l ≤ 1099511627776) : G 14 [.d (.sl 4 (encL l))] (.d (.sl 4 (encL l))) := ref_copyAll_step l h fun u hu => ref_copy u (by omega)

theorem val_copyAll_step (l : List V) (hl : sizeL l ≤ 1099511627776) (hc : ∀ v : V, v.size ≤ sizeL l → G 40 [vPV v] (vPV v)) : G 48 [.d (.sl 4 (encL l))] (.d (.sl 4 (encL l))) := by
  have hll := length_le_sizeL l
  refine gives_of ?_
  refine walk ctxOK (calling_of (l := [E1 40 aV (fun x => x.size ≤ sizeL l) (fun x => vPV x)]) (m := []) (by simp only [List.mem_singleton, forall_eq]; exact E1_ok fun x h => hc x h) (by simp)) (cut := [])
    (A := { i : Nat // i ≤ l.length })
    (fun _ => [0, 1, 0, 1]) (fun i => [.row 0 i.1, .d (.sl 4 (encL l)), .d (.int .i64 l.length), .d (.int .i64 i.1)]) (fun i => [.row 28 4 (encL (l.take i.1))]) (fun i => l.length - i.1) [([0, 1, 0, 1], [2, 5, 6, 7])] 60
    (fun _ => by kernel_rfl) ?_ ?_
  · rintro ⟨i, hi⟩ R hR
    dsimp only
    refine Eq.mpr (show _ = (Split2 (decide ((↑i : Int) < (↑(List.length l) : Int))) (Need (decide ((0 : Int) ≤ (↑i : Int)) && decide ((↑i : Int) < (↑(List.length (encL l)) : Int))) (Need (elemOK [CK.int IntKind.u8, CK.int IntKind.u64, CK.str, CK.sl (4 : Nat)] (encL l) i) (NeedP (WkPs [PV.agg [PV.d (DV.int IntKind.u8 (DV.gI (cellD (nthD (encL l) i) (0 : Nat)))), PV.d (DV.int IntKind.u64 (DV.gI (cellD (nthD (encL l) i) (1 : Nat)))), PV.d (DV.str (DV.gS (cellD (nthD (encL l) i) (2 : Nat)))), PV.d (DV.sl (4 : Nat) (DV.gL (cellD (nthD (encL l) i) (3 : Nat))))]] [vPV (V.mk (DV.gI (cellD (nthD (encL l) i) (0 : Nat))) (DV.gI (cellD (nthD (encL l) i) (1 : Nat))) (DV.gS (cellD (nthD (encL l) i) (2 : Nat))) (decLL (DV.gL (cellD (nthD (encL l) i) (3 : Nat)))))] ∧ V.size (V.mk (DV.gI (cellD (nthD (encL l) i) (0 : Nat))) (DV.gI (cellD (nthD (encL l) i) (1 : Nat))) (DV.gS (cellD (nthD (encL l) i) (2 : Nat))) (decLL (DV.gL (cellD (nthD (encL l) i) (3 : Nat))))) ≤ sizeL l) (Need ((1 : Nat) == (1 : Nat)) (Need (List.length (encL (List.take i l)) == i && fits (List.length (encL (List.take i l)) + (1 : Nat)) (56 : Nat) && true) (R [(0 : Nat), (1 : Nat), (0 : Nat), (1 : Nat)] [PV.row (0 : Nat) (List.length (encL (List.take i l) ++ [[DV.int IntKind.u8 (DV.gI (cellD (nthD (encL l) i) (0 : Nat))), DV.int IntKind.u64 (DV.gI (cellD (nthD (encL l) i) (1 : Nat))), DV.str (DV.gS (cellD (nthD (encL l) i) (2 : Nat))), DV.sl (4 : Nat) (encL (decLL (DV.gL (cellD (nthD (encL l) i) (3 : Nat)))))]])), PV.d (DV.sl (4 : Nat) (encL l)), PV.d (DV.int IntKind.i64 (↑(List.length l) : Int)), PV.d (DV.int IntKind.i64 (IntKind.wrap IntKind.i64 ((↑i : Int) + (1 : Int))))] [AB.row (28 : Nat) (4 : Nat) (encL (List.take i l) ++ [[DV.int IntKind.u8 (DV.gI (cellD (nthD (encL l) i) (0 : Nat))), DV.int IntKind.u64 (DV.gI (cellD (nthD (encL l) i) (1 : Nat))), DV.str (DV.gS (cellD (nthD (encL l) i) (2 : Nat))), DV.sl (4 : Nat) (encL (decLL (DV.gL (cellD (nthD (encL l) i) (3 : Nat)))))]]), AB.box (28 : Nat) [PV.d (DV.int IntKind.u8 (DV.gI (cellD (nthD (encL l) i) (0 : Nat)))), PV.d (DV.int IntKind.u64 (DV.gI (cellD (nthD (encL l) i) (1 : Nat)))), PV.d (DV.str (DV.gS (cellD (nthD (encL l) i) (2 : Nat)))), PV.d (DV.sl (4 : Nat) (DV.gL (cellD (nthD (encL l) i) (3 : Nat))))], AB.row (28 : Nat) (4 : Nat) [[DV.int IntKind.u8 (DV.gI (cellD (nthD (encL l) i) (0 : Nat))), DV.int IntKind.u64 (DV.gI (cellD (nthD (encL l) i) (1 : Nat))), DV.str (DV.gS (cellD (nthD (encL l) i) (2 : Nat))), DV.sl (4 : Nat) (encL (decLL (DV.gL (cellD (nthD (encL l) i) (3 : Nat)))))]]])))))) (Need (List.length (encL (List.take i l)) == i) (WkP (PV.d (DV.sl (4 : Nat) (encL (List.take i l)))) (PV.d (DV.sl (4 : Nat) (encL l)))))) by kernel_rfl) ?_
    refine ⟨fun hlt => ?_, fun hge => ?_⟩
    · have hlt : i < l.length := by simpa using hlt
      have hmin : min i l.length = i := by omega
      have hsz := size_nth hlt
      simp only [nthD_encL hlt, cell_k, cell_n, cell_t, cell_l, decLL_encL, V.eta, cells_enc]
      refine ⟨by simp; omega, by simp [hlt], ⟨.refl _, by omega⟩, rfl, by simp [fits, mostBytes, hmin]; omega, ?_⟩
      refine hR ⟨i + 1, by omega⟩ _ _ (by dsimp only; omega) (Sub.eq (by simp) ?_ ?_ rfl rfl)
      · rw [i64_wrap (by omega) (by omega), encL_take_succ hlt]
        simp
        omega
      · simp only [encL_take_succ hlt]; rfl
    · have hge : l.length ≤ i := by simpa using hge
      have he : i = l.length := by omega
      subst he
      refine ⟨by simp, ?_⟩
      rw [List.take_length]
      exact WkP.refl _
  · intro R hR
    refine Eq.mpr (show _ = (R [(0 : Nat), (1 : Nat), (0 : Nat), (1 : Nat)] [PV.d DV.nil, PV.d (DV.sl (4 : Nat) (encL l)), PV.d (DV.int IntKind.i64 (↑(List.length (encL l)) : Int)), PV.d (DV.int IntKind.i64 (0 : Int))] []) by kernel_rfl) ?_
    refine hR ⟨0, Nat.zero_le _⟩ _ _ ?_
    try rw [encL_length]
    have := Sub.ghost (Γ := Γ) (n0 := 0) (n := nsl Γ 48) (live := [2, 5, 6, 7]) (vs := [.d .nil, .d (.sl 4 (encL l)), .d (.int .i64 l.length), .d (.int .i64 0)]) (g := []) (j := 0) (t := 2) (T := 28) (sz := 4) rfl (by decide) (by intro u hu; simp at hu; rcases hu with rfl | rfl | rfl | rfl <;> decide) rfl (by decide)
    exact this

theorem val_copy_step (v : V) (h : G 48 [.d (.sl 4 (encL v.kids))] (.d (.sl 4 (encL v.kids)))) : G 40 [vPV v] (vPV v) := by
  refine gives_of ?_
  refine walk0 ctxOK (calling_of (l := [E1 48 aVs (fun x => x = v.kids) (fun x => .d (.sl 4 (encL x)))]) (m := []) (by simp only [List.mem_singleton, forall_eq]; exact E1_ok fun x hx => by subst hx; exact h) (by simp)) (cut := []) 60 ?_
  refine Eq.mpr (show _ = (NeedP (WkPs [PV.d (DV.sl (4 : Nat) (encL (V.kids v)))] [PV.d (DV.sl (4 : Nat) (encL (decLL (encL (V.kids v)))))] ∧ decLL (encL (V.kids v)) = V.kids v) (WkP (PV.agg [PV.d (DV.int IntKind.u8 (V.k v)), PV.d (DV.int IntKind.u64 (V.n v)), PV.d (DV.str (V.t v)), PV.d (DV.sl (4 : Nat) (encL (decLL (encL (V.kids v)))))]) (vPV v))) by kernel_rfl) ?_
  simp only [decLL_encL]
  exact ⟨⟨.refl _, trivial⟩, WkP.refl _⟩
theorem val_copies : ∀ (n : Nat), n ≤ 1099511627776 → (∀ v : V, v.size ≤ n → G 40 [vPV v] (vPV v)) := by
  intro n
  induction n with
  | zero => intro _ v h; have := size_pos v; omega
  | succ n ih =>
    intro hn v hv
    have hk := sizeL_kids v
    exact val_copy_step v (val_copyAll_step v.kids (by omega) fun u hu => ih (by omega) u (by omega))
theorem val_copy (v : V) (h : v.size ≤ 1099511627776) : G 40 [vPV v] (vPV v) := val_copies 1099511627776 (Nat.le_refl _) v h
theorem val_copyAll (l : List V) (h : sizeL l ≤ 1099511627776) : G 48 [.d (.sl 4 (encL l))] (.d (.sl 4 (encL l))) := val_copyAll_step l h fun u hu => val_copy u (by omega)
end Go.Proofs.Ytepgblhhajdmoaa
