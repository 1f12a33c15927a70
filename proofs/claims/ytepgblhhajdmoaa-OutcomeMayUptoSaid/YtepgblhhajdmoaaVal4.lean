/-
  Lists of fields: what Put makes; texts of bytes below 128.
-/
import Derived.Test.YtepgblhhajdmoaaVal3
set_option linter.unusedVariables false
set_option linter.unusedSimpArgs false
namespace Go.Proofs.Ytepgblhhajdmoaa
open Go Go.Proofs.Ytepgblhhajdmoaa.Eng
/-- so many of the first ones are left when the nulls at the end are gone -/
def cutN (l : List V) : Nat → Nat
  | 0 => 0
  | n + 1 => if (nthV l n).k = 1 then cutN l n else n + 1
theorem cutN_le (l : List V) : ∀ n, cutN l n ≤ n
  | 0 => Nat.le_refl _
  | n + 1 => by unfold cutN; split; · have := cutN_le l n; omega
                · exact Nat.le_refl _
def putV (code : Int) (l : List V) : V := .mk 25 0 [] [.mk 6 code [] [], .mk 22 0 [] (l.take (cutN l l.length))]
theorem putV_size (code : Int) (l : List V) : (putV code l).size ≤ sizeL l + 3 := by
  have := sizeL_take l (cutN l l.length)
  simp [putV, V.size, sizeL]; omega

theorem val_put (code : Int) (l : List V) (hl : sizeL l + 3 ≤ 1099511627776) : G 15 [.d (.int .u64 code), .d (.sl 4 (encL l))] (vPV (putV code l)) := by
  have hll := length_le_sizeL l
  refine gives_of ?_
  refine walk ctxOK (calling_of (l := [E2 20 (aI .u8) aVs (fun _ x => sizeL x ≤ 1099511627776) (fun k x => vPV (.mk k 0 [] x)), E2 41 (aI .u8) (aI .u64) (fun _ _ => True) (fun k n => vPV (.mk k n [] [])), E2 45 aV aV (fun a b => a.size + b.size ≤ 1099511627776) (fun a b => vPV (.mk 25 0 [] [a, b]))]) (m := []) ?_ (by simp)) (cut := [])
    (A := { i : Nat // i ≤ l.length ∧ cutN l i = cutN l l.length })
    (fun _ => [0, 0, 1, 1]) (fun i => [.d (.int .u64 code), .d (.sl 4 (encL l)), .box 0 0, .d (.int .i64 i.1)]) (fun i => [.box 28 [.d (.ki .u8 0), .d (.ki .u64 0), .d (.str []), .d .nil]]) (fun i => i.1) [([0, 0, 1, 1], [0, 1, 4, 5])] 60
    (fun _ => by kernel_rfl) ?_ ?_
  · intro e he
    simp only [List.mem_cons, List.not_mem_nil, or_false] at he
    rcases he with rfl | rfl | rfl
    · exact E2_ok fun k x h => val_many k x h
    · exact E2_ok fun k n _ => val_number k n
    · exact E2_ok fun a b h => val_desc a b h
  · rintro ⟨i, hi, hc⟩ R hR
    dsimp only
    have fin : cutN l i = i → Need (decide ((0 : Int) ≤ (0 : Int)) && decide ((0 : Int) ≤ (i : Int)) && decide ((i : Int) ≤ ((encL l).length : Int))) (True) ∧ l.take (cutN l l.length) = l.take i := fun h => ⟨⟨by simp; omega, trivial⟩, by rw [← hc, h]⟩
    have hsz : sizeL (l.take i) ≤ sizeL l := sizeL_take l i
    refine Eq.mpr (show _ = (Split2 (decide ((↑i : Int) > (0 : Int))) (Need (decide ((0 : Int) ≤ IntKind.wrap IntKind.i64 ((↑i : Int) - (1 : Int))) && decide (IntKind.wrap IntKind.i64 ((↑i : Int) - (1 : Int)) < (↑(List.length (encL l)) : Int))) (Need (elemOK [CK.int IntKind.u8, CK.int IntKind.u64, CK.str, CK.sl (4 : Nat)] (encL l) (Int.toNat (IntKind.wrap IntKind.i64 ((↑i : Int) - (1 : Int))))) (Split2 (DV.gI (cellD (nthD (encL l) (Int.toNat (IntKind.wrap IntKind.i64 ((↑i : Int) - (1 : Int))))) (0 : Nat)) == (1 : Int)) (R [(0 : Nat), (0 : Nat), (1 : Nat), (1 : Nat)] [PV.d (DV.int IntKind.u64 code), PV.d (DV.sl (4 : Nat) (encL l)), PV.box (0 : Nat) (0 : Nat), PV.d (DV.int IntKind.i64 (IntKind.wrap IntKind.i64 ((↑i : Int) - (1 : Int))))] [AB.box (28 : Nat) [PV.d (DV.ki IntKind.u8 (0 : Int)), PV.d (DV.ki IntKind.u64 (0 : Int)), PV.d (DV.str []), PV.d DV.nil]]) (Need true (Need true (NeedP (WkPs [PV.d (DV.int IntKind.u8 (6 : Int)), PV.d (DV.int IntKind.u64 code)] [PV.d (DV.int IntKind.u8 (6 : Int)), PV.d (DV.int IntKind.u64 code)] ∧ True) (Need true (Need (decide ((0 : Int) ≤ (0 : Int)) && decide ((0 : Int) ≤ (↑i : Int)) && decide ((↑i : Int) ≤ (↑(List.length (encL l)) : Int))) (Need true (Need true (NeedP (WkPs [PV.d (DV.int IntKind.u8 (22 : Int)), PV.d (DV.sl (4 : Nat) (List.drop (Int.toNat (0 : Int)) (List.take i (encL l))))] [PV.d (DV.int IntKind.u8 (22 : Int)), PV.d (DV.sl (4 : Nat) (encL (decLL (List.drop (Int.toNat (0 : Int)) (List.take i (encL l))))))] ∧ sizeL (decLL (List.drop (Int.toNat (0 : Int)) (List.take i (encL l)))) ≤ (1099511627776 : Nat)) (Need true (Need true (NeedP (WkPs [PV.agg [PV.d (DV.int IntKind.u8 (6 : Int)), PV.d (DV.int IntKind.u64 code), PV.d (DV.str []), PV.d (DV.sl (4 : Nat) (encL []))], PV.agg [PV.d (DV.int IntKind.u8 (22 : Int)), PV.d (DV.int IntKind.u64 (0 : Int)), PV.d (DV.str []), PV.d (DV.sl (4 : Nat) (encL (decLL (List.drop (Int.toNat (0 : Int)) (List.take i (encL l))))))]] [vPV (V.mk (6 : Int) code [] (decLL (encL []))), vPV (V.mk (22 : Int) (0 : Int) [] (decLL (encL (decLL (List.drop (Int.toNat (0 : Int)) (List.take i (encL l)))))))] ∧ V.size (V.mk (6 : Int) code [] (decLL (encL []))) + V.size (V.mk (22 : Int) (0 : Int) [] (decLL (encL (decLL (List.drop (Int.toNat (0 : Int)) (List.take i (encL l))))))) ≤ (1099511627776 : Nat)) (WkP (PV.agg [PV.d (DV.int IntKind.u8 (25 : Int)), PV.d (DV.int IntKind.u64 (0 : Int)), PV.d (DV.str []), PV.d (DV.sl (4 : Nat) (encL [V.mk (6 : Int) code [] (decLL (encL [])), V.mk (22 : Int) (0 : Int) [] (decLL (encL (decLL (List.drop (Int.toNat (0 : Int)) (List.take i (encL l))))))]))]) (vPV (putV code l))))))))))))))))) (Need true (Need true (NeedP (WkPs [PV.d (DV.int IntKind.u8 (6 : Int)), PV.d (DV.int IntKind.u64 code)] [PV.d (DV.int IntKind.u8 (6 : Int)), PV.d (DV.int IntKind.u64 code)] ∧ True) (Need true (Need (decide ((0 : Int) ≤ (0 : Int)) && decide ((0 : Int) ≤ (↑i : Int)) && decide ((↑i : Int) ≤ (↑(List.length (encL l)) : Int))) (Need true (Need true (NeedP (WkPs [PV.d (DV.int IntKind.u8 (22 : Int)), PV.d (DV.sl (4 : Nat) (List.drop (Int.toNat (0 : Int)) (List.take i (encL l))))] [PV.d (DV.int IntKind.u8 (22 : Int)), PV.d (DV.sl (4 : Nat) (encL (decLL (List.drop (Int.toNat (0 : Int)) (List.take i (encL l))))))] ∧ sizeL (decLL (List.drop (Int.toNat (0 : Int)) (List.take i (encL l)))) ≤ (1099511627776 : Nat)) (Need true (Need true (NeedP (WkPs [PV.agg [PV.d (DV.int IntKind.u8 (6 : Int)), PV.d (DV.int IntKind.u64 code), PV.d (DV.str []), PV.d (DV.sl (4 : Nat) (encL []))], PV.agg [PV.d (DV.int IntKind.u8 (22 : Int)), PV.d (DV.int IntKind.u64 (0 : Int)), PV.d (DV.str []), PV.d (DV.sl (4 : Nat) (encL (decLL (List.drop (Int.toNat (0 : Int)) (List.take i (encL l))))))]] [vPV (V.mk (6 : Int) code [] (decLL (encL []))), vPV (V.mk (22 : Int) (0 : Int) [] (decLL (encL (decLL (List.drop (Int.toNat (0 : Int)) (List.take i (encL l)))))))] ∧ V.size (V.mk (6 : Int) code [] (decLL (encL []))) + V.size (V.mk (22 : Int) (0 : Int) [] (decLL (encL (decLL (List.drop (Int.toNat (0 : Int)) (List.take i (encL l))))))) ≤ (1099511627776 : Nat)) (WkP (PV.agg [PV.d (DV.int IntKind.u8 (25 : Int)), PV.d (DV.int IntKind.u64 (0 : Int)), PV.d (DV.str []), PV.d (DV.sl (4 : Nat) (encL [V.mk (6 : Int) code [] (decLL (encL [])), V.mk (22 : Int) (0 : Int) [] (decLL (encL (decLL (List.drop (Int.toNat (0 : Int)) (List.take i (encL l))))))]))]) (vPV (putV code l))))))))))))))) by kernel_rfl) ?_
    simp only [Int.toNat_zero, List.drop_zero, encL_takeL, decLL_encL]
    refine ⟨fun hlt => ?_, fun hge => ?_⟩
    · have hlt : 0 < i := by simpa using hlt
      obtain ⟨j, rfl⟩ : ∃ j, i = j + 1 := ⟨i - 1, by omega⟩
      have hw : IntKind.i64.wrap (((j + 1 : Nat) : Int) - 1) = (j : Int) := by rw [i64_wrap (by omega) (by omega)]; omega
      have hj : j < l.length := by omega
      simp only [hw, Int.toNat_natCast, nthD_encL hj, cell_k]
      refine ⟨by simp; omega, by simp [hj], fun hk => ?_, fun hk => ?_⟩
      · have hk : (nthV l j).k = 1 := by simpa using hk
        refine hR ⟨j, by omega, ?_⟩ _ _ (by dsimp only; omega) (Sub.eq (by simp) rfl rfl rfl rfl)
        rw [← hc]; simp [cutN, hk]
      · have hk : (nthV l j).k ≠ 1 := by simpa using hk
        obtain ⟨h1, h2⟩ := fin (by simp [cutN, hk])
        exact ⟨rfl, rfl, ⟨.refl _, trivial⟩, rfl, h1.is, rfl, rfl, ⟨.refl _, by omega⟩, rfl, rfl, ⟨.refl _, by simp [V.size, sizeL]; omega⟩, by unfold putV; rw [h2]; exact .refl _⟩
    · have hge : i = 0 := by have : ¬ (0 : Int) < i := by simpa using hge
                             omega
      subst hge
      obtain ⟨h1, h2⟩ := fin rfl
      exact ⟨rfl, rfl, ⟨.refl _, trivial⟩, rfl, h1.is, rfl, rfl, ⟨.refl _, by omega⟩, rfl, rfl, ⟨.refl _, by simp [V.size, sizeL]⟩, by unfold putV; rw [h2]; exact .refl _⟩
  · intro R hR
    refine Eq.mpr (show _ = (R [(0 : Nat), (0 : Nat), (1 : Nat), (1 : Nat)] [PV.d (DV.int IntKind.u64 code), PV.d (DV.sl (4 : Nat) (encL l)), PV.box (0 : Nat) (0 : Nat), PV.d (DV.int IntKind.i64 (↑(List.length (encL l)) : Int))] [AB.box (28 : Nat) [PV.d (DV.ki IntKind.u8 (0 : Int)), PV.d (DV.ki IntKind.u64 (0 : Int)), PV.d (DV.str []), PV.d DV.nil]]) by kernel_rfl) ?_
    refine hR ⟨l.length, Nat.le_refl _, rfl⟩ _ _ (Sub.eq (by simp) ?_ rfl rfl rfl)
    rw [encL_length]

theorem ref_put (code : Int) (l : List V) (hl : sizeL l + 3 ≤ 1099511627776) : G 16 [.d (.int .u64 code), .d (.sl 4 (encL l))] (vPV (putV code l)) := by
  have hll := length_le_sizeL l
  refine gives_of ?_
  refine walk ctxOK (calling_of (l := [E2 18 (aI .u8) aVs (fun _ x => sizeL x ≤ 1099511627776) (fun k x => vPV (.mk k 0 [] x)), E2 47 (aI .u8) (aI .u64) (fun _ _ => True) (fun k n => vPV (.mk k n [] [])), E2 46 aV aV (fun a b => a.size + b.size ≤ 1099511627776) (fun a b => vPV (.mk 25 0 [] [a, b]))]) (m := []) ?_ (by simp)) (cut := [])
    (A := { i : Nat // i ≤ l.length ∧ cutN l i = cutN l l.length })
    (fun _ => [0, 0, 1, 1]) (fun i => [.d (.int .u64 code), .d (.sl 4 (encL l)), .box 0 0, .d (.int .i64 i.1)]) (fun i => [.box 28 [.d (.ki .u8 0), .d (.ki .u64 0), .d (.str []), .d .nil]]) (fun i => i.1) [([0, 0, 1, 1], [0, 1, 4, 5])] 60
    (fun _ => by kernel_rfl) ?_ ?_
  · intro e he
    simp only [List.mem_cons, List.not_mem_nil, or_false] at he
    rcases he with rfl | rfl | rfl
    · exact E2_ok fun k x h => ref_many k x h
    · exact E2_ok fun k n _ => ref_number k n
    · exact E2_ok fun a b h => ref_desc a b h
  · rintro ⟨i, hi, hc⟩ R hR
    dsimp only
    have fin : cutN l i = i → Need (decide ((0 : Int) ≤ (0 : Int)) && decide ((0 : Int) ≤ (i : Int)) && decide ((i : Int) ≤ ((encL l).length : Int))) (True) ∧ l.take (cutN l l.length) = l.take i := fun h => ⟨⟨by simp; omega, trivial⟩, by rw [← hc, h]⟩
    have hsz : sizeL (l.take i) ≤ sizeL l := sizeL_take l i
    refine Eq.mpr (show _ = (Split2 (decide ((↑i : Int) > (0 : Int))) (Need (decide ((0 : Int) ≤ IntKind.wrap IntKind.i64 ((↑i : Int) - (1 : Int))) && decide (IntKind.wrap IntKind.i64 ((↑i : Int) - (1 : Int)) < (↑(List.length (encL l)) : Int))) (Need (elemOK [CK.int IntKind.u8, CK.int IntKind.u64, CK.str, CK.sl (4 : Nat)] (encL l) (Int.toNat (IntKind.wrap IntKind.i64 ((↑i : Int) - (1 : Int))))) (Split2 (DV.gI (cellD (nthD (encL l) (Int.toNat (IntKind.wrap IntKind.i64 ((↑i : Int) - (1 : Int))))) (0 : Nat)) == (1 : Int)) (R [(0 : Nat), (0 : Nat), (1 : Nat), (1 : Nat)] [PV.d (DV.int IntKind.u64 code), PV.d (DV.sl (4 : Nat) (encL l)), PV.box (0 : Nat) (0 : Nat), PV.d (DV.int IntKind.i64 (IntKind.wrap IntKind.i64 ((↑i : Int) - (1 : Int))))] [AB.box (28 : Nat) [PV.d (DV.ki IntKind.u8 (0 : Int)), PV.d (DV.ki IntKind.u64 (0 : Int)), PV.d (DV.str []), PV.d DV.nil]]) (Need true (Need true (NeedP (WkPs [PV.d (DV.int IntKind.u8 (6 : Int)), PV.d (DV.int IntKind.u64 code)] [PV.d (DV.int IntKind.u8 (6 : Int)), PV.d (DV.int IntKind.u64 code)] ∧ True) (Need true (Need (decide ((0 : Int) ≤ (0 : Int)) && decide ((0 : Int) ≤ (↑i : Int)) && decide ((↑i : Int) ≤ (↑(List.length (encL l)) : Int))) (Need true (Need true (NeedP (WkPs [PV.d (DV.int IntKind.u8 (22 : Int)), PV.d (DV.sl (4 : Nat) (List.drop (Int.toNat (0 : Int)) (List.take i (encL l))))] [PV.d (DV.int IntKind.u8 (22 : Int)), PV.d (DV.sl (4 : Nat) (encL (decLL (List.drop (Int.toNat (0 : Int)) (List.take i (encL l))))))] ∧ sizeL (decLL (List.drop (Int.toNat (0 : Int)) (List.take i (encL l)))) ≤ (1099511627776 : Nat)) (Need true (Need true (NeedP (WkPs [PV.agg [PV.d (DV.int IntKind.u8 (6 : Int)), PV.d (DV.int IntKind.u64 code), PV.d (DV.str []), PV.d (DV.sl (4 : Nat) (encL []))], PV.agg [PV.d (DV.int IntKind.u8 (22 : Int)), PV.d (DV.int IntKind.u64 (0 : Int)), PV.d (DV.str []), PV.d (DV.sl (4 : Nat) (encL (decLL (List.drop (Int.toNat (0 : Int)) (List.take i (encL l))))))]] [vPV (V.mk (6 : Int) code [] (decLL (encL []))), vPV (V.mk (22 : Int) (0 : Int) [] (decLL (encL (decLL (List.drop (Int.toNat (0 : Int)) (List.take i (encL l)))))))] ∧ V.size (V.mk (6 : Int) code [] (decLL (encL []))) + V.size (V.mk (22 : Int) (0 : Int) [] (decLL (encL (decLL (List.drop (Int.toNat (0 : Int)) (List.take i (encL l))))))) ≤ (1099511627776 : Nat)) (WkP (PV.agg [PV.d (DV.int IntKind.u8 (25 : Int)), PV.d (DV.int IntKind.u64 (0 : Int)), PV.d (DV.str []), PV.d (DV.sl (4 : Nat) (encL [V.mk (6 : Int) code [] (decLL (encL [])), V.mk (22 : Int) (0 : Int) [] (decLL (encL (decLL (List.drop (Int.toNat (0 : Int)) (List.take i (encL l))))))]))]) (vPV (putV code l))))))))))))))))) (Need true (Need true (NeedP (WkPs [PV.d (DV.int IntKind.u8 (6 : Int)), PV.d (DV.int IntKind.u64 code)] [PV.d (DV.int IntKind.u8 (6 : Int)), PV.d (DV.int IntKind.u64 code)] ∧ True) (Need true (Need (decide ((0 : Int) ≤ (0 : Int)) && decide ((0 : Int) ≤ (↑i : Int)) && decide ((↑i : Int) ≤ (↑(List.length (encL l)) : Int))) (Need true (Need true (NeedP (WkPs [PV.d (DV.int IntKind.u8 (22 : Int)), PV.d (DV.sl (4 : Nat) (List.drop (Int.toNat (0 : Int)) (List.take i (encL l))))] [PV.d (DV.int IntKind.u8 (22 : Int)), PV.d (DV.sl (4 : Nat) (encL (decLL (List.drop (Int.toNat (0 : Int)) (List.take i (encL l))))))] ∧ sizeL (decLL (List.drop (Int.toNat (0 : Int)) (List.take i (encL l)))) ≤ (1099511627776 : Nat)) (Need true (Need true (NeedP (WkPs [PV.agg [PV.d (DV.int IntKind.u8 (6 : Int)), PV.d (DV.int IntKind.u64 code), PV.d (DV.str []), PV.d (DV.sl (4 : Nat) (encL []))], PV.agg [PV.d (DV.int IntKind.u8 (22 : Int)), PV.d (DV.int IntKind.u64 (0 : Int)), PV.d (DV.str []), PV.d (DV.sl (4 : Nat) (encL (decLL (List.drop (Int.toNat (0 : Int)) (List.take i (encL l))))))]] [vPV (V.mk (6 : Int) code [] (decLL (encL []))), vPV (V.mk (22 : Int) (0 : Int) [] (decLL (encL (decLL (List.drop (Int.toNat (0 : Int)) (List.take i (encL l)))))))] ∧ V.size (V.mk (6 : Int) code [] (decLL (encL []))) + V.size (V.mk (22 : Int) (0 : Int) [] (decLL (encL (decLL (List.drop (Int.toNat (0 : Int)) (List.take i (encL l))))))) ≤ (1099511627776 : Nat)) (WkP (PV.agg [PV.d (DV.int IntKind.u8 (25 : Int)), PV.d (DV.int IntKind.u64 (0 : Int)), PV.d (DV.str []), PV.d (DV.sl (4 : Nat) (encL [V.mk (6 : Int) code [] (decLL (encL [])), V.mk (22 : Int) (0 : Int) [] (decLL (encL (decLL (List.drop (Int.toNat (0 : Int)) (List.take i (encL l))))))]))]) (vPV (putV code l))))))))))))))) by kernel_rfl) ?_
    simp only [Int.toNat_zero, List.drop_zero, encL_takeL, decLL_encL]
    refine ⟨fun hlt => ?_, fun hge => ?_⟩
    · have hlt : 0 < i := by simpa using hlt
      obtain ⟨j, rfl⟩ : ∃ j, i = j + 1 := ⟨i - 1, by omega⟩
      have hw : IntKind.i64.wrap (((j + 1 : Nat) : Int) - 1) = (j : Int) := by rw [i64_wrap (by omega) (by omega)]; omega
      have hj : j < l.length := by omega
      simp only [hw, Int.toNat_natCast, nthD_encL hj, cell_k]
      refine ⟨by simp; omega, by simp [hj], fun hk => ?_, fun hk => ?_⟩
      · have hk : (nthV l j).k = 1 := by simpa using hk
        refine hR ⟨j, by omega, ?_⟩ _ _ (by dsimp only; omega) (Sub.eq (by simp) rfl rfl rfl rfl)
        rw [← hc]; simp [cutN, hk]
      · have hk : (nthV l j).k ≠ 1 := by simpa using hk
        obtain ⟨h1, h2⟩ := fin (by simp [cutN, hk])
        exact ⟨rfl, rfl, ⟨.refl _, trivial⟩, rfl, h1.is, rfl, rfl, ⟨.refl _, by omega⟩, rfl, rfl, ⟨.refl _, by simp [V.size, sizeL]; omega⟩, by unfold putV; rw [h2]; exact .refl _⟩
    · have hge : i = 0 := by have : ¬ (0 : Int) < i := by simpa using hge
                             omega
      subst hge
      obtain ⟨h1, h2⟩ := fin rfl
      exact ⟨rfl, rfl, ⟨.refl _, trivial⟩, rfl, h1.is, rfl, rfl, ⟨.refl _, by omega⟩, rfl, rfl, ⟨.refl _, by simp [V.size, sizeL]⟩, by unfold putV; rw [h2]; exact .refl _⟩
  · intro R hR
    refine Eq.mpr (show _ = (R [(0 : Nat), (0 : Nat), (1 : Nat), (1 : Nat)] [PV.d (DV.int IntKind.u64 code), PV.d (DV.sl (4 : Nat) (encL l)), PV.box (0 : Nat) (0 : Nat), PV.d (DV.int IntKind.i64 (↑(List.length (encL l)) : Int))] [AB.box (28 : Nat) [PV.d (DV.ki IntKind.u8 (0 : Int)), PV.d (DV.ki IntKind.u64 (0 : Int)), PV.d (DV.str []), PV.d DV.nil]]) by kernel_rfl) ?_
    refine hR ⟨l.length, Nat.le_refl _, rfl⟩ _ _ (Sub.eq (by simp) ?_ rfl rfl rfl)
    rw [encL_length]

def asciiB (s : List UInt8) : Bool := s.all fun b => b.toNat < 128
theorem asciiB_take {s : List UInt8} {i : Nat} (h : i < s.length) : asciiB (s.take (i + 1)) = (asciiB (s.take i) && decide ((nthB s i).toNat < 128)) := by
  rw [take_succ_nthB h]; simp [asciiB]

theorem val_ascii (s : List UInt8) : G 75 [.d (.sl 1 (bytesEls s))] (.d (.bool (asciiB s))) := by
  refine CallW.assume (known _ (by kernel_rfl)) fun hs _ => ?_
  have hl : s.length ≤ 9223372036854775807 := by
    have h1 := hs _ (List.mem_singleton.2 rfl)
    have h2 : (bytesEls s).length ≤ longest := h1.1
    rw [bytesEls_length] at h2
    exact h2
  clear hs
  refine gives_of ?_
  refine walk ctxOK (calling_of (l := []) (m := []) (by simp) (by simp)) (cut := [])
    (A := { i : Nat // i ≤ s.length ∧ asciiB (s.take i) = true })
    (fun _ => [0, 1, 0, 1]) (fun i => [.d (.sl 1 (bytesEls s)), .d (.int .i64 s.length), .d (.int .i64 i.1)]) (fun i => []) (fun i => s.length - i.1) [([0, 1, 0, 1], [5, 6, 7])] 60
    (fun _ => by kernel_rfl) ?_ ?_
  · rintro ⟨i, hi, hc⟩ R hR
    dsimp only
    refine Eq.mpr (show _ = (Split2 (decide ((↑i : Int) < (↑(List.length s) : Int))) (Need (decide ((0 : Int) ≤ (↑i : Int)) && decide ((↑i : Int) < (↑(List.length (bytesEls s)) : Int))) (Need (elemOK [CK.int IntKind.u8] (bytesEls s) i) (Split2 (decide (DV.gI (cellD (nthD (bytesEls s) i) (0 : Nat)) ≥ (128 : Int))) (WkP (PV.d (DV.bool false)) (PV.d (DV.bool (asciiB s)))) (R [(0 : Nat), (1 : Nat), (0 : Nat), (1 : Nat)] [PV.d (DV.sl (1 : Nat) (bytesEls s)), PV.d (DV.int IntKind.i64 (↑(List.length s) : Int)), PV.d (DV.int IntKind.i64 (IntKind.wrap IntKind.i64 ((↑i : Int) + (1 : Int))))] [])))) (WkP (PV.d (DV.bool true)) (PV.d (DV.bool (asciiB s))))) by kernel_rfl) ?_
    refine ⟨fun hlt => ?_, fun hge => ?_⟩
    · have hlt : i < s.length := by simpa using hlt
      have hstep := asciiB_take hlt
      simp only [nthD_bytes hlt, cell_b]
      refine ⟨by simp; omega, elemOK_bytes hlt, fun hk => wk_bool ?_, fun hk => ?_⟩
      · have hk : 128 ≤ (nthB s i).toNat := by simp at hk; omega
        have h1 : decide ((nthB s i).toNat < 128) = false := by simp; omega
        rw [h1, Bool.and_false] at hstep
        cases ha : asciiB s with
        | false => rfl
        | true =>
          have : asciiB (s.take (i + 1)) = true := by
            unfold asciiB at ha ⊢
            rw [List.all_eq_true] at ha ⊢
            exact fun x hx => ha x (List.mem_of_mem_take hx)
          rw [this] at hstep; cases hstep
      · have hk : (nthB s i).toNat < 128 := by simp at hk; omega
        refine hR ⟨i + 1, by omega, by rw [hstep, hc]; simpa using hk⟩ _ _ (by dsimp only; omega) (Sub.eq (by simp) ?_ rfl rfl rfl)
        rw [i64_wrap (by omega) (by omega)]; rfl
    · have hge : s.length ≤ i := by simpa using hge
      have he : i = s.length := by omega
      subst he
      rw [List.take_length] at hc
      exact wk_bool hc
  · intro R hR
    refine Eq.mpr (show _ = (R [(0 : Nat), (1 : Nat), (0 : Nat), (1 : Nat)] [PV.d (DV.sl (1 : Nat) (bytesEls s)), PV.d (DV.int IntKind.i64 (↑(List.length (bytesEls s)) : Int)), PV.d (DV.int IntKind.i64 (0 : Int))] []) by kernel_rfl) ?_
    refine hR ⟨0, Nat.zero_le _, rfl⟩ _ _ (Sub.eq (by simp) ?_ rfl rfl rfl)
    simp

theorem ref_ascii (s : List UInt8) : G 105 [.d (.sl 1 (bytesEls s))] (.d (.bool (asciiB s))) := by
  refine CallW.assume (known _ (by kernel_rfl)) fun hs _ => ?_
  have hl : s.length ≤ 9223372036854775807 := by
    have h1 := hs _ (List.mem_singleton.2 rfl)
    have h2 : (bytesEls s).length ≤ longest := h1.1
    rw [bytesEls_length] at h2
    exact h2
  clear hs
  refine gives_of ?_
  refine walk ctxOK (calling_of (l := []) (m := []) (by simp) (by simp)) (cut := [])
    (A := { i : Nat // i ≤ s.length ∧ asciiB (s.take i) = true })
    (fun _ => [0, 1, 0, 1]) (fun i => [.d (.sl 1 (bytesEls s)), .d (.int .i64 i.1)]) (fun i => []) (fun i => s.length - i.1) [([0, 1, 0, 1], [0, 3])] 60
    (fun _ => by kernel_rfl) ?_ ?_
  · rintro ⟨i, hi, hc⟩ R hR
    dsimp only
    refine Eq.mpr (show _ = (Split2 (decide ((↑i : Int) < (↑(List.length (bytesEls s)) : Int))) (Need (decide ((0 : Int) ≤ (↑i : Int)) && decide ((↑i : Int) < (↑(List.length (bytesEls s)) : Int))) (Need (elemOK [CK.int IntKind.u8] (bytesEls s) i) (Split2 (decide (DV.gI (cellD (nthD (bytesEls s) i) (0 : Nat)) > (127 : Int))) (WkP (PV.d (DV.bool false)) (PV.d (DV.bool (asciiB s)))) (R [(0 : Nat), (1 : Nat), (0 : Nat), (1 : Nat)] [PV.d (DV.sl (1 : Nat) (bytesEls s)), PV.d (DV.int IntKind.i64 (IntKind.wrap IntKind.i64 ((↑i : Int) + (1 : Int))))] [])))) (WkP (PV.d (DV.bool true)) (PV.d (DV.bool (asciiB s))))) by kernel_rfl) ?_
    refine ⟨fun hlt => ?_, fun hge => ?_⟩
    · have hlt : i < s.length := by simpa using hlt
      have hstep := asciiB_take hlt
      simp only [nthD_bytes hlt, cell_b]
      refine ⟨by simp; omega, elemOK_bytes hlt, fun hk => wk_bool ?_, fun hk => ?_⟩
      · have hk : 128 ≤ (nthB s i).toNat := by simp at hk; omega
        have h1 : decide ((nthB s i).toNat < 128) = false := by simp; omega
        rw [h1, Bool.and_false] at hstep
        cases ha : asciiB s with
        | false => rfl
        | true =>
          have : asciiB (s.take (i + 1)) = true := by
            unfold asciiB at ha ⊢
            rw [List.all_eq_true] at ha ⊢
            exact fun x hx => ha x (List.mem_of_mem_take hx)
          rw [this] at hstep; cases hstep
      · have hk : (nthB s i).toNat < 128 := by simp at hk; omega
        refine hR ⟨i + 1, by omega, by rw [hstep, hc]; simpa using hk⟩ _ _ (by dsimp only; omega) (Sub.eq (by simp) ?_ rfl rfl rfl)
        rw [i64_wrap (by omega) (by omega)]; rfl
    · have hge : s.length ≤ i := by simpa using hge
      have he : i = s.length := by omega
      subst he
      rw [List.take_length] at hc
      exact wk_bool hc
  · intro R hR
    refine Eq.mpr (show _ = (R [(0 : Nat), (1 : Nat), (0 : Nat), (1 : Nat)] [PV.d (DV.sl (1 : Nat) (bytesEls s)), PV.d (DV.int IntKind.i64 (0 : Int))] []) by kernel_rfl) ?_
    refine hR ⟨0, Nat.zero_le _, rfl⟩ _ _ (Sub.eq (by simp) ?_ rfl rfl rfl)
    simp
end Go.Proofs.Ytepgblhhajdmoaa
