/-
  What Put makes of an outcome, and which may be, on both sides.
-/
import Derived.Test.YtepgblhhajdmoaaOutc1
set_option linter.unusedVariables false
set_option linter.unusedSimpArgs false
namespace Go.Proofs.Ytepgblhhajdmoaa
open Go Go.Proofs.Ytepgblhhajdmoaa.Eng
def ceE (c : List UInt8) : PV := vePV (condV c)
set_option maxHeartbeats 2000000 in
theorem ref_may (o : Oc) (hc : o.c.length ≤ 1099511627776) : G 71 [oPV o] (.d (.bool (mayB o))) := by
  refine gives_of (walk0 ctxOK (calling_of (l := [E1 72 aS (fun c => c.length ≤ 1099511627776) (fun c => vePV (condV c))]) (m := []) (by simp only [List.mem_singleton, forall_eq]; exact E1_ok fun c h => ref_putCond c h) (by simp)) (cut := []) 60 ?_)
  refine Eq.mpr (show _ = (NeedP (WkPs [PV.d (DV.str (Oc.c o))] [PV.d (DV.str (Oc.c o))] ∧ List.length (Oc.c o) ≤ (1099511627776 : Nat)) (Split2 (Prod.snd (condV (Oc.c o)) != (0 : Int)) (WkP (PV.d (DV.bool false)) (PV.d (DV.bool (mayB o)))) (Split2 (Oc.k o != (3 : Int)) (Split2 (!Oc.c o == Array.toList (ByteArray.data (ByteArray.mk #[]))) (WkP (PV.d (DV.bool false)) (PV.d (DV.bool (mayB o)))) (Split2 (Oc.k o == (0 : Int)) (Split2 (Oc.k o == (0 : Int)) (Split2 (Oc.a o == (0 : Int)) (WkP (PV.d (DV.bool (Oc.b o == (0 : Int)))) (PV.d (DV.bool (mayB o)))) (WkP (PV.d (DV.bool false)) (PV.d (DV.bool (mayB o))))) (Split2 (Oc.k o == (1 : Int)) (WkP (PV.d (DV.bool (decide (Oc.a o < (4294967296 : Int))))) (PV.d (DV.bool (mayB o)))) (Split2 (Oc.k o == (5 : Int)) (Split2 (decide (Oc.a o ≤ (1 : Int))) (WkP (PV.d (DV.bool (decide (Oc.b o ≤ (1 : Int))))) (PV.d (DV.bool (mayB o)))) (WkP (PV.d (DV.bool false)) (PV.d (DV.bool (mayB o))))) (WkP (PV.d (DV.bool false)) (PV.d (DV.bool (mayB o))))))) (Split2 (Oc.k o == (2 : Int)) (Split2 (Oc.k o == (2 : Int)) (Split2 (Oc.a o == (0 : Int)) (WkP (PV.d (DV.bool (Oc.b o == (0 : Int)))) (PV.d (DV.bool (mayB o)))) (WkP (PV.d (DV.bool false)) (PV.d (DV.bool (mayB o))))) (Split2 (Oc.k o == (1 : Int)) (WkP (PV.d (DV.bool (decide (Oc.a o < (4294967296 : Int))))) (PV.d (DV.bool (mayB o)))) (Split2 (Oc.k o == (5 : Int)) (Split2 (decide (Oc.a o ≤ (1 : Int))) (WkP (PV.d (DV.bool (decide (Oc.b o ≤ (1 : Int))))) (PV.d (DV.bool (mayB o)))) (WkP (PV.d (DV.bool false)) (PV.d (DV.bool (mayB o))))) (WkP (PV.d (DV.bool false)) (PV.d (DV.bool (mayB o))))))) (Split2 (Oc.k o == (3 : Int)) (Split2 (Oc.k o == (3 : Int)) (Split2 (Oc.a o == (0 : Int)) (WkP (PV.d (DV.bool (Oc.b o == (0 : Int)))) (PV.d (DV.bool (mayB o)))) (WkP (PV.d (DV.bool false)) (PV.d (DV.bool (mayB o))))) (Split2 (Oc.k o == (1 : Int)) (WkP (PV.d (DV.bool (decide (Oc.a o < (4294967296 : Int))))) (PV.d (DV.bool (mayB o)))) (Split2 (Oc.k o == (5 : Int)) (Split2 (decide (Oc.a o ≤ (1 : Int))) (WkP (PV.d (DV.bool (decide (Oc.b o ≤ (1 : Int))))) (PV.d (DV.bool (mayB o)))) (WkP (PV.d (DV.bool false)) (PV.d (DV.bool (mayB o))))) (WkP (PV.d (DV.bool false)) (PV.d (DV.bool (mayB o))))))) (Split2 (Oc.k o == (4 : Int)) (Split2 (Oc.a o == (0 : Int)) (WkP (PV.d (DV.bool (Oc.b o == (0 : Int)))) (PV.d (DV.bool (mayB o)))) (WkP (PV.d (DV.bool false)) (PV.d (DV.bool (mayB o))))) (Split2 (Oc.k o == (1 : Int)) (WkP (PV.d (DV.bool (decide (Oc.a o < (4294967296 : Int))))) (PV.d (DV.bool (mayB o)))) (Split2 (Oc.k o == (5 : Int)) (Split2 (decide (Oc.a o ≤ (1 : Int))) (WkP (PV.d (DV.bool (decide (Oc.b o ≤ (1 : Int))))) (PV.d (DV.bool (mayB o)))) (WkP (PV.d (DV.bool false)) (PV.d (DV.bool (mayB o))))) (WkP (PV.d (DV.bool false)) (PV.d (DV.bool (mayB o))))))))))) (Split2 (Oc.k o == (0 : Int)) (Split2 (Oc.k o == (0 : Int)) (Split2 (Oc.a o == (0 : Int)) (WkP (PV.d (DV.bool (Oc.b o == (0 : Int)))) (PV.d (DV.bool (mayB o)))) (WkP (PV.d (DV.bool false)) (PV.d (DV.bool (mayB o))))) (Split2 (Oc.k o == (1 : Int)) (WkP (PV.d (DV.bool (decide (Oc.a o < (4294967296 : Int))))) (PV.d (DV.bool (mayB o)))) (Split2 (Oc.k o == (5 : Int)) (Split2 (decide (Oc.a o ≤ (1 : Int))) (WkP (PV.d (DV.bool (decide (Oc.b o ≤ (1 : Int))))) (PV.d (DV.bool (mayB o)))) (WkP (PV.d (DV.bool false)) (PV.d (DV.bool (mayB o))))) (WkP (PV.d (DV.bool false)) (PV.d (DV.bool (mayB o))))))) (Split2 (Oc.k o == (2 : Int)) (Split2 (Oc.k o == (2 : Int)) (Split2 (Oc.a o == (0 : Int)) (WkP (PV.d (DV.bool (Oc.b o == (0 : Int)))) (PV.d (DV.bool (mayB o)))) (WkP (PV.d (DV.bool false)) (PV.d (DV.bool (mayB o))))) (Split2 (Oc.k o == (1 : Int)) (WkP (PV.d (DV.bool (decide (Oc.a o < (4294967296 : Int))))) (PV.d (DV.bool (mayB o)))) (Split2 (Oc.k o == (5 : Int)) (Split2 (decide (Oc.a o ≤ (1 : Int))) (WkP (PV.d (DV.bool (decide (Oc.b o ≤ (1 : Int))))) (PV.d (DV.bool (mayB o)))) (WkP (PV.d (DV.bool false)) (PV.d (DV.bool (mayB o))))) (WkP (PV.d (DV.bool false)) (PV.d (DV.bool (mayB o))))))) (Split2 (Oc.k o == (3 : Int)) (Split2 (Oc.k o == (3 : Int)) (Split2 (Oc.a o == (0 : Int)) (WkP (PV.d (DV.bool (Oc.b o == (0 : Int)))) (PV.d (DV.bool (mayB o)))) (WkP (PV.d (DV.bool false)) (PV.d (DV.bool (mayB o))))) (Split2 (Oc.k o == (1 : Int)) (WkP (PV.d (DV.bool (decide (Oc.a o < (4294967296 : Int))))) (PV.d (DV.bool (mayB o)))) (Split2 (Oc.k o == (5 : Int)) (Split2 (decide (Oc.a o ≤ (1 : Int))) (WkP (PV.d (DV.bool (decide (Oc.b o ≤ (1 : Int))))) (PV.d (DV.bool (mayB o)))) (WkP (PV.d (DV.bool false)) (PV.d (DV.bool (mayB o))))) (WkP (PV.d (DV.bool false)) (PV.d (DV.bool (mayB o))))))) (Split2 (Oc.k o == (4 : Int)) (Split2 (Oc.a o == (0 : Int)) (WkP (PV.d (DV.bool (Oc.b o == (0 : Int)))) (PV.d (DV.bool (mayB o)))) (WkP (PV.d (DV.bool false)) (PV.d (DV.bool (mayB o))))) (Split2 (Oc.k o == (1 : Int)) (WkP (PV.d (DV.bool (decide (Oc.a o < (4294967296 : Int))))) (PV.d (DV.bool (mayB o)))) (Split2 (Oc.k o == (5 : Int)) (Split2 (decide (Oc.a o ≤ (1 : Int))) (WkP (PV.d (DV.bool (decide (Oc.b o ≤ (1 : Int))))) (PV.d (DV.bool (mayB o)))) (WkP (PV.d (DV.bool false)) (PV.d (DV.bool (mayB o))))) (WkP (PV.d (DV.bool false)) (PV.d (DV.bool (mayB o))))))))))))) by kernel_rfl) ?_
  refine ⟨⟨.refl _, hc⟩, ?_⟩
  have he : (condV o.c).2 = if asciiB o.c then 0 else 1 := by unfold condV; split <;> (try split) <;> rfl
  repeat' (first | (refine Split2.mk (fun h => ?_) (fun h => ?_)))
  all_goals (refine wk_bool ?_; simp_all [mayB])
  all_goals first | rfl | (intros; omega)
def fieldsO (o : Oc) : List V :=
  if o.k = 1 then [.mk 5 o.a [] [], .mk 6 o.b [] []] else if o.k = 3 then [(condV o.c).1] else if o.k = 5 then [flagV o.a, flagV o.b] else []
def outV (o : Oc) : V × Int := if mayB o = true then (if o.k = 0 then (nullV, 0) else (putV (34 + o.k) (fieldsO o), 0)) else (zeroV, 1)
theorem condV_size (c : List UInt8) : (condV c).1.size ≤ 4 := by
  have h := putV_size 29 [.mk 21 0 c []]
  simp only [sizeL, V.size] at h
  unfold condV
  split
  · split
    · simp [nullV, V.size, sizeL]
    · dsimp only; omega
  · simp [zeroV, V.size, sizeL]
theorem flagV_size (n : Int) : (flagV n).size = 1 := by unfold flagV; split <;> simp [nullV, boolV, V.size, sizeL]
theorem fieldsO_size (o : Oc) : sizeL (fieldsO o) ≤ 4 := by
  have := condV_size o.c
  unfold fieldsO
  split
  · simp [V.size, sizeL]
  · split
    · simp [sizeL]; omega
    · split
      · simp [sizeL, flagV_size]
      · simp [sizeL]
theorem mayB_k {o : Oc} (h : mayB o = true) : 0 ≤ o.k ∧ o.k ≤ 5 := by
  unfold mayB at h
  rw [Bool.and_eq_true] at h
  have h := h.2
  split at h
  · omega
  · split at h
    · omega
    · split at h
      · omega
      · cases h
theorem outV_no {o : Oc} (h : mayB o = false) : outV o = (zeroV, 1) := by simp [outV, h]
theorem outV_yes {o : Oc} {k : Int} (h : mayB o = true) (hk : k ≠ 0) (he : k = o.k) {l : List V} (hl : fieldsO o = l) : outV o = (putV (34 + k) l, 0) := by
  subst he; subst hl; simp [outV, h, hk]
abbrev putVals (o : Oc) (i : Nat) : List PV := [oPV o, .box 0 0, .box 1 0, .d (.sl 6 formRows), .d (.ki .i64 5), .d (.ki .i64 i)]
abbrev putHeap (o : Oc) : List AB := [.box 64 [PV.d (DV.int IntKind.u8 (Oc.k o)), PV.d (DV.int IntKind.u64 (Oc.a o)), PV.d (DV.int IntKind.u64 (Oc.b o)), PV.d (DV.str (Oc.c o))], .box 28 [.d (.ki .u8 0), .d (.ki .u64 0), .d (.str []), .d .nil]]
theorem putWk (o : Oc) {i j : Int} (h : i = j) : Wks [.d (.int .i64 i)] [.d (.ki .i64 j)] := by subst h; exact .cons (.kn _ _) .nil
set_option maxHeartbeats 4000000 in
set_option maxRecDepth 100000 in
theorem val_outPut (o : Oc) (hc : o.c.length ≤ 1099511627776) : G 35 [oPV o] (vePV (outV o)) := by
  have hsz := fieldsO_size o
  refine gives_of ?_
  refine walk ctxOK (calling_of (l := [E1 69 aO (fun o => o.c.length ≤ 1099511627776) (fun o => .d (.bool (mayB o))),
    E0' 70 formsPV,
    E2 15 (aI .u64) aVs (fun _ l => sizeL l + 3 ≤ 1099511627776) (fun c l => vPV (putV c l)),
    E0' 33 (vPV nullV),
    E1 96 aO (fun _ => True) (fun o => .d (.sl 4 (encL [.mk 5 o.a [] [], .mk 6 o.b [] []]))),
    E1 98 aO (fun _ => True) (fun o => .d (.sl 4 (encL []))),
    E1 100 aO (fun o => o.c.length ≤ 1099511627776) (fun o => .d (.sl 4 (encL [(condV o.c).1]))),
    E1 102 aO (fun _ => True) (fun o => .d (.sl 4 (encL [flagV o.a, flagV o.b])))]) (m := []) ?_ (by simp)) (cut := [])
    (A := { i : Nat // i ≤ 5 ∧ mayB o = true ∧ (o.k = 0 ∨ (i : Int) < o.k) })
    (fun _ => [0, 1, 0, 1, 1]) (fun i => putVals o i.1) (fun i => putHeap o) (fun i => 5 - i.1) [([0, 1, 0, 1, 1], [0, 1, 2, 10, 11, 12])] 60
    (fun _ => by kernel_rfl) ?_ ?_
  · intro e he
    simp only [List.mem_cons, List.not_mem_nil, or_false] at he
    rcases he with rfl | rfl | rfl | rfl | rfl | rfl | rfl | rfl
    · exact E1_ok fun o h => val_may o h
    · exact E0_ok val_forms
    · exact E2_ok fun k l h => val_put k l h
    · exact E0_ok val_null
    · exact E1_ok fun o _ => put_received o
    · exact E1_ok fun o _ => put_nothing o
    · exact E1_ok fun o h => put_rejected o h
    · exact E1_ok fun o _ => put_modified o
  · rintro ⟨i, hi, hm, hk⟩ R hR
    have H : i = 0 ∨ i = 1 ∨ i = 2 ∨ i = 3 ∨ i = 4 ∨ i = 5 := by omega
    have hf : ∀ l, fieldsO o = l → encL l = encL (fieldsO o) := fun l h => by rw [h]
    rcases H with rfl | rfl | rfl | rfl | rfl | rfl
    · dsimp only
      refine Eq.mpr (show _ = (Need (decide ((0 : Int) ≤ (↑(0 : Nat) : Int)) && decide ((↑(0 : Nat) : Int) < (↑(List.length formRows) : Int))) (Split2 ((1 : Int) == Oc.k o) (Need true (NeedP (WkPs [PV.agg [PV.d (DV.int IntKind.u8 (Oc.k o)), PV.d (DV.int IntKind.u64 (Oc.a o)), PV.d (DV.int IntKind.u64 (Oc.b o)), PV.d (DV.str (Oc.c o))]] [oPV o] ∧ True) (Need true (Need true (NeedP (WkPs [PV.d (DV.int IntKind.u64 (35 : Int)), PV.d (DV.sl (4 : Nat) (encL [V.mk (5 : Int) (Oc.a o) [] [], V.mk (6 : Int) (Oc.b o) [] []]))] [PV.d (DV.int IntKind.u64 (35 : Int)), PV.d (DV.sl (4 : Nat) (encL (decLL (encL [V.mk (5 : Int) (Oc.a o) [] [], V.mk (6 : Int) (Oc.b o) [] []]))))] ∧ sizeL (decLL (encL [V.mk (5 : Int) (Oc.a o) [] [], V.mk (6 : Int) (Oc.b o) [] []])) + (3 : Nat) ≤ (1099511627776 : Nat)) (WkP (PV.tup [PV.agg [PV.d (DV.int IntKind.u8 (V.k (putV (35 : Int) (decLL (encL [V.mk (5 : Int) (Oc.a o) [] [], V.mk (6 : Int) (Oc.b o) [] []]))))), PV.d (DV.int IntKind.u64 (V.n (putV (35 : Int) (decLL (encL [V.mk (5 : Int) (Oc.a o) [] [], V.mk (6 : Int) (Oc.b o) [] []]))))), PV.d (DV.str (V.t (putV (35 : Int) (decLL (encL [V.mk (5 : Int) (Oc.a o) [] [], V.mk (6 : Int) (Oc.b o) [] []]))))), PV.d (DV.sl (4 : Nat) (encL (V.kids (putV (35 : Int) (decLL (encL [V.mk (5 : Int) (Oc.a o) [] [], V.mk (6 : Int) (Oc.b o) [] []]))))))], PV.d (DV.int IntKind.i64 (0 : Int))]) (vePV (outV o)))))))) (R [(0 : Nat), (1 : Nat), (0 : Nat), (1 : Nat), (1 : Nat)] [PV.agg [PV.d (DV.int IntKind.u8 (Oc.k o)), PV.d (DV.int IntKind.u64 (Oc.a o)), PV.d (DV.int IntKind.u64 (Oc.b o)), PV.d (DV.str (Oc.c o))], PV.box (0 : Nat) (0 : Nat), PV.box (1 : Nat) (0 : Nat), PV.d (DV.sl (6 : Nat) formRows), PV.d (DV.int IntKind.i64 (5 : Int)), PV.d (DV.int IntKind.i64 (IntKind.wrap IntKind.i64 ((↑(0 : Nat) : Int) + (1 : Int))))] [AB.box (64 : Nat) [PV.d (DV.int IntKind.u8 (Oc.k o)), PV.d (DV.int IntKind.u64 (Oc.a o)), PV.d (DV.int IntKind.u64 (Oc.b o)), PV.d (DV.str (Oc.c o))], AB.box (28 : Nat) [PV.d (DV.ki IntKind.u8 (0 : Int)), PV.d (DV.ki IntKind.u64 (0 : Int)), PV.d (DV.str []), PV.d DV.nil], AB.box (95 : Nat) [PV.d (DV.int IntKind.u8 (1 : Int)), PV.d (DV.int IntKind.u64 (35 : Int)), PV.d (DV.str (formName (0 : Nat))), PV.d (DV.int IntKind.i64 (2 : Int)), PV.d (DV.fn (96 : Nat)), PV.d (DV.fn (97 : Nat))]]))) by kernel_rfl) ?_
      refine ⟨by decide, fun h => ?_, fun h => ?_⟩
      · have hk1 : (1 : Int) = o.k := by simpa using h
        have hl : fieldsO o = [.mk 5 o.a [] [], .mk 6 o.b [] []] := by simp [fieldsO, ← hk1]
        rw [hl] at hsz
        simp only [decLL_encL]
        first
          | exact ⟨rfl, ⟨.refl _, trivial⟩, rfl, rfl, ⟨.refl _, by omega⟩, wk_ve (outV_yes hm (by decide) hk1 hl)⟩
          | exact ⟨rfl, ⟨.refl _, hc⟩, rfl, rfl, ⟨.refl _, by omega⟩, wk_ve (outV_yes hm (by decide) hk1 hl)⟩
      · have hk1 : (1 : Int) ≠ o.k := by simpa using h
        exact hR ⟨1, by omega, hm, by omega⟩ _ _ (by dsimp only; omega) (Sub.of (Nat.zero_le _) (.cons (.refl _) (.cons (.refl _) (.cons (.refl _) (.cons (.refl _) (.cons (.kn _ _) (putWk o rfl)))))) (WkA.refl _) rfl rfl)
    · dsimp only
      refine Eq.mpr (show _ = (Need (decide ((0 : Int) ≤ (↑(1 : Nat) : Int)) && decide ((↑(1 : Nat) : Int) < (↑(List.length formRows) : Int))) (Split2 ((2 : Int) == Oc.k o) (Need true (NeedP (WkPs [PV.agg [PV.d (DV.int IntKind.u8 (Oc.k o)), PV.d (DV.int IntKind.u64 (Oc.a o)), PV.d (DV.int IntKind.u64 (Oc.b o)), PV.d (DV.str (Oc.c o))]] [oPV o] ∧ True) (Need true (Need true (NeedP (WkPs [PV.d (DV.int IntKind.u64 (36 : Int)), PV.d (DV.sl (4 : Nat) (encL []))] [PV.d (DV.int IntKind.u64 (36 : Int)), PV.d (DV.sl (4 : Nat) (encL (decLL (encL []))))] ∧ sizeL (decLL (encL [])) + (3 : Nat) ≤ (1099511627776 : Nat)) (WkP (PV.tup [PV.agg [PV.d (DV.int IntKind.u8 (V.k (putV (36 : Int) (decLL (encL []))))), PV.d (DV.int IntKind.u64 (V.n (putV (36 : Int) (decLL (encL []))))), PV.d (DV.str (V.t (putV (36 : Int) (decLL (encL []))))), PV.d (DV.sl (4 : Nat) (encL (V.kids (putV (36 : Int) (decLL (encL []))))))], PV.d (DV.int IntKind.i64 (0 : Int))]) (vePV (outV o)))))))) (R [(0 : Nat), (1 : Nat), (0 : Nat), (1 : Nat), (1 : Nat)] [PV.agg [PV.d (DV.int IntKind.u8 (Oc.k o)), PV.d (DV.int IntKind.u64 (Oc.a o)), PV.d (DV.int IntKind.u64 (Oc.b o)), PV.d (DV.str (Oc.c o))], PV.box (0 : Nat) (0 : Nat), PV.box (1 : Nat) (0 : Nat), PV.d (DV.sl (6 : Nat) formRows), PV.d (DV.int IntKind.i64 (5 : Int)), PV.d (DV.int IntKind.i64 (IntKind.wrap IntKind.i64 ((↑(1 : Nat) : Int) + (1 : Int))))] [AB.box (64 : Nat) [PV.d (DV.int IntKind.u8 (Oc.k o)), PV.d (DV.int IntKind.u64 (Oc.a o)), PV.d (DV.int IntKind.u64 (Oc.b o)), PV.d (DV.str (Oc.c o))], AB.box (28 : Nat) [PV.d (DV.ki IntKind.u8 (0 : Int)), PV.d (DV.ki IntKind.u64 (0 : Int)), PV.d (DV.str []), PV.d DV.nil], AB.box (95 : Nat) [PV.d (DV.int IntKind.u8 (2 : Int)), PV.d (DV.int IntKind.u64 (36 : Int)), PV.d (DV.str (formName (1 : Nat))), PV.d (DV.int IntKind.i64 (0 : Int)), PV.d (DV.fn (98 : Nat)), PV.d (DV.fn (99 : Nat))]]))) by kernel_rfl) ?_
      refine ⟨by decide, fun h => ?_, fun h => ?_⟩
      · have hk2 : (2 : Int) = o.k := by simpa using h
        have hl : fieldsO o = [] := by simp [fieldsO, ← hk2]
        rw [hl] at hsz
        simp only [decLL_encL]
        first
          | exact ⟨rfl, ⟨.refl _, trivial⟩, rfl, rfl, ⟨.refl _, by omega⟩, wk_ve (outV_yes hm (by decide) hk2 hl)⟩
          | exact ⟨rfl, ⟨.refl _, hc⟩, rfl, rfl, ⟨.refl _, by omega⟩, wk_ve (outV_yes hm (by decide) hk2 hl)⟩
      · have hk2 : (2 : Int) ≠ o.k := by simpa using h
        exact hR ⟨2, by omega, hm, by omega⟩ _ _ (by dsimp only; omega) (Sub.of (Nat.zero_le _) (.cons (.refl _) (.cons (.refl _) (.cons (.refl _) (.cons (.refl _) (.cons (.kn _ _) (putWk o rfl)))))) (WkA.refl _) rfl rfl)
    · dsimp only
      refine Eq.mpr (show _ = (Need (decide ((0 : Int) ≤ (↑(2 : Nat) : Int)) && decide ((↑(2 : Nat) : Int) < (↑(List.length formRows) : Int))) (Split2 ((3 : Int) == Oc.k o) (Need true (NeedP (WkPs [PV.agg [PV.d (DV.int IntKind.u8 (Oc.k o)), PV.d (DV.int IntKind.u64 (Oc.a o)), PV.d (DV.int IntKind.u64 (Oc.b o)), PV.d (DV.str (Oc.c o))]] [oPV o] ∧ List.length (Oc.c o) ≤ (1099511627776 : Nat)) (Need true (Need true (NeedP (WkPs [PV.d (DV.int IntKind.u64 (37 : Int)), PV.d (DV.sl (4 : Nat) (encL [Prod.fst (condV (Oc.c o))]))] [PV.d (DV.int IntKind.u64 (37 : Int)), PV.d (DV.sl (4 : Nat) (encL (decLL (encL [Prod.fst (condV (Oc.c o))]))))] ∧ sizeL (decLL (encL [Prod.fst (condV (Oc.c o))])) + (3 : Nat) ≤ (1099511627776 : Nat)) (WkP (PV.tup [PV.agg [PV.d (DV.int IntKind.u8 (V.k (putV (37 : Int) (decLL (encL [Prod.fst (condV (Oc.c o))]))))), PV.d (DV.int IntKind.u64 (V.n (putV (37 : Int) (decLL (encL [Prod.fst (condV (Oc.c o))]))))), PV.d (DV.str (V.t (putV (37 : Int) (decLL (encL [Prod.fst (condV (Oc.c o))]))))), PV.d (DV.sl (4 : Nat) (encL (V.kids (putV (37 : Int) (decLL (encL [Prod.fst (condV (Oc.c o))]))))))], PV.d (DV.int IntKind.i64 (0 : Int))]) (vePV (outV o)))))))) (R [(0 : Nat), (1 : Nat), (0 : Nat), (1 : Nat), (1 : Nat)] [PV.agg [PV.d (DV.int IntKind.u8 (Oc.k o)), PV.d (DV.int IntKind.u64 (Oc.a o)), PV.d (DV.int IntKind.u64 (Oc.b o)), PV.d (DV.str (Oc.c o))], PV.box (0 : Nat) (0 : Nat), PV.box (1 : Nat) (0 : Nat), PV.d (DV.sl (6 : Nat) formRows), PV.d (DV.int IntKind.i64 (5 : Int)), PV.d (DV.int IntKind.i64 (IntKind.wrap IntKind.i64 ((↑(2 : Nat) : Int) + (1 : Int))))] [AB.box (64 : Nat) [PV.d (DV.int IntKind.u8 (Oc.k o)), PV.d (DV.int IntKind.u64 (Oc.a o)), PV.d (DV.int IntKind.u64 (Oc.b o)), PV.d (DV.str (Oc.c o))], AB.box (28 : Nat) [PV.d (DV.ki IntKind.u8 (0 : Int)), PV.d (DV.ki IntKind.u64 (0 : Int)), PV.d (DV.str []), PV.d DV.nil], AB.box (95 : Nat) [PV.d (DV.int IntKind.u8 (3 : Int)), PV.d (DV.int IntKind.u64 (37 : Int)), PV.d (DV.str (formName (2 : Nat))), PV.d (DV.int IntKind.i64 (1 : Int)), PV.d (DV.fn (100 : Nat)), PV.d (DV.fn (101 : Nat))]]))) by kernel_rfl) ?_
      refine ⟨by decide, fun h => ?_, fun h => ?_⟩
      · have hk3 : (3 : Int) = o.k := by simpa using h
        have hl : fieldsO o = [(condV o.c).1] := by simp [fieldsO, ← hk3]
        rw [hl] at hsz
        simp only [decLL_encL]
        first
          | exact ⟨rfl, ⟨.refl _, trivial⟩, rfl, rfl, ⟨.refl _, by omega⟩, wk_ve (outV_yes hm (by decide) hk3 hl)⟩
          | exact ⟨rfl, ⟨.refl _, hc⟩, rfl, rfl, ⟨.refl _, by omega⟩, wk_ve (outV_yes hm (by decide) hk3 hl)⟩
      · have hk3 : (3 : Int) ≠ o.k := by simpa using h
        exact hR ⟨3, by omega, hm, by omega⟩ _ _ (by dsimp only; omega) (Sub.of (Nat.zero_le _) (.cons (.refl _) (.cons (.refl _) (.cons (.refl _) (.cons (.refl _) (.cons (.kn _ _) (putWk o rfl)))))) (WkA.refl _) rfl rfl)
    · dsimp only
      refine Eq.mpr (show _ = (Need (decide ((0 : Int) ≤ (↑(3 : Nat) : Int)) && decide ((↑(3 : Nat) : Int) < (↑(List.length formRows) : Int))) (Split2 ((4 : Int) == Oc.k o) (Need true (NeedP (WkPs [PV.agg [PV.d (DV.int IntKind.u8 (Oc.k o)), PV.d (DV.int IntKind.u64 (Oc.a o)), PV.d (DV.int IntKind.u64 (Oc.b o)), PV.d (DV.str (Oc.c o))]] [oPV o] ∧ True) (Need true (Need true (NeedP (WkPs [PV.d (DV.int IntKind.u64 (38 : Int)), PV.d (DV.sl (4 : Nat) (encL []))] [PV.d (DV.int IntKind.u64 (38 : Int)), PV.d (DV.sl (4 : Nat) (encL (decLL (encL []))))] ∧ sizeL (decLL (encL [])) + (3 : Nat) ≤ (1099511627776 : Nat)) (WkP (PV.tup [PV.agg [PV.d (DV.int IntKind.u8 (V.k (putV (38 : Int) (decLL (encL []))))), PV.d (DV.int IntKind.u64 (V.n (putV (38 : Int) (decLL (encL []))))), PV.d (DV.str (V.t (putV (38 : Int) (decLL (encL []))))), PV.d (DV.sl (4 : Nat) (encL (V.kids (putV (38 : Int) (decLL (encL []))))))], PV.d (DV.int IntKind.i64 (0 : Int))]) (vePV (outV o)))))))) (R [(0 : Nat), (1 : Nat), (0 : Nat), (1 : Nat), (1 : Nat)] [PV.agg [PV.d (DV.int IntKind.u8 (Oc.k o)), PV.d (DV.int IntKind.u64 (Oc.a o)), PV.d (DV.int IntKind.u64 (Oc.b o)), PV.d (DV.str (Oc.c o))], PV.box (0 : Nat) (0 : Nat), PV.box (1 : Nat) (0 : Nat), PV.d (DV.sl (6 : Nat) formRows), PV.d (DV.int IntKind.i64 (5 : Int)), PV.d (DV.int IntKind.i64 (IntKind.wrap IntKind.i64 ((↑(3 : Nat) : Int) + (1 : Int))))] [AB.box (64 : Nat) [PV.d (DV.int IntKind.u8 (Oc.k o)), PV.d (DV.int IntKind.u64 (Oc.a o)), PV.d (DV.int IntKind.u64 (Oc.b o)), PV.d (DV.str (Oc.c o))], AB.box (28 : Nat) [PV.d (DV.ki IntKind.u8 (0 : Int)), PV.d (DV.ki IntKind.u64 (0 : Int)), PV.d (DV.str []), PV.d DV.nil], AB.box (95 : Nat) [PV.d (DV.int IntKind.u8 (4 : Int)), PV.d (DV.int IntKind.u64 (38 : Int)), PV.d (DV.str (formName (3 : Nat))), PV.d (DV.int IntKind.i64 (0 : Int)), PV.d (DV.fn (98 : Nat)), PV.d (DV.fn (99 : Nat))]]))) by kernel_rfl) ?_
      refine ⟨by decide, fun h => ?_, fun h => ?_⟩
      · have hk4 : (4 : Int) = o.k := by simpa using h
        have hl : fieldsO o = [] := by simp [fieldsO, ← hk4]
        rw [hl] at hsz
        simp only [decLL_encL]
        first
          | exact ⟨rfl, ⟨.refl _, trivial⟩, rfl, rfl, ⟨.refl _, by omega⟩, wk_ve (outV_yes hm (by decide) hk4 hl)⟩
          | exact ⟨rfl, ⟨.refl _, hc⟩, rfl, rfl, ⟨.refl _, by omega⟩, wk_ve (outV_yes hm (by decide) hk4 hl)⟩
      · have hk4 : (4 : Int) ≠ o.k := by simpa using h
        exact hR ⟨4, by omega, hm, by omega⟩ _ _ (by dsimp only; omega) (Sub.of (Nat.zero_le _) (.cons (.refl _) (.cons (.refl _) (.cons (.refl _) (.cons (.refl _) (.cons (.kn _ _) (putWk o rfl)))))) (WkA.refl _) rfl rfl)
    · dsimp only
      refine Eq.mpr (show _ = (Need (decide ((0 : Int) ≤ (↑(4 : Nat) : Int)) && decide ((↑(4 : Nat) : Int) < (↑(List.length formRows) : Int))) (Split2 ((5 : Int) == Oc.k o) (Need true (NeedP (WkPs [PV.agg [PV.d (DV.int IntKind.u8 (Oc.k o)), PV.d (DV.int IntKind.u64 (Oc.a o)), PV.d (DV.int IntKind.u64 (Oc.b o)), PV.d (DV.str (Oc.c o))]] [oPV o] ∧ True) (Need true (Need true (NeedP (WkPs [PV.d (DV.int IntKind.u64 (39 : Int)), PV.d (DV.sl (4 : Nat) (encL [flagV (Oc.a o), flagV (Oc.b o)]))] [PV.d (DV.int IntKind.u64 (39 : Int)), PV.d (DV.sl (4 : Nat) (encL (decLL (encL [flagV (Oc.a o), flagV (Oc.b o)]))))] ∧ sizeL (decLL (encL [flagV (Oc.a o), flagV (Oc.b o)])) + (3 : Nat) ≤ (1099511627776 : Nat)) (WkP (PV.tup [PV.agg [PV.d (DV.int IntKind.u8 (V.k (putV (39 : Int) (decLL (encL [flagV (Oc.a o), flagV (Oc.b o)]))))), PV.d (DV.int IntKind.u64 (V.n (putV (39 : Int) (decLL (encL [flagV (Oc.a o), flagV (Oc.b o)]))))), PV.d (DV.str (V.t (putV (39 : Int) (decLL (encL [flagV (Oc.a o), flagV (Oc.b o)]))))), PV.d (DV.sl (4 : Nat) (encL (V.kids (putV (39 : Int) (decLL (encL [flagV (Oc.a o), flagV (Oc.b o)]))))))], PV.d (DV.int IntKind.i64 (0 : Int))]) (vePV (outV o)))))))) (R [(0 : Nat), (1 : Nat), (0 : Nat), (1 : Nat), (1 : Nat)] [PV.agg [PV.d (DV.int IntKind.u8 (Oc.k o)), PV.d (DV.int IntKind.u64 (Oc.a o)), PV.d (DV.int IntKind.u64 (Oc.b o)), PV.d (DV.str (Oc.c o))], PV.box (0 : Nat) (0 : Nat), PV.box (1 : Nat) (0 : Nat), PV.d (DV.sl (6 : Nat) formRows), PV.d (DV.int IntKind.i64 (5 : Int)), PV.d (DV.int IntKind.i64 (IntKind.wrap IntKind.i64 ((↑(4 : Nat) : Int) + (1 : Int))))] [AB.box (64 : Nat) [PV.d (DV.int IntKind.u8 (Oc.k o)), PV.d (DV.int IntKind.u64 (Oc.a o)), PV.d (DV.int IntKind.u64 (Oc.b o)), PV.d (DV.str (Oc.c o))], AB.box (28 : Nat) [PV.d (DV.ki IntKind.u8 (0 : Int)), PV.d (DV.ki IntKind.u64 (0 : Int)), PV.d (DV.str []), PV.d DV.nil], AB.box (95 : Nat) [PV.d (DV.int IntKind.u8 (5 : Int)), PV.d (DV.int IntKind.u64 (39 : Int)), PV.d (DV.str (formName (4 : Nat))), PV.d (DV.int IntKind.i64 (3 : Int)), PV.d (DV.fn (102 : Nat)), PV.d (DV.fn (104 : Nat))]]))) by kernel_rfl) ?_
      refine ⟨by decide, fun h => ?_, fun h => ?_⟩
      · have hk5 : (5 : Int) = o.k := by simpa using h
        have hl : fieldsO o = [flagV o.a, flagV o.b] := by simp [fieldsO, ← hk5]
        rw [hl] at hsz
        simp only [decLL_encL]
        first
          | exact ⟨rfl, ⟨.refl _, trivial⟩, rfl, rfl, ⟨.refl _, by omega⟩, wk_ve (outV_yes hm (by decide) hk5 hl)⟩
          | exact ⟨rfl, ⟨.refl _, hc⟩, rfl, rfl, ⟨.refl _, by omega⟩, wk_ve (outV_yes hm (by decide) hk5 hl)⟩
      · have hk5 : (5 : Int) ≠ o.k := by simpa using h
        exact hR ⟨5, by omega, hm, by omega⟩ _ _ (by dsimp only; omega) (Sub.of (Nat.zero_le _) (.cons (.refl _) (.cons (.refl _) (.cons (.refl _) (.cons (.refl _) (.cons (.kn _ _) (putWk o rfl)))))) (WkA.refl _) rfl rfl)
    · dsimp only
      refine Eq.mpr (show _ = (WkP (PV.tup [PV.agg [PV.d (DV.int IntKind.u8 (V.k nullV)), PV.d (DV.int IntKind.u64 (V.n nullV)), PV.d (DV.str (V.t nullV)), PV.d (DV.sl (4 : Nat) (encL (V.kids nullV)))], PV.d (DV.int IntKind.i64 (0 : Int))]) (vePV (outV o))) by kernel_rfl) ?_
      have hk0 : o.k = 0 := by
        rcases hk with h | h
        · exact h
        · have := mayB_k hm; omega
      exact wk_ve (by unfold outV; rw [if_pos hm, if_pos hk0])
  · intro R hR
    refine Eq.mpr (show _ = (NeedP (WkPs [PV.agg [PV.d (DV.int IntKind.u8 (Oc.k o)), PV.d (DV.int IntKind.u64 (Oc.a o)), PV.d (DV.int IntKind.u64 (Oc.b o)), PV.d (DV.str (Oc.c o))]] [oPV o] ∧ List.length (Oc.c o) ≤ (1099511627776 : Nat)) (Split2 (!mayB o) (WkP (PV.tup [PV.agg [PV.d (DV.int IntKind.u8 (0 : Int)), PV.d (DV.int IntKind.u64 (0 : Int)), PV.d (DV.str []), PV.d DV.nil], PV.d (DV.int IntKind.i64 (1 : Int))]) (vePV (outV o))) (R [(0 : Nat), (1 : Nat), (0 : Nat), (1 : Nat), (1 : Nat)] [PV.agg [PV.d (DV.int IntKind.u8 (Oc.k o)), PV.d (DV.int IntKind.u64 (Oc.a o)), PV.d (DV.int IntKind.u64 (Oc.b o)), PV.d (DV.str (Oc.c o))], PV.box (0 : Nat) (0 : Nat), PV.box (1 : Nat) (0 : Nat), PV.d (DV.sl (6 : Nat) formRows), PV.d (DV.int IntKind.i64 (↑(List.length formRows) : Int)), PV.d (DV.int IntKind.i64 (0 : Int))] [AB.box (64 : Nat) [PV.d (DV.int IntKind.u8 (Oc.k o)), PV.d (DV.int IntKind.u64 (Oc.a o)), PV.d (DV.int IntKind.u64 (Oc.b o)), PV.d (DV.str (Oc.c o))], AB.box (28 : Nat) [PV.d (DV.ki IntKind.u8 (0 : Int)), PV.d (DV.ki IntKind.u64 (0 : Int)), PV.d (DV.str []), PV.d DV.nil]]))) by kernel_rfl) ?_
    refine ⟨⟨.refl _, hc⟩, fun h => wk_veN (outV_no (by simpa using h)), fun h => ?_⟩
    have hm : mayB o = true := by simpa using h
    refine hR ⟨0, by omega, hm, by have := mayB_k hm; omega⟩ _ _ (Sub.of (Nat.zero_le _) (.cons (.refl _) (.cons (.refl _) (.cons (.refl _) (.cons (.refl _) (.cons (.kn _ _) (putWk o rfl)))))) (WkA.refl _) rfl rfl)
end Go.Proofs.Ytepgblhhajdmoaa
