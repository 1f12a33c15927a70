/-
  What the values' makers come to: the program's, and the reference's.
-/
import Derived.Test.YtepgblhhajdmoaaVal2
set_option linter.unusedVariables false
set_option linter.unusedSimpArgs false
namespace Go.Proofs.Ytepgblhhajdmoaa
open Go Go.Proofs.Ytepgblhhajdmoaa.Eng
theorem Wks.nilV {k n : Int} {t : List UInt8} : WkP (.agg [.d (.int .u8 k), .d (.int .u64 n), .d (.str t), .d .nil]) (vPV (.mk k n t [])) := .agg (.cons (.refl _) (.cons (.refl _) (.cons (.refl _) (.cons (.nil 4) .nil))))
theorem val_null : G 33 [] (vPV (.mk 1 0 [] [])) := by
  refine gives_of (walk0 ctxOK (calling_of (l := []) (m := []) (by simp) (by simp)) (cut := []) 60 ?_)
  refine Eq.mpr (show _ = (WkP (PV.agg [PV.d (DV.int IntKind.u8 (1 : Int)), PV.d (DV.int IntKind.u64 (0 : Int)), PV.d (DV.str []), PV.d DV.nil]) (vPV (V.mk (1 : Int) (0 : Int) [] []))) by kernel_rfl) ?_
  exact Wks.nilV
theorem ref_null : G 74 [] (vPV (.mk 1 0 [] [])) := by
  refine gives_of (walk0 ctxOK (calling_of (l := []) (m := []) (by simp) (by simp)) (cut := []) 60 ?_)
  refine Eq.mpr (show _ = (WkP (PV.agg [PV.d (DV.int IntKind.u8 (1 : Int)), PV.d (DV.int IntKind.u64 (0 : Int)), PV.d (DV.str []), PV.d DV.nil]) (vPV (V.mk (1 : Int) (0 : Int) [] []))) by kernel_rfl) ?_
  exact Wks.nilV
theorem val_number (k n : Int) : G 41 [.d (.int .u8 k), .d (.int .u64 n)] (vPV (.mk k n [] [])) := by
  refine gives_of (walk0 ctxOK (calling_of (l := []) (m := []) (by simp) (by simp)) (cut := []) 60 ?_)
  refine Eq.mpr (show _ = (WkP (PV.agg [PV.d (DV.int IntKind.u8 k), PV.d (DV.int IntKind.u64 n), PV.d (DV.str []), PV.d DV.nil]) (vPV (V.mk k n [] []))) by kernel_rfl) ?_
  exact Wks.nilV
theorem ref_number (k n : Int) : G 47 [.d (.int .u8 k), .d (.int .u64 n)] (vPV (.mk k n [] [])) := by
  refine gives_of (walk0 ctxOK (calling_of (l := []) (m := []) (by simp) (by simp)) (cut := []) 60 ?_)
  refine Eq.mpr (show _ = (WkP (PV.agg [PV.d (DV.int IntKind.u8 k), PV.d (DV.int IntKind.u64 n), PV.d (DV.str []), PV.d DV.nil]) (vPV (V.mk k n [] []))) by kernel_rfl) ?_
  exact Wks.nilV
theorem val_text (k : Int) (s : List UInt8) : G 19 [.d (.int .u8 k), .d (.str s)] (vPV (.mk k 0 s [])) := by
  refine gives_of (walk0 ctxOK (calling_of (l := []) (m := []) (by simp) (by simp)) (cut := []) 60 ?_)
  refine Eq.mpr (show _ = (WkP (PV.agg [PV.d (DV.int IntKind.u8 k), PV.d (DV.int IntKind.u64 (0 : Int)), PV.d (DV.str s), PV.d DV.nil]) (vPV (V.mk k (0 : Int) s []))) by kernel_rfl) ?_
  exact Wks.nilV
theorem ref_text (k : Int) (s : List UInt8) : G 106 [.d (.int .u8 k), .d (.str s)] (vPV (.mk k 0 s [])) := by
  refine gives_of (walk0 ctxOK (calling_of (l := []) (m := []) (by simp) (by simp)) (cut := []) 60 ?_)
  refine Eq.mpr (show _ = (WkP (PV.agg [PV.d (DV.int IntKind.u8 k), PV.d (DV.int IntKind.u64 (0 : Int)), PV.d (DV.str s), PV.d DV.nil]) (vPV (V.mk k (0 : Int) s []))) by kernel_rfl) ?_
  exact Wks.nilV
def boolV (b : Bool) : V := .mk 2 (if b then 1 else 0) [] []
theorem val_bool (b : Bool) : G 118 [.d (.bool b)] (vPV (boolV b)) := by
  refine gives_of (walk0 ctxOK (calling_of (l := []) (m := []) (by simp) (by simp)) (cut := []) 60 ?_)
  refine Eq.mpr (show _ = (Split2 b (WkP (PV.agg [PV.d (DV.int IntKind.u8 (2 : Int)), PV.d (DV.int IntKind.u64 (1 : Int)), PV.d (DV.str []), PV.d DV.nil]) (vPV (boolV b))) (WkP (PV.agg [PV.d (DV.int IntKind.u8 (2 : Int)), PV.d (DV.int IntKind.u64 (0 : Int)), PV.d (DV.str []), PV.d DV.nil]) (vPV (boolV b)))) by kernel_rfl) ?_
  refine ⟨fun h => ?_, fun h => ?_⟩ <;> subst h <;> exact Wks.nilV
theorem ref_bool (b : Bool) : G 107 [.d (.bool b)] (vPV (boolV b)) := by
  refine gives_of (walk0 ctxOK (calling_of (l := []) (m := []) (by simp) (by simp)) (cut := []) 60 ?_)
  refine Eq.mpr (show _ = (Split2 b (WkP (PV.agg [PV.d (DV.int IntKind.u8 (2 : Int)), PV.d (DV.int IntKind.u64 (1 : Int)), PV.d (DV.str []), PV.d DV.nil]) (vPV (boolV b))) (WkP (PV.agg [PV.d (DV.int IntKind.u8 (2 : Int)), PV.d (DV.int IntKind.u64 (0 : Int)), PV.d (DV.str []), PV.d DV.nil]) (vPV (boolV b)))) by kernel_rfl) ?_
  refine ⟨fun h => ?_, fun h => ?_⟩ <;> subst h <;> exact Wks.nilV
theorem val_many (k : Int) (l : List V) (hl : sizeL l ≤ 1099511627776) : G 20 [.d (.int .u8 k), .d (.sl 4 (encL l))] (vPV (.mk k 0 [] l)) := by
  refine gives_of (walk0 ctxOK (calling_of (l := [E1 48 aVs (fun x => sizeL x ≤ 1099511627776) (fun x => .d (.sl 4 (encL x)))]) (m := []) (by simp only [List.mem_singleton, forall_eq]; exact E1_ok fun x h => val_copyAll x h) (by simp)) (cut := []) 60 ?_)
  refine Eq.mpr (show _ = (NeedP (WkPs [PV.d (DV.sl (4 : Nat) (encL l))] [PV.d (DV.sl (4 : Nat) (encL (decLL (encL l))))] ∧ sizeL (decLL (encL l)) ≤ (1099511627776 : Nat)) (WkP (PV.agg [PV.d (DV.int IntKind.u8 k), PV.d (DV.int IntKind.u64 (0 : Int)), PV.d (DV.str []), PV.d (DV.sl (4 : Nat) (encL (decLL (encL l))))]) (vPV (V.mk k (0 : Int) [] l)))) by kernel_rfl) ?_
  simp only [decLL_encL]
  exact ⟨⟨.refl _, hl⟩, .refl _⟩
theorem ref_many (k : Int) (l : List V) (hl : sizeL l ≤ 1099511627776) : G 18 [.d (.int .u8 k), .d (.sl 4 (encL l))] (vPV (.mk k 0 [] l)) := by
  refine gives_of (walk0 ctxOK (calling_of (l := [E1 14 aVs (fun x => sizeL x ≤ 1099511627776) (fun x => .d (.sl 4 (encL x)))]) (m := []) (by simp only [List.mem_singleton, forall_eq]; exact E1_ok fun x h => ref_copyAll x h) (by simp)) (cut := []) 60 ?_)
  refine Eq.mpr (show _ = (NeedP (WkPs [PV.d (DV.sl (4 : Nat) (encL l))] [PV.d (DV.sl (4 : Nat) (encL (decLL (encL l))))] ∧ sizeL (decLL (encL l)) ≤ (1099511627776 : Nat)) (WkP (PV.agg [PV.d (DV.int IntKind.u8 k), PV.d (DV.int IntKind.u64 (0 : Int)), PV.d (DV.str []), PV.d (DV.sl (4 : Nat) (encL (decLL (encL l))))]) (vPV (V.mk k (0 : Int) [] l)))) by kernel_rfl) ?_
  simp only [decLL_encL]
  exact ⟨⟨.refl _, hl⟩, .refl _⟩
theorem val_desc (a b : V) (hl : a.size + b.size ≤ 1099511627776) : G 45 [vPV a, vPV b] (vPV (.mk 25 0 [] [a, b])) := by
  refine gives_of (walk0 ctxOK (calling_of (l := [E2 20 (aI .u8) aVs (fun _ x => sizeL x ≤ 1099511627776) (fun k x => vPV (.mk k 0 [] x))]) (m := []) (by simp only [List.mem_singleton, forall_eq]; exact E2_ok fun k x h => val_many k x h) (by simp)) (cut := []) 60 ?_)
  refine Eq.mpr (show _ = (Need ((2 : Nat) == (2 : Nat)) (NeedP (WkPs [PV.d (DV.int IntKind.u8 (25 : Int)), PV.d (DV.sl (4 : Nat) [[DV.int IntKind.u8 (V.k a), DV.int IntKind.u64 (V.n a), DV.str (V.t a), DV.sl (4 : Nat) (encL (V.kids a))], [DV.int IntKind.u8 (V.k b), DV.int IntKind.u64 (V.n b), DV.str (V.t b), DV.sl (4 : Nat) (encL (V.kids b))]])] [PV.d (DV.int IntKind.u8 (25 : Int)), PV.d (DV.sl (4 : Nat) (encL (decLL [[DV.int IntKind.u8 (V.k a), DV.int IntKind.u64 (V.n a), DV.str (V.t a), DV.sl (4 : Nat) (encL (V.kids a))], [DV.int IntKind.u8 (V.k b), DV.int IntKind.u64 (V.n b), DV.str (V.t b), DV.sl (4 : Nat) (encL (V.kids b))]])))] ∧ sizeL (decLL [[DV.int IntKind.u8 (V.k a), DV.int IntKind.u64 (V.n a), DV.str (V.t a), DV.sl (4 : Nat) (encL (V.kids a))], [DV.int IntKind.u8 (V.k b), DV.int IntKind.u64 (V.n b), DV.str (V.t b), DV.sl (4 : Nat) (encL (V.kids b))]]) ≤ (1099511627776 : Nat)) (WkP (PV.agg [PV.d (DV.int IntKind.u8 (25 : Int)), PV.d (DV.int IntKind.u64 (0 : Int)), PV.d (DV.str []), PV.d (DV.sl (4 : Nat) (encL (decLL [[DV.int IntKind.u8 (V.k a), DV.int IntKind.u64 (V.n a), DV.str (V.t a), DV.sl (4 : Nat) (encL (V.kids a))], [DV.int IntKind.u8 (V.k b), DV.int IntKind.u64 (V.n b), DV.str (V.t b), DV.sl (4 : Nat) (encL (V.kids b))]])))]) (vPV (V.mk (25 : Int) (0 : Int) [] [a, b]))))) by kernel_rfl) ?_
  have e : decLL [[DV.int .u8 a.k, DV.int .u64 a.n, DV.str a.t, DV.sl 4 (encL a.kids)], [DV.int .u8 b.k, DV.int .u64 b.n, DV.str b.t, DV.sl 4 (encL b.kids)]] = [a, b] := by
    rw [cells_enc, cells_enc]; simp [decLL]
  simp only [e]
  refine ⟨rfl, ⟨?_, ?_⟩, .refl _⟩
  · rw [cells_enc, cells_enc]
    have : encL [a, b] = [enc a, enc b] := by simp
    rw [this]; exact .refl _
  · simp; omega
theorem ref_desc (a b : V) (hl : a.size + b.size ≤ 1099511627776) : G 46 [vPV a, vPV b] (vPV (.mk 25 0 [] [a, b])) := by
  refine gives_of (walk0 ctxOK (calling_of (l := [E1 25 aV (fun x => x.size ≤ 1099511627776) (fun x => vPV x)]) (m := []) (by simp only [List.mem_singleton, forall_eq]; exact E1_ok fun x h => ref_copy x h) (by simp)) (cut := []) 60 ?_)
  refine Eq.mpr (show _ = (Need true (NeedP (WkPs [PV.agg [PV.d (DV.int IntKind.u8 (V.k a)), PV.d (DV.int IntKind.u64 (V.n a)), PV.d (DV.str (V.t a)), PV.d (DV.sl (4 : Nat) (encL (V.kids a)))]] [vPV (V.mk (V.k a) (V.n a) (V.t a) (decLL (encL (V.kids a))))] ∧ V.size (V.mk (V.k a) (V.n a) (V.t a) (decLL (encL (V.kids a)))) ≤ (1099511627776 : Nat)) (Need true (NeedP (WkPs [PV.agg [PV.d (DV.int IntKind.u8 (V.k b)), PV.d (DV.int IntKind.u64 (V.n b)), PV.d (DV.str (V.t b)), PV.d (DV.sl (4 : Nat) (encL (V.kids b)))]] [vPV (V.mk (V.k b) (V.n b) (V.t b) (decLL (encL (V.kids b))))] ∧ V.size (V.mk (V.k b) (V.n b) (V.t b) (decLL (encL (V.kids b)))) ≤ (1099511627776 : Nat)) (Need ((2 : Nat) == (2 : Nat)) (WkP (PV.agg [PV.d (DV.int IntKind.u8 (25 : Int)), PV.d (DV.int IntKind.u64 (0 : Int)), PV.d (DV.str []), PV.d (DV.sl (4 : Nat) [[DV.int IntKind.u8 (V.k a), DV.int IntKind.u64 (V.n a), DV.str (V.t a), DV.sl (4 : Nat) (encL (decLL (encL (V.kids a))))], [DV.int IntKind.u8 (V.k b), DV.int IntKind.u64 (V.n b), DV.str (V.t b), DV.sl (4 : Nat) (encL (decLL (encL (V.kids b))))]])]) (vPV (V.mk (25 : Int) (0 : Int) [] [a, b])))))))) by kernel_rfl) ?_
  simp only [decLL_encL, V.eta]
  have e : [[DV.int .u8 a.k, DV.int .u64 a.n, DV.str a.t, DV.sl 4 (encL a.kids)], [DV.int .u8 b.k, DV.int .u64 b.n, DV.str b.t, DV.sl 4 (encL b.kids)]] = encL [a, b] := by
    rw [cells_enc, cells_enc]; simp
  rw [e]
  exact ⟨rfl, ⟨.refl _, by omega⟩, rfl, ⟨.refl _, by omega⟩, rfl, .refl _⟩
end Go.Proofs.Ytepgblhhajdmoaa
