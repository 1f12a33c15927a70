/-
  OutcomePuts: the value of any outcome, or that it may not be, is the document's. Of arguments that are together of bulk at most 1048576.
-/
import Derived.Test.YtepgblhhajdmoaaOutc3
import Derived.Test.YtepgblhhajdmoaaVal1
import Derived.Test.YtepgblhhajdmoaaWorks8
import Derived.Test.YtepgblhhajdmoaaRowO
set_option linter.unusedVariables false
set_option linter.unusedSimpArgs false
namespace Go.Proofs.Ytepgblhhajdmoaa
open Go Go.Proofs.Ytepgblhhajdmoaa.Eng Go.ChangeShapes Go.WideShapes Go.ChangeAt Go.RowKit
namespace OutcomePuts
theorem walk_ (o : Oc) (hk : 0 ≤ o.k) : CallW Γ Try.prog 8 [oPV o] [] (fun r _ => r = .d (.bool true)) (fun _ _ => False) := by
  refine CallW.wkU ?_
  refine walk0 ctxOK (calling_of (l := [E0' 34 (.d (.bool true)), E1 35 aO (fun o => o.c.length ≤ 1099511627776) (fun o => vePV (outV o)), E1 36 aO (fun o => o.c.length ≤ 1099511627776) (fun o => vePV (outV o)), E2 17 aV aV (fun _ _ => True) (fun v w => .d (.bool (eqV v w)))]) (m := []) ?_ (by simp)) (cut := []) 60 ?_
  · intro e he
    simp only [List.mem_cons, List.not_mem_nil, or_false] at he
    rcases he with rfl | rfl | rfl | rfl
    · exact E0_ok works8
    · exact E1_ok fun o h => val_outPut o h
    · exact E1_ok fun o h => ref_outPut o h
    · exact E2_ok fun v w _ => ref_same_ _ v w (Nat.le_refl _)
  · refine Eq.mpr (show _ = (Split2 (decide ((↑(List.length (Oc.c o)) : Int) > (4096 : Int))) (WkP (PV.d (DV.bool true)) (PV.d (DV.bool true))) (NeedP (WkPs [PV.agg [PV.d (DV.int IntKind.u8 (Oc.k o)), PV.d (DV.int IntKind.u64 (Oc.a o)), PV.d (DV.int IntKind.u64 (Oc.b o)), PV.d (DV.str (Oc.c o))]] [oPV o] ∧ List.length (Oc.c o) ≤ (1099511627776 : Nat)) (NeedP (WkPs [PV.agg [PV.d (DV.int IntKind.u8 (Oc.k o)), PV.d (DV.int IntKind.u64 (Oc.a o)), PV.d (DV.int IntKind.u64 (Oc.b o)), PV.d (DV.str (Oc.c o))]] [oPV o] ∧ List.length (Oc.c o) ≤ (1099511627776 : Nat)) (Split2 (Prod.snd (outV o) == Prod.snd (outV o)) (NeedP (WkPs [PV.agg [PV.d (DV.int IntKind.u8 (V.k (Prod.fst (outV o)))), PV.d (DV.int IntKind.u64 (V.n (Prod.fst (outV o)))), PV.d (DV.str (V.t (Prod.fst (outV o)))), PV.d (DV.sl (4 : Nat) (encL (V.kids (Prod.fst (outV o)))))], PV.agg [PV.d (DV.int IntKind.u8 (V.k (Prod.fst (outV o)))), PV.d (DV.int IntKind.u64 (V.n (Prod.fst (outV o)))), PV.d (DV.str (V.t (Prod.fst (outV o)))), PV.d (DV.sl (4 : Nat) (encL (V.kids (Prod.fst (outV o)))))]] [vPV (V.mk (V.k (Prod.fst (outV o))) (V.n (Prod.fst (outV o))) (V.t (Prod.fst (outV o))) (decLL (encL (V.kids (Prod.fst (outV o)))))), vPV (V.mk (V.k (Prod.fst (outV o))) (V.n (Prod.fst (outV o))) (V.t (Prod.fst (outV o))) (decLL (encL (V.kids (Prod.fst (outV o))))))] ∧ True) (Split2 (eqV (V.mk (V.k (Prod.fst (outV o))) (V.n (Prod.fst (outV o))) (V.t (Prod.fst (outV o))) (decLL (encL (V.kids (Prod.fst (outV o)))))) (V.mk (V.k (Prod.fst (outV o))) (V.n (Prod.fst (outV o))) (V.t (Prod.fst (outV o))) (decLL (encL (V.kids (Prod.fst (outV o))))))) (WkP (PV.d (DV.bool true)) (PV.d (DV.bool true))) (WkP (PV.d (DV.bool false)) (PV.d (DV.bool true))))) (WkP (PV.d (DV.bool false)) (PV.d (DV.bool true))))))) by kernel_rfl) ?_
    simp only [decLL_encL, V.eta]
    refine ⟨fun h => .refl _, fun h => ?_⟩
    have hc : o.c.length ≤ 1099511627776 := by simp at h; omega
    refine ⟨⟨.refl _, hc⟩, ⟨.refl _, hc⟩, fun h2 => ⟨⟨.refl _, trivial⟩, fun h3 => .refl _, fun h3 => ?_⟩, fun h2 => ?_⟩
    · rw [eqV_true rfl] at h3; cases h3
    · simp at h2
abbrev S : List Nat := [64, 5, 22, 9]
theorem S_lt : S.all (fun t => Nat.blt t Try.prog.types.size) = true := by kernel_rfl
theorem params_ok : (Try.f8.params.toList.all fun t => S.contains t) = true := by kernel_rfl
theorem params_in : ∀ t ∈ Try.f8.params.toList, S.contains t = true := fun t ht => List.all_eq_true.1 params_ok t ht
set_option maxRecDepth 100000 in
theorem contract (H : Type) (enc : TypeId × Value → H) (W : World) (base : Nat) (args : Array Value) (ds gs : List (DataW H)) (before : List MemPlace)
    (hval : ∀ (j : Nat) t v, Try.f8.params[j]? = some t → args[j]? = some v → Value.okWide Try.prog W .any base t v)
    (hW : DataW.Whole enc Try.prog Try.f8.params.toList Rows.outcomePutsSpec.vars false W args.toList ds gs before) (hk : Rows.uptoSmall H (ds ++ gs) = true) :
    Calls Try.prog 8 args W fun e W' => ∃ v, e = .returned v ∧ Rows.outcomePutsSpec.post enc Try.prog Try.f8 false true false false W args v W' := by
  have hts : ∀ t ∈ Try.f8.params.toList, S.contains t = true := params_in
  refine law_contract (Γ := Γ) (f := 8) (fn := Try.f8) (s := Rows.outcomePutsSpec) ctxOK rfl kids hsz (S := S) (by kernel_rfl) (fun t ht => Nat.blt_eq.mp (List.all_eq_true.1 S_lt t (List.elem_iff.1 ht))) rfl (tb := 4) (by kernel_rfl) (by kernel_rfl) hts (fun ds hd => ?_) (fun ess ha hb => ?_) hval hW hk
  · match ds, hd with
    | [d0], _ => rfl
  · have hp : Try.f8.params.toList = [64] := by kernel_rfl
    rw [hp] at ha ⊢
    cases ha with | cons h0 ha => cases ha with | nil =>
    rename_i e0
    obtain ⟨a0, w0, b0⟩ := arg_oc h0
    simp only [List.map_cons, List.map_nil, List.sum_cons, List.sum_nil] at hb
    refine CallW.pw (walk_ a0 (by omega)) (by simp) fun i q hi => ?_
    match i with
    | 0 => simp at hi; subst hi; exact ⟨_, rfl, w0⟩
    | i + 1 => simp at hi
theorem own : ownKnob Try.prog.godebug = none := by kernel_rfl
set_option maxRecDepth 100000 in
theorem lifted (os : Os) (started : os.Started) (H : Type) (enc : TypeId × Value → H) (F : Stop.Interp) :
    ReturnsInHanded {} Try.checked os 8 .any ((Rows.OpenSpec.upto Rows.outcomePutsSpec).pre6 enc Try.prog Try.f8 Rows.outcomePutsUptoRow.domain false) (((Rows.OpenSpec.upto Rows.outcomePutsSpec).at F).post enc Try.prog Try.f8 false true false false) := by
  refine returnsInHanded_of_cond (C := Try.checked) (s := Rows.OpenSpec.upto Rows.outcomePutsSpec) (k := Rows.uptoSmall) rfl own started (by kernel_rfl) Try.func8
    (OpenSpec.witness (enc := enc) (C := Try.checked) (s := Rows.OpenSpec.upto Rows.outcomePutsSpec) (k := Rows.uptoSmall) rfl false ⟨#[], #[.agg #[.int .u8 0, .int .u64 0, .int .u64 0, .string ⟨#[]⟩]], []⟩ 8 (by kernel_rfl) (by kernel_rfl) (by kernel_rfl)
      (x := ([.agg [.lit (.int .u8 0), .lit (.int .u64 0), .lit (.int .u64 0), .lit (.string [])]], [], [])) (by kernel_rfl) rfl (by kernel_rfl)) ?_
  intro W base args ds gs before hval hW _ hk _
  exact contract H enc W base args ds gs before hval hW hk
theorem over : Rows.outcomePutsUptoRow.holds Try.pinned (Rows.OpenSpec.upto Rows.outcomePutsSpec) :=
  OpenClaim.holds_of_cond 8 Try.f8 rfl rfl rfl rfl rfl rfl rfl ⟨rfl, rfl, rfl, rfl, rfl⟩ rfl rfl rfl rfl rfl (by kernel_rfl) Try.func8 (by kernel_rfl)
    (of_decide_eq_true (by kernel_rfl)) (by unfold Func.isWrapper; first | (rw [if_pos (by decide +kernel)]; kernel_rfl) | (rw [if_neg (by decide +kernel)]; exact ⟨rfl, rfl⟩))
    (fun os started H enc _ F => lifted os started H enc F)
theorem holds_ : Rows.OutcomePutsUptoSaid := over
end OutcomePuts
end Go.Proofs.Ytepgblhhajdmoaa
