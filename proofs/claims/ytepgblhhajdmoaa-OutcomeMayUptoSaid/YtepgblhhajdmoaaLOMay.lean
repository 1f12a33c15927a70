/-
  OutcomeMay: just such outcomes may be put as have what their kind has. Of arguments that are together of bulk at most 1048576.
-/
import Derived.Test.YtepgblhhajdmoaaOutc3
import Derived.Test.YtepgblhhajdmoaaWorks8
import Derived.Test.YtepgblhhajdmoaaRowO
set_option linter.unusedVariables false
set_option linter.unusedSimpArgs false
namespace Go.Proofs.Ytepgblhhajdmoaa
open Go Go.Proofs.Ytepgblhhajdmoaa.Eng Go.ChangeShapes Go.WideShapes Go.ChangeAt Go.RowKit
namespace OutcomeMay
def fiB (o : Oc) (i : Nat) : Bool := decide (o.k ≤ 5) && (decide (i = 0) || decide (o.k = 3)) && asciiB (o.c.take i)
theorem fi_end (o : Oc) : fiB o o.c.length = (decide (o.k ≤ 5) && (decide (o.c = []) || decide (o.k = 3)) && asciiB o.c) := by
  unfold fiB; rw [List.take_length]; congr 3; simp
theorem fi_next {o : Oc} {i : Nat} (h : i < o.c.length) : fiB o (i + 1) = (fiB o i && decide ((nthB o.c i).toNat < 128) && decide (o.k = 3)) := by
  unfold fiB; rw [asciiB_take h]
  cases asciiB (o.c.take i) <;> cases decide ((nthB o.c i).toNat < 128) <;> by_cases h3 : o.k = 3 <;> by_cases h5 : o.k ≤ 5 <;> simp [h3, h5]
theorem out_e (o : Oc) : ((outV o).2 == 0) = mayB o := by
  unfold outV; cases mayB o
  · rfl
  · simp only [if_true]; split <;> rfl
theorem may_eq (o : Oc) (hk : 0 ≤ o.k) : mayB o = (fiB o o.c.length && (if o.k = 1 then decide (o.a < 4294967296) else if o.k = 5 then decide (o.a < 2) && decide (o.b < 2) else decide (o.a = 0) && decide (o.b = 0))) := by
  rw [fi_end]
  unfold mayB
  have e1 : decide (o.a ≤ 4294967295) = decide (o.a < 4294967296) := decide_eq_decide.2 (by omega)
  have e2 : decide (o.a ≤ 1) = decide (o.a < 2) := decide_eq_decide.2 (by omega)
  have e3 : decide (o.b ≤ 1) = decide (o.b < 2) := decide_eq_decide.2 (by omega)
  rw [e1, e2, e3]
  rcases (by omega : o.k = 0 ∨ o.k = 1 ∨ o.k = 2 ∨ o.k = 3 ∨ o.k = 4 ∨ o.k = 5 ∨ 5 < o.k) with h | h | h | h | h | h | h
  all_goals first
    | (have h1 : ¬ (o.k = 0 ∨ o.k = 2 ∨ o.k = 3 ∨ o.k = 4) := by omega
       have h2 : ¬ o.k = 1 := by omega
       have h3 : ¬ o.k = 5 := by omega
       have h4 : decide (o.k ≤ 5) = false := by simp; omega
       rw [if_neg h1, if_neg h2, if_neg h3, h4]; simp)
    | (simp [h, Bool.and_assoc]; done)
set_option maxHeartbeats 4000000 in
theorem walk_ (o : Oc) (hk : 0 ≤ o.k) : CallW Γ Try.prog 10 [oPV o] [] (fun r _ => r = .d (.bool true)) (fun _ _ => False) := by
  have hm := may_eq o hk
  have he := out_e o
  refine CallW.wkU ?_
  refine walk ctxOK (calling_of (l := [E0' 34 (.d (.bool true)), E1 35 aO (fun o => o.c.length ≤ 1099511627776) (fun o => vePV (outV o))]) (m := []) ?_ (by simp)) (cut := [])
    (A := { i : Nat // i ≤ o.c.length ∧ o.c.length ≤ 4096 })
    (fun _ => [0, 1, 0, 1, 1, 1]) (fun i => [.box 0 0, .d (.bool (fiB o i.1)), .d (.int .i64 i.1)]) (fun i => [.box 64 [PV.d (DV.int IntKind.u8 (Oc.k o)), PV.d (DV.int IntKind.u64 (Oc.a o)), PV.d (DV.int IntKind.u64 (Oc.b o)), PV.d (DV.str (Oc.c o))]]) (fun i => o.c.length - i.1) [([0, 1, 0, 1, 1, 1], [1, 3, 4])] 60
    (fun _ => by kernel_rfl) ?_ ?_
  · intro e he
    simp only [List.mem_cons, List.not_mem_nil, or_false] at he
    rcases he with rfl | rfl
    · exact E0_ok works8
    · exact E1_ok fun o h => val_outPut o h
  · rintro ⟨i, hi, hc⟩ R hR
    dsimp only
    have hcb : o.c.length ≤ 1099511627776 := by omega
    have hn := fun h => fi_next (o := o) (i := i) h
    refine Eq.mpr (show _ = (Split2 (decide ((↑i : Int) < (↑(List.length (Oc.c o)) : Int))) (Split2 (fiB o i) (Need (decide ((0 : Int) ≤ (↑i : Int)) && decide ((↑i : Int) < (↑(List.length (Oc.c o)) : Int))) (Split2 (decide ((↑(UInt8.toNat (List.getD (Oc.c o) i (0 : UInt8))) : Int) < (128 : Int))) (R [(0 : Nat), (1 : Nat), (0 : Nat), (1 : Nat), (1 : Nat), (1 : Nat)] [PV.box (0 : Nat) (0 : Nat), PV.d (DV.bool (Oc.k o == (3 : Int))), PV.d (DV.int IntKind.i64 (IntKind.wrap IntKind.i64 ((↑i : Int) + (1 : Int))))] [AB.box (64 : Nat) [PV.d (DV.int IntKind.u8 (Oc.k o)), PV.d (DV.int IntKind.u64 (Oc.a o)), PV.d (DV.int IntKind.u64 (Oc.b o)), PV.d (DV.str (Oc.c o))]]) (R [(0 : Nat), (1 : Nat), (0 : Nat), (1 : Nat), (1 : Nat), (1 : Nat)] [PV.box (0 : Nat) (0 : Nat), PV.d (DV.bool false), PV.d (DV.int IntKind.i64 (IntKind.wrap IntKind.i64 ((↑i : Int) + (1 : Int))))] [AB.box (64 : Nat) [PV.d (DV.int IntKind.u8 (Oc.k o)), PV.d (DV.int IntKind.u64 (Oc.a o)), PV.d (DV.int IntKind.u64 (Oc.b o)), PV.d (DV.str (Oc.c o))]]))) (R [(0 : Nat), (1 : Nat), (0 : Nat), (1 : Nat), (1 : Nat), (1 : Nat)] [PV.box (0 : Nat) (0 : Nat), PV.d (DV.bool false), PV.d (DV.int IntKind.i64 (IntKind.wrap IntKind.i64 ((↑i : Int) + (1 : Int))))] [AB.box (64 : Nat) [PV.d (DV.int IntKind.u8 (Oc.k o)), PV.d (DV.int IntKind.u64 (Oc.a o)), PV.d (DV.int IntKind.u64 (Oc.b o)), PV.d (DV.str (Oc.c o))]])) (Split2 (Oc.k o == (1 : Int)) (Split2 (fiB o i) (NeedP (WkPs [PV.agg [PV.d (DV.int IntKind.u8 (Oc.k o)), PV.d (DV.int IntKind.u64 (Oc.a o)), PV.d (DV.int IntKind.u64 (Oc.b o)), PV.d (DV.str (Oc.c o))]] [oPV o] ∧ List.length (Oc.c o) ≤ (1099511627776 : Nat)) (Split2 ((Prod.snd (outV o) == (0 : Int)) == decide (Oc.a o < (4294967296 : Int))) (WkP (PV.d (DV.bool true)) (PV.d (DV.bool true))) (WkP (PV.d (DV.bool false)) (PV.d (DV.bool true))))) (NeedP (WkPs [PV.agg [PV.d (DV.int IntKind.u8 (Oc.k o)), PV.d (DV.int IntKind.u64 (Oc.a o)), PV.d (DV.int IntKind.u64 (Oc.b o)), PV.d (DV.str (Oc.c o))]] [oPV o] ∧ List.length (Oc.c o) ≤ (1099511627776 : Nat)) (Split2 ((Prod.snd (outV o) == (0 : Int)) == false) (WkP (PV.d (DV.bool true)) (PV.d (DV.bool true))) (WkP (PV.d (DV.bool false)) (PV.d (DV.bool true)))))) (Split2 (Oc.k o == (5 : Int)) (Split2 (fiB o i) (Split2 (decide (Oc.a o < (2 : Int))) (NeedP (WkPs [PV.agg [PV.d (DV.int IntKind.u8 (Oc.k o)), PV.d (DV.int IntKind.u64 (Oc.a o)), PV.d (DV.int IntKind.u64 (Oc.b o)), PV.d (DV.str (Oc.c o))]] [oPV o] ∧ List.length (Oc.c o) ≤ (1099511627776 : Nat)) (Split2 ((Prod.snd (outV o) == (0 : Int)) == decide (Oc.b o < (2 : Int))) (WkP (PV.d (DV.bool true)) (PV.d (DV.bool true))) (WkP (PV.d (DV.bool false)) (PV.d (DV.bool true))))) (NeedP (WkPs [PV.agg [PV.d (DV.int IntKind.u8 (Oc.k o)), PV.d (DV.int IntKind.u64 (Oc.a o)), PV.d (DV.int IntKind.u64 (Oc.b o)), PV.d (DV.str (Oc.c o))]] [oPV o] ∧ List.length (Oc.c o) ≤ (1099511627776 : Nat)) (Split2 ((Prod.snd (outV o) == (0 : Int)) == false) (WkP (PV.d (DV.bool true)) (PV.d (DV.bool true))) (WkP (PV.d (DV.bool false)) (PV.d (DV.bool true)))))) (NeedP (WkPs [PV.agg [PV.d (DV.int IntKind.u8 (Oc.k o)), PV.d (DV.int IntKind.u64 (Oc.a o)), PV.d (DV.int IntKind.u64 (Oc.b o)), PV.d (DV.str (Oc.c o))]] [oPV o] ∧ List.length (Oc.c o) ≤ (1099511627776 : Nat)) (Split2 ((Prod.snd (outV o) == (0 : Int)) == false) (WkP (PV.d (DV.bool true)) (PV.d (DV.bool true))) (WkP (PV.d (DV.bool false)) (PV.d (DV.bool true)))))) (Split2 (fiB o i) (Split2 (Oc.a o == (0 : Int)) (NeedP (WkPs [PV.agg [PV.d (DV.int IntKind.u8 (Oc.k o)), PV.d (DV.int IntKind.u64 (Oc.a o)), PV.d (DV.int IntKind.u64 (Oc.b o)), PV.d (DV.str (Oc.c o))]] [oPV o] ∧ List.length (Oc.c o) ≤ (1099511627776 : Nat)) (Split2 ((Prod.snd (outV o) == (0 : Int)) == (Oc.b o == (0 : Int))) (WkP (PV.d (DV.bool true)) (PV.d (DV.bool true))) (WkP (PV.d (DV.bool false)) (PV.d (DV.bool true))))) (NeedP (WkPs [PV.agg [PV.d (DV.int IntKind.u8 (Oc.k o)), PV.d (DV.int IntKind.u64 (Oc.a o)), PV.d (DV.int IntKind.u64 (Oc.b o)), PV.d (DV.str (Oc.c o))]] [oPV o] ∧ List.length (Oc.c o) ≤ (1099511627776 : Nat)) (Split2 ((Prod.snd (outV o) == (0 : Int)) == false) (WkP (PV.d (DV.bool true)) (PV.d (DV.bool true))) (WkP (PV.d (DV.bool false)) (PV.d (DV.bool true)))))) (NeedP (WkPs [PV.agg [PV.d (DV.int IntKind.u8 (Oc.k o)), PV.d (DV.int IntKind.u64 (Oc.a o)), PV.d (DV.int IntKind.u64 (Oc.b o)), PV.d (DV.str (Oc.c o))]] [oPV o] ∧ List.length (Oc.c o) ≤ (1099511627776 : Nat)) (Split2 ((Prod.snd (outV o) == (0 : Int)) == false) (WkP (PV.d (DV.bool true)) (PV.d (DV.bool true))) (WkP (PV.d (DV.bool false)) (PV.d (DV.bool true))))))))) by kernel_rfl) ?_
    simp only [he, hm]
    have next : ∀ b : Bool, b = fiB o (i + 1) → i < o.c.length → R [0, 1, 0, 1, 1, 1] [.box 0 0, .d (.bool b), .d (.int .i64 (IntKind.i64.wrap ((i : Int) + 1)))] [.box 64 [PV.d (DV.int IntKind.u8 (Oc.k o)), PV.d (DV.int IntKind.u64 (Oc.a o)), PV.d (DV.int IntKind.u64 (Oc.b o)), PV.d (DV.str (Oc.c o))]] := fun b hb hlt => by
      subst hb
      refine hR ⟨i + 1, by omega, hc⟩ _ _ (by dsimp only; omega) (Sub.eq (by simp) ?_ rfl rfl rfl)
      rw [i64_wrap (by omega) (by omega)]; rfl
    refine ⟨fun hlt => ?_, fun hge => ?_⟩
    · have hlt : i < o.c.length := by simpa using hlt
      have hn := hn hlt
      have hd : List.getD o.c i (0 : UInt8) = nthB o.c i := rfl
      simp only [hd]
      refine ⟨fun h1 => ⟨by simp; omega, fun h2 => next _ ?_ hlt, fun h2 => next _ ?_ hlt⟩, fun h1 => next _ ?_ hlt⟩
      · have h3 : decide ((nthB o.c i).toNat < 128) = true := by simp at h2 ⊢; omega
        rw [hn, h1, h3]; by_cases h4 : o.k = 3 <;> simp [h4]
      · rw [hn, h1]; simp at h2; simp; omega
      · have h1 : fiB o i = false := by simpa using h1
        rw [hn, h1]; rfl
    · have hge : o.c.length = i := by have : o.c.length ≤ i := by simpa using hge
                                      omega
      subst hge
      repeat' (first | (refine Split2.mk (fun h => ?_) (fun h => ?_)) | (refine NeedP.mk ⟨.refl _, hcb⟩ ?_))
      all_goals (refine wk_bool ?_; simp_all)
      all_goals first | omega | (exfalso; refine h ?_; by_cases hb : o.b = 0 <;> simp [hb])
  · intro R hR
    refine Eq.mpr (show _ = (Split2 (decide ((↑(List.length (Oc.c o)) : Int) > (4096 : Int))) (WkP (PV.d (DV.bool true)) (PV.d (DV.bool true))) (R [(0 : Nat), (1 : Nat), (0 : Nat), (1 : Nat), (1 : Nat), (1 : Nat)] [PV.box (0 : Nat) (0 : Nat), PV.d (DV.bool (decide (Oc.k o ≤ (5 : Int)))), PV.d (DV.int IntKind.i64 (0 : Int))] [AB.box (64 : Nat) [PV.d (DV.int IntKind.u8 (Oc.k o)), PV.d (DV.int IntKind.u64 (Oc.a o)), PV.d (DV.int IntKind.u64 (Oc.b o)), PV.d (DV.str (Oc.c o))]])) by kernel_rfl) ?_
    refine ⟨fun h => .refl _, fun h => ?_⟩
    have hc : o.c.length ≤ 4096 := by simp at h; omega
    refine hR ⟨0, Nat.zero_le _, hc⟩ _ _ (Sub.eq (by simp) ?_ rfl rfl rfl)
    simp [fiB, asciiB]
abbrev S : List Nat := [64, 5, 22, 9]
theorem S_lt : S.all (fun t => Nat.blt t Try.prog.types.size) = true := by kernel_rfl
theorem params_ok : (Try.f10.params.toList.all fun t => S.contains t) = true := by kernel_rfl
theorem params_in : ∀ t ∈ Try.f10.params.toList, S.contains t = true := fun t ht => List.all_eq_true.1 params_ok t ht
set_option maxRecDepth 100000 in
theorem contract (H : Type) (enc : TypeId × Value → H) (W : World) (base : Nat) (args : Array Value) (ds gs : List (DataW H)) (before : List MemPlace)
    (hval : ∀ (j : Nat) t v, Try.f10.params[j]? = some t → args[j]? = some v → Value.okWide Try.prog W .any base t v)
    (hW : DataW.Whole enc Try.prog Try.f10.params.toList Rows.outcomeMaySpec.vars false W args.toList ds gs before) (hk : Rows.uptoSmall H (ds ++ gs) = true) :
    Calls Try.prog 10 args W fun e W' => ∃ v, e = .returned v ∧ Rows.outcomeMaySpec.post enc Try.prog Try.f10 false true false false W args v W' := by
  have hts : ∀ t ∈ Try.f10.params.toList, S.contains t = true := params_in
  refine law_contract (Γ := Γ) (f := 10) (fn := Try.f10) (s := Rows.outcomeMaySpec) ctxOK rfl kids hsz (S := S) (by kernel_rfl) (fun t ht => Nat.blt_eq.mp (List.all_eq_true.1 S_lt t (List.elem_iff.1 ht))) rfl (tb := 4) (by kernel_rfl) (by kernel_rfl) hts (fun ds hd => ?_) (fun ess ha hb => ?_) hval hW hk
  · match ds, hd with
    | [d0], _ => rfl
  · have hp : Try.f10.params.toList = [64] := by kernel_rfl
    rw [hp] at ha ⊢
    cases ha with | cons h0 ha => cases ha with | nil =>
    rename_i e0
    obtain ⟨a0, w0, b0⟩ := arg_oc h0
    simp only [List.map_cons, List.map_nil, List.sum_cons, List.sum_nil] at hb
    refine CallW.pw (walk_ a0 (by omega)) (by simp) fun i q hi => ?_
    match i with
    | 0 => simp at hi; subst hi; exact ⟨_, rfl, w0⟩
    | i + 1 => simp at hi
theorem own : ownKnob Try.prog.godebug = none := by kernel_rfl
set_option maxRecDepth 100000 in
theorem lifted (os : Os) (started : os.Started) (H : Type) (enc : TypeId × Value → H) (F : Stop.Interp) :
    ReturnsInHanded {} Try.checked os 10 .any ((Rows.OpenSpec.upto Rows.outcomeMaySpec).pre6 enc Try.prog Try.f10 Rows.outcomeMayUptoRow.domain false) (((Rows.OpenSpec.upto Rows.outcomeMaySpec).at F).post enc Try.prog Try.f10 false true false false) := by
  refine returnsInHanded_of_cond (C := Try.checked) (s := Rows.OpenSpec.upto Rows.outcomeMaySpec) (k := Rows.uptoSmall) rfl own started (by kernel_rfl) Try.func10
    (OpenSpec.witness (enc := enc) (C := Try.checked) (s := Rows.OpenSpec.upto Rows.outcomeMaySpec) (k := Rows.uptoSmall) rfl false ⟨#[], #[.agg #[.int .u8 0, .int .u64 0, .int .u64 0, .string ⟨#[]⟩]], []⟩ 8 (by kernel_rfl) (by kernel_rfl) (by kernel_rfl)
      (x := ([.agg [.lit (.int .u8 0), .lit (.int .u64 0), .lit (.int .u64 0), .lit (.string [])]], [], [])) (by kernel_rfl) rfl (by kernel_rfl)) ?_
  intro W base args ds gs before hval hW _ hk _
  exact contract H enc W base args ds gs before hval hW hk
theorem over : Rows.outcomeMayUptoRow.holds Try.pinned (Rows.OpenSpec.upto Rows.outcomeMaySpec) :=
  OpenClaim.holds_of_cond 10 Try.f10 rfl rfl rfl rfl rfl rfl rfl ⟨rfl, rfl, rfl, rfl, rfl⟩ rfl rfl rfl rfl rfl (by kernel_rfl) Try.func10 (by kernel_rfl)
    (of_decide_eq_true (by kernel_rfl)) (by unfold Func.isWrapper; first | (rw [if_pos (by decide +kernel)]; kernel_rfl) | (rw [if_neg (by decide +kernel)]; exact ⟨rfl, rfl⟩))
    (fun os started H enc _ F => lifted os started H enc F)
theorem holds_ : Rows.OutcomeMayUptoSaid := over
end OutcomeMay
end Go.Proofs.Ytepgblhhajdmoaa
