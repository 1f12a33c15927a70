/-
  FieldsNil: where there are no fields, every question is answered as the document says. Of arguments that are together of bulk at most 1048576.
-/
import Derived.Test.YtepgblhhajdmoaaFNil
import Derived.Test.YtepgblhhajdmoaaRow
set_option linter.unusedVariables false
set_option linter.unusedSimpArgs false
namespace Go.Proofs.Ytepgblhhajdmoaa
open Go Go.Proofs.Ytepgblhhajdmoaa.Eng Go.ChangeShapes Go.WideShapes Go.ChangeAt Go.RowKit
namespace FieldsNil
theorem walk_ (a : Ask) (n : Int) : CallW Γ Try.prog 7 [askPV a, .d (.int .i64 n)] [] (fun r _ => r = .d (.bool true)) (fun _ _ => False) := by
  refine CallW.wk (kr := fun r h => WkP r (.d (.bool true))) ?_ fun r h' hk => ⟨_, hk, rfl⟩
  refine callW_wh.1 (walk0 (ctx_wh ctxOK) (calling_in ctxOK [33, 24] (l := [E0' 13 (.d (.bool true)), E2 29 (aK (.d .nilp)) aAsk (fun _ _ => True) (fun _ a => tPV (tNil a)), E2 28 aT aT (fun t _ => t.v.size ≤ 1099511627776) (fun t u => .d (.bool (eqT t u)))]) (base := []) (fs := [33, 24]) ?_ (by simp) 9) (cut := []) 60 ?_)
  · intro e he
    simp only [List.mem_cons, List.not_mem_nil, or_false] at he
    rcases he with rfl | rfl | rfl
    · exact E0_ok works7
    · exact E2_ok fun _ a _ => does_nil a
    · exact E2_ok fun t u h => told_same t u h
  · refine Eq.mpr (show _ = (NeedP (WkPs [PV.d DV.nilp, PV.agg [PV.d (DV.int IntKind.i64 (Ask.what a)), PV.d (DV.int IntKind.i64 (Ask.pos a)), PV.d (DV.int IntKind.u8 (Ask.kind a)), PV.d (DV.bool (Ask.must a)), PV.d (DV.int IntKind.u64 (Ask.none a)), PV.d (DV.sl (1 : Nat) (Ask.ks a))]] [PV.d DV.nilp, askPV a] ∧ True) (Split2 (Ask.what a == (1 : Int)) (NeedP (WkPs [PV.agg [PV.d (DV.int IntKind.u64 (Td.n (tNil a))), PV.d (DV.str (Td.s (tNil a))), PV.d (DV.int IntKind.u8 (V.k (Td.v (tNil a)))), PV.d (DV.int IntKind.u64 (V.n (Td.v (tNil a)))), PV.d (DV.str (V.t (Td.v (tNil a)))), PV.d (DV.sl (4 : Nat) (encL (V.kids (Td.v (tNil a))))), PV.d (DV.sl (1 : Nat) []), PV.d (DV.bool (Td.b (tNil a))), PV.d (DV.int IntKind.i64 (Td.e (tNil a)))], PV.agg [PV.d (DV.int IntKind.u64 (Ask.none a)), PV.d (DV.str []), PV.d (DV.int IntKind.u8 (0 : Int)), PV.d (DV.int IntKind.u64 (0 : Int)), PV.d (DV.str []), PV.d DV.nil, PV.d DV.nil, PV.d (DV.bool false), PV.d (DV.int IntKind.i64 (0 : Int))]] [tPV (Td.mk (Td.n (tNil a)) (Td.s (tNil a)) (V.mk (V.k (Td.v (tNil a))) (V.n (Td.v (tNil a))) (V.t (Td.v (tNil a))) (decLL (encL (V.kids (Td.v (tNil a)))))) (decS (encS (Td.l (tNil a)))) (Td.b (tNil a)) (Td.e (tNil a))), tPV (Td.mk (Ask.none a) [] (V.mk (0 : Int) (0 : Int) [] (DV.kidsV DV.nil)) (decS (DV.gL DV.nil)) false (0 : Int))] ∧ V.size (Td.v (Td.mk (Td.n (tNil a)) (Td.s (tNil a)) (V.mk (V.k (Td.v (tNil a))) (V.n (Td.v (tNil a))) (V.t (Td.v (tNil a))) (decLL (encL (V.kids (Td.v (tNil a)))))) (decS (encS (Td.l (tNil a)))) (Td.b (tNil a)) (Td.e (tNil a)))) ≤ (1099511627776 : Nat)) (Split2 (eqT (Td.mk (Td.n (tNil a)) (Td.s (tNil a)) (V.mk (V.k (Td.v (tNil a))) (V.n (Td.v (tNil a))) (V.t (Td.v (tNil a))) (decLL (encL (V.kids (Td.v (tNil a)))))) (decS (encS (Td.l (tNil a)))) (Td.b (tNil a)) (Td.e (tNil a))) (Td.mk (Ask.none a) [] (V.mk (0 : Int) (0 : Int) [] (DV.kidsV DV.nil)) (decS (DV.gL DV.nil)) false (0 : Int))) (Split2 true (Split2 ((2 : Int) == (2 : Int)) (WkP (PV.d (DV.bool true)) (PV.d (DV.bool true))) (WkP (PV.d (DV.kb false)) (PV.d (DV.bool true)))) (Bad (608 : Nat))) (WkP (PV.d (DV.kb false)) (PV.d (DV.bool true))))) (Split2 (Ask.what a == (4 : Int)) (NeedP (WkPs [PV.agg [PV.d (DV.int IntKind.u64 (Td.n (tNil a))), PV.d (DV.str (Td.s (tNil a))), PV.d (DV.int IntKind.u8 (V.k (Td.v (tNil a)))), PV.d (DV.int IntKind.u64 (V.n (Td.v (tNil a)))), PV.d (DV.str (V.t (Td.v (tNil a)))), PV.d (DV.sl (4 : Nat) (encL (V.kids (Td.v (tNil a))))), PV.d (DV.sl (1 : Nat) []), PV.d (DV.bool (Td.b (tNil a))), PV.d (DV.int IntKind.i64 (Td.e (tNil a)))], PV.agg [PV.d (DV.int IntKind.u64 (0 : Int)), PV.d (DV.str []), PV.d (DV.int IntKind.u8 (1 : Int)), PV.d (DV.int IntKind.u64 (0 : Int)), PV.d (DV.str []), PV.d DV.nil, PV.d DV.nil, PV.d (DV.bool false), PV.d (DV.int IntKind.i64 (0 : Int))]] [tPV (Td.mk (Td.n (tNil a)) (Td.s (tNil a)) (V.mk (V.k (Td.v (tNil a))) (V.n (Td.v (tNil a))) (V.t (Td.v (tNil a))) (decLL (encL (V.kids (Td.v (tNil a)))))) (decS (encS (Td.l (tNil a)))) (Td.b (tNil a)) (Td.e (tNil a))), tPV (Td.mk (0 : Int) [] (V.mk (1 : Int) (0 : Int) [] (DV.kidsV DV.nil)) (decS (DV.gL DV.nil)) false (0 : Int))] ∧ V.size (Td.v (Td.mk (Td.n (tNil a)) (Td.s (tNil a)) (V.mk (V.k (Td.v (tNil a))) (V.n (Td.v (tNil a))) (V.t (Td.v (tNil a))) (decLL (encL (V.kids (Td.v (tNil a)))))) (decS (encS (Td.l (tNil a)))) (Td.b (tNil a)) (Td.e (tNil a)))) ≤ (1099511627776 : Nat)) (Split2 (eqT (Td.mk (Td.n (tNil a)) (Td.s (tNil a)) (V.mk (V.k (Td.v (tNil a))) (V.n (Td.v (tNil a))) (V.t (Td.v (tNil a))) (decLL (encL (V.kids (Td.v (tNil a)))))) (decS (encS (Td.l (tNil a)))) (Td.b (tNil a)) (Td.e (tNil a))) (Td.mk (0 : Int) [] (V.mk (1 : Int) (0 : Int) [] (DV.kidsV DV.nil)) (decS (DV.gL DV.nil)) false (0 : Int))) (Split2 true (Split2 ((2 : Int) == (2 : Int)) (WkP (PV.d (DV.bool true)) (PV.d (DV.bool true))) (WkP (PV.d (DV.kb false)) (PV.d (DV.bool true)))) (Bad (608 : Nat))) (WkP (PV.d (DV.kb false)) (PV.d (DV.bool true))))) (Split2 (Ask.what a == (7 : Int)) (NeedP (WkPs [PV.agg [PV.d (DV.int IntKind.u64 (Td.n (tNil a))), PV.d (DV.str (Td.s (tNil a))), PV.d (DV.int IntKind.u8 (V.k (Td.v (tNil a)))), PV.d (DV.int IntKind.u64 (V.n (Td.v (tNil a)))), PV.d (DV.str (V.t (Td.v (tNil a)))), PV.d (DV.sl (4 : Nat) (encL (V.kids (Td.v (tNil a))))), PV.d (DV.sl (1 : Nat) []), PV.d (DV.bool (Td.b (tNil a))), PV.d (DV.int IntKind.i64 (Td.e (tNil a)))], PV.agg [PV.d (DV.int IntKind.u64 (0 : Int)), PV.d (DV.str []), PV.d (DV.int IntKind.u8 (0 : Int)), PV.d (DV.int IntKind.u64 (0 : Int)), PV.d (DV.str []), PV.d DV.nil, PV.d DV.nil, PV.d (DV.bool false), PV.d (DV.int IntKind.i64 (2 : Int))]] [tPV (Td.mk (Td.n (tNil a)) (Td.s (tNil a)) (V.mk (V.k (Td.v (tNil a))) (V.n (Td.v (tNil a))) (V.t (Td.v (tNil a))) (decLL (encL (V.kids (Td.v (tNil a)))))) (decS (encS (Td.l (tNil a)))) (Td.b (tNil a)) (Td.e (tNil a))), tPV (Td.mk (0 : Int) [] (V.mk (0 : Int) (0 : Int) [] (DV.kidsV DV.nil)) (decS (DV.gL DV.nil)) false (2 : Int))] ∧ V.size (Td.v (Td.mk (Td.n (tNil a)) (Td.s (tNil a)) (V.mk (V.k (Td.v (tNil a))) (V.n (Td.v (tNil a))) (V.t (Td.v (tNil a))) (decLL (encL (V.kids (Td.v (tNil a)))))) (decS (encS (Td.l (tNil a)))) (Td.b (tNil a)) (Td.e (tNil a)))) ≤ (1099511627776 : Nat)) (Split2 (eqT (Td.mk (Td.n (tNil a)) (Td.s (tNil a)) (V.mk (V.k (Td.v (tNil a))) (V.n (Td.v (tNil a))) (V.t (Td.v (tNil a))) (decLL (encL (V.kids (Td.v (tNil a)))))) (decS (encS (Td.l (tNil a)))) (Td.b (tNil a)) (Td.e (tNil a))) (Td.mk (0 : Int) [] (V.mk (0 : Int) (0 : Int) [] (DV.kidsV DV.nil)) (decS (DV.gL DV.nil)) false (2 : Int))) (Split2 true (Split2 ((2 : Int) == (2 : Int)) (WkP (PV.d (DV.bool true)) (PV.d (DV.bool true))) (WkP (PV.d (DV.kb false)) (PV.d (DV.bool true)))) (Bad (608 : Nat))) (WkP (PV.d (DV.kb false)) (PV.d (DV.bool true))))) (NeedP (WkPs [PV.agg [PV.d (DV.int IntKind.u64 (Td.n (tNil a))), PV.d (DV.str (Td.s (tNil a))), PV.d (DV.int IntKind.u8 (V.k (Td.v (tNil a)))), PV.d (DV.int IntKind.u64 (V.n (Td.v (tNil a)))), PV.d (DV.str (V.t (Td.v (tNil a)))), PV.d (DV.sl (4 : Nat) (encL (V.kids (Td.v (tNil a))))), PV.d (DV.sl (1 : Nat) []), PV.d (DV.bool (Td.b (tNil a))), PV.d (DV.int IntKind.i64 (Td.e (tNil a)))], PV.agg [PV.d (DV.int IntKind.u64 (0 : Int)), PV.d (DV.str []), PV.d (DV.int IntKind.u8 (0 : Int)), PV.d (DV.int IntKind.u64 (0 : Int)), PV.d (DV.str []), PV.d DV.nil, PV.d DV.nil, PV.d (DV.bool false), PV.d (DV.int IntKind.i64 (0 : Int))]] [tPV (Td.mk (Td.n (tNil a)) (Td.s (tNil a)) (V.mk (V.k (Td.v (tNil a))) (V.n (Td.v (tNil a))) (V.t (Td.v (tNil a))) (decLL (encL (V.kids (Td.v (tNil a)))))) (decS (encS (Td.l (tNil a)))) (Td.b (tNil a)) (Td.e (tNil a))), tPV (Td.mk (0 : Int) [] (V.mk (0 : Int) (0 : Int) [] (DV.kidsV DV.nil)) (decS (DV.gL DV.nil)) false (0 : Int))] ∧ V.size (Td.v (Td.mk (Td.n (tNil a)) (Td.s (tNil a)) (V.mk (V.k (Td.v (tNil a))) (V.n (Td.v (tNil a))) (V.t (Td.v (tNil a))) (decLL (encL (V.kids (Td.v (tNil a)))))) (decS (encS (Td.l (tNil a)))) (Td.b (tNil a)) (Td.e (tNil a)))) ≤ (1099511627776 : Nat)) (Split2 (eqT (Td.mk (Td.n (tNil a)) (Td.s (tNil a)) (V.mk (V.k (Td.v (tNil a))) (V.n (Td.v (tNil a))) (V.t (Td.v (tNil a))) (decLL (encL (V.kids (Td.v (tNil a)))))) (decS (encS (Td.l (tNil a)))) (Td.b (tNil a)) (Td.e (tNil a))) (Td.mk (0 : Int) [] (V.mk (0 : Int) (0 : Int) [] (DV.kidsV DV.nil)) (decS (DV.gL DV.nil)) false (0 : Int))) (Split2 true (Split2 ((2 : Int) == (2 : Int)) (WkP (PV.d (DV.bool true)) (PV.d (DV.bool true))) (WkP (PV.d (DV.kb false)) (PV.d (DV.bool true)))) (Bad (608 : Nat))) (WkP (PV.d (DV.kb false)) (PV.d (DV.bool true))))))))) by kernel_rfl) ?_
    simp only [decLL_encL, V.eta, decS_encS]
    have ha : ∀ t : Td, Td.mk t.n t.s t.v t.l t.b t.e = t := fun t => rfl
    refine ⟨⟨.refl _, trivial⟩, fun h1 => ?_, fun h1 => ⟨fun h4 => ?_, fun h4 => ⟨fun h7 => ?_, fun h7 => ?_⟩⟩⟩
    all_goals simp at h1
    all_goals try simp at h4
    all_goals try simp at h7
    all_goals
      refine ⟨⟨.cons (.refl _) (.cons (.agg (.cons (.refl _) (.cons (.refl _) (.cons (.refl _) (.cons (.refl _) (.cons (.refl _) (.cons (.nil 4) (.cons (.nil 1) (.cons (.refl _) (.cons (.refl _) .nil)))))))))) .nil), ?_⟩, fun _ => ⟨fun _ => ⟨fun _ => .refl _, fun h => absurd h (by decide)⟩, fun h => by cases h⟩, fun hne => ?_⟩
    all_goals first
      | (refine absurd hne ?_; rw [eqT_iff.2 ?_]; · decide
         · simp [tNil, h1, *, nullV, zeroV, DV.kidsV, DV.gL, decS])
      | (simp [tNil, *, nullV, zeroV, V.size, sizeL])

abbrev S : List Nat := [55, 3, 5, 4, 22, 53]
theorem S_lt : S.all (fun t => Nat.blt t Try.prog.types.size) = true := by kernel_rfl
theorem params_ok : (Try.f7.params.toList.all fun t => S.contains t) = true := by kernel_rfl
theorem params_in : ∀ t ∈ Try.f7.params.toList, S.contains t = true := fun t ht => List.all_eq_true.1 params_ok t ht
set_option maxRecDepth 100000 in
theorem contract (H : Type) (enc : TypeId × Value → H) (W : World) (base : Nat) (args : Array Value) (ds gs : List (DataW H)) (before : List MemPlace)
    (hval : ∀ (j : Nat) t v, Try.f7.params[j]? = some t → args[j]? = some v → Value.okWide Try.prog W .any base t v)
    (hW : DataW.Whole enc Try.prog Try.f7.params.toList Rows.fieldsNilSpec.vars false W args.toList ds gs before) (hk : Rows.uptoSmall H (ds ++ gs) = true) :
    Calls Try.prog 7 args W fun e W' => ∃ v, e = .returned v ∧ Rows.fieldsNilSpec.post enc Try.prog Try.f7 false true false false W args v W' := by
  have hts : ∀ t ∈ Try.f7.params.toList, S.contains t = true := params_in
  refine law_contract (Γ := Γ) (f := 7) (fn := Try.f7) (s := Rows.fieldsNilSpec) ctxOK rfl kids hsz (S := S) (by kernel_rfl) (fun t ht => Nat.blt_eq.mp (List.all_eq_true.1 S_lt t (List.elem_iff.1 ht))) rfl (tb := 4) (by kernel_rfl) (by kernel_rfl) hts (fun ds hd => ?_) (fun ess ha hb => ?_) hval hW hk
  · match ds, hd with
    | [d1, d2], _ => rfl
  · have hp : Try.f7.params.toList = [55, 3] := by kernel_rfl
    rw [hp] at ha ⊢
    cases ha with | cons h1 r => cases r with | cons h2 r => cases r with | nil =>
    rename_i e1 e2
    obtain ⟨parts, rfl, hl, hq⟩ := wt_struct h1 (by kernel_rfl : kindOf 55 = some (.struct [(0, 3), (1, 3), (2, 5), (3, 4), (4, 22), (5, 53)]))
    obtain ⟨n, rfl, _⟩ := wt_int (k := .i64) h2 (by kernel_rfl)
    match parts, hl with
    | [p0, p1, p2, p3, p4, p5], _ =>
      obtain ⟨x0, rfl, _⟩ := wt_int (k := .i64) (hq 0 _ _ rfl rfl) (by kernel_rfl)
      obtain ⟨x1, rfl, _⟩ := wt_int (k := .i64) (hq 1 _ _ rfl rfl) (by kernel_rfl)
      obtain ⟨x2, rfl, _⟩ := wt_int (k := .u8) (hq 2 _ _ rfl rfl) (by kernel_rfl)
      obtain ⟨x3, rfl⟩ := wt_bool (hq 3 _ _ rfl rfl) (by kernel_rfl)
      obtain ⟨x4, rfl, _⟩ := wt_int (k := .u64) (hq 4 _ _ rfl rfl) (by kernel_rfl)
      obtain ⟨ks, hks⟩ : ∃ ks, ∃ x, p5 = [x] ∧ DW x (.sl 1 ks) := by
        rcases wt_slice (e := 5) (sz := 1) (hq 5 _ _ rfl rfl) (by kernel_rfl) (by kernel_rfl) with h | ⟨l, h, _⟩
        · exact ⟨[], .nil, h, DW.nil 1⟩
        · exact ⟨l, .sl 1 l, h, DW.refl _⟩
      obtain ⟨x5, rfl, hx⟩ := hks
      refine CallW.pw (walk_ ⟨x0, x1, x2, x3, x4, ks⟩ n) (by simp) fun i q hi => ?_
      have h0 : argPV Γ 55 [[DV.int .i64 x0], [DV.int .i64 x1], [DV.int .u8 x2], [DV.bool x3], [DV.int .u64 x4], [x5]].flatten = .agg (List.map .d [.int .i64 x0, .int .i64 x1, .int .u8 x2, .bool x3, .int .u64 x4, x5]) :=
        arg_struct (by kernel_rfl : kindOf 55 = some (.struct [(0, 3), (1, 3), (2, 5), (3, 4), (4, 22), (5, 53)]))
      have h3 : argPV Γ 3 [.int .i64 n] = .d (.int .i64 n) := by
        have hki : kindOf 3 = some (.int .i64) := by kernel_rfl
        exact arg_plain (by rw [hki]; rfl) (by rw [hki]; simp)
      match i with
      | 0 =>
        simp at hi; subst hi
        refine ⟨_, rfl, ?_⟩
        rw [h0]
        refine PW.agg (ys := [.int .i64 x0, .int .i64 x1, .int .u8 x2, .bool x3, .int .u64 x4, .sl 1 ks]) ⟨rfl, fun j y hy => ?_⟩
        match j with
        | 0 => simp at hy; subst hy; exact ⟨_, rfl, DW.refl _⟩
        | 1 => simp at hy; subst hy; exact ⟨_, rfl, DW.refl _⟩
        | 2 => simp at hy; subst hy; exact ⟨_, rfl, DW.refl _⟩
        | 3 => simp at hy; subst hy; exact ⟨_, rfl, DW.refl _⟩
        | 4 => simp at hy; subst hy; exact ⟨_, rfl, DW.refl _⟩
        | 5 => simp at hy; subst hy; exact ⟨_, rfl, hx⟩
        | j + 6 => simp at hy
      | 1 =>
        simp at hi; subst hi
        exact ⟨_, rfl, by rw [h3]; exact PW.refl _⟩
      | i + 2 => simp at hi
theorem own : ownKnob Try.prog.godebug = none := by kernel_rfl
set_option maxRecDepth 100000 in
theorem lifted (os : Os) (started : os.Started) (H : Type) (enc : TypeId × Value → H) (F : Stop.Interp) :
    ReturnsInHanded {} Try.checked os 7 .any ((Rows.OpenSpec.upto Rows.fieldsNilSpec).pre6 enc Try.prog Try.f7 Rows.fieldsNilUptoRow.domain false) (((Rows.OpenSpec.upto Rows.fieldsNilSpec).at F).post enc Try.prog Try.f7 false true false false) := by
  refine returnsInHanded_of_cond (C := Try.checked) (s := Rows.OpenSpec.upto Rows.fieldsNilSpec) (k := Rows.uptoSmall) rfl own started (by kernel_rfl) Try.func7
    (OpenSpec.witness (enc := enc) (C := Try.checked) (s := Rows.OpenSpec.upto Rows.fieldsNilSpec) (k := Rows.uptoSmall) rfl false ⟨#[], #[.agg #[.int .i64 0, .int .i64 0, .int .u8 0, .bool false, .int .u64 0, .slice none 0 0], .int .i64 0], []⟩ 8 (by kernel_rfl) (by kernel_rfl) (by kernel_rfl)
      (x := ([.agg [.lit (.int .i64 0), .lit (.int .i64 0), .lit (.int .u8 0), .lit (.bool false), .lit (.int .u64 0), .nil], .lit (.int .i64 0)], [], [])) (by kernel_rfl) rfl (by kernel_rfl)) ?_
  intro W base args ds gs before hval hW _ hk _
  exact contract H enc W base args ds gs before hval hW hk
theorem over : Rows.fieldsNilUptoRow.holds Try.pinned (Rows.OpenSpec.upto Rows.fieldsNilSpec) :=
  OpenClaim.holds_of_cond 7 Try.f7 rfl rfl rfl rfl rfl rfl rfl ⟨rfl, rfl, rfl, rfl, rfl⟩ rfl rfl rfl rfl rfl (by kernel_rfl) Try.func7 (by kernel_rfl)
    (of_decide_eq_true (by kernel_rfl)) (by unfold Func.isWrapper; first | (rw [if_pos (by decide +kernel)]; kernel_rfl) | (rw [if_neg (by decide +kernel)]; exact ⟨rfl, rfl⟩))
    (fun os started H enc _ F => lifted os started H enc F)
theorem holds_ : Rows.FieldsNilUptoSaid := over
end FieldsNil
end Go.Proofs.Ytepgblhhajdmoaa
