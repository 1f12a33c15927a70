/-
  Outcomes as values: which may be, and what Put makes of them; conditions.
-/
import Derived.Test.YtepgblhhajdmoaaVal4
set_option linter.unusedVariables false
set_option linter.unusedSimpArgs false
namespace Go.Proofs.Ytepgblhhajdmoaa
open Go Go.Proofs.Ytepgblhhajdmoaa.Eng
structure Oc where
  k : Int
  a : Int
  b : Int
  c : List UInt8
def oPV (o : Oc) : PV := .agg [.d (.int .u8 o.k), .d (.int .u64 o.a), .d (.int .u64 o.b), .d (.str o.c)]
def Eng.PV.toO : PV → Oc
  | .agg [.d x0, .d x1, .d x2, .d x3] => ⟨x0.gI, x1.gI, x2.gI, x3.gS⟩
  | _ => ⟨0, 0, 0, []⟩
def aO : Arg Oc := ⟨oPV, Eng.PV.toO⟩
def mayB (o : Oc) : Bool := (decide (o.c = []) || decide (o.k = 3)) && asciiB o.c &&
  (if o.k = 0 ∨ o.k = 2 ∨ o.k = 3 ∨ o.k = 4 then decide (o.a = 0) && decide (o.b = 0) else if o.k = 1 then decide (o.a ≤ 4294967295) else if o.k = 5 then decide (o.a ≤ 1) && decide (o.b ≤ 1) else false)
set_option maxHeartbeats 2000000 in
theorem val_may (o : Oc) (hc : o.c.length ≤ 1099511627776) : G 69 [oPV o] (.d (.bool (mayB o))) := by
  refine gives_of (walk0 ctxOK (calling_of (l := [E1 75 aBy (fun _ => True) (fun s => .d (.bool (asciiB s)))]) (m := []) (by simp only [List.mem_singleton, forall_eq]; exact E1_ok fun s _ => val_ascii s) (by simp)) (cut := []) 60 ?_)
  refine Eq.mpr (show _ = (Split2 (!Oc.c o == Array.toList (ByteArray.data (ByteArray.mk #[]))) (Split2 (Oc.k o != (3 : Int)) (WkP (PV.d (DV.bool false)) (PV.d (DV.bool (mayB o)))) (Need (decide (List.length (Oc.c o) ≤ mostBytes)) (NeedP (WkPs [PV.d (DV.sl (1 : Nat) (bytesEls (Oc.c o)))] [PV.d (DV.sl (1 : Nat) (bytesEls (decB (bytesEls (Oc.c o)))))] ∧ True) (Split2 (!asciiB (decB (bytesEls (Oc.c o)))) (WkP (PV.d (DV.bool false)) (PV.d (DV.bool (mayB o)))) (Split2 (Oc.k o == (0 : Int)) (Split2 (Oc.k o == (0 : Int)) (Split2 (Oc.a o == (0 : Int)) (WkP (PV.d (DV.bool (Oc.b o == (0 : Int)))) (PV.d (DV.bool (mayB o)))) (WkP (PV.d (DV.bool false)) (PV.d (DV.bool (mayB o))))) (Split2 (Oc.k o == (1 : Int)) (WkP (PV.d (DV.bool (decide (Oc.a o ≤ (4294967295 : Int))))) (PV.d (DV.bool (mayB o)))) (Split2 (Oc.k o == (5 : Int)) (Split2 (decide (Oc.a o ≤ (1 : Int))) (WkP (PV.d (DV.bool (decide (Oc.b o ≤ (1 : Int))))) (PV.d (DV.bool (mayB o)))) (WkP (PV.d (DV.bool false)) (PV.d (DV.bool (mayB o))))) (WkP (PV.d (DV.bool false)) (PV.d (DV.bool (mayB o))))))) (Split2 (Oc.k o == (2 : Int)) (Split2 (Oc.k o == (2 : Int)) (Split2 (Oc.a o == (0 : Int)) (WkP (PV.d (DV.bool (Oc.b o == (0 : Int)))) (PV.d (DV.bool (mayB o)))) (WkP (PV.d (DV.bool false)) (PV.d (DV.bool (mayB o))))) (Split2 (Oc.k o == (1 : Int)) (WkP (PV.d (DV.bool (decide (Oc.a o ≤ (4294967295 : Int))))) (PV.d (DV.bool (mayB o)))) (Split2 (Oc.k o == (5 : Int)) (Split2 (decide (Oc.a o ≤ (1 : Int))) (WkP (PV.d (DV.bool (decide (Oc.b o ≤ (1 : Int))))) (PV.d (DV.bool (mayB o)))) (WkP (PV.d (DV.bool false)) (PV.d (DV.bool (mayB o))))) (WkP (PV.d (DV.bool false)) (PV.d (DV.bool (mayB o))))))) (Split2 (Oc.k o == (3 : Int)) (Split2 (Oc.k o == (3 : Int)) (Split2 (Oc.a o == (0 : Int)) (WkP (PV.d (DV.bool (Oc.b o == (0 : Int)))) (PV.d (DV.bool (mayB o)))) (WkP (PV.d (DV.bool false)) (PV.d (DV.bool (mayB o))))) (Split2 (Oc.k o == (1 : Int)) (WkP (PV.d (DV.bool (decide (Oc.a o ≤ (4294967295 : Int))))) (PV.d (DV.bool (mayB o)))) (Split2 (Oc.k o == (5 : Int)) (Split2 (decide (Oc.a o ≤ (1 : Int))) (WkP (PV.d (DV.bool (decide (Oc.b o ≤ (1 : Int))))) (PV.d (DV.bool (mayB o)))) (WkP (PV.d (DV.bool false)) (PV.d (DV.bool (mayB o))))) (WkP (PV.d (DV.bool false)) (PV.d (DV.bool (mayB o))))))) (Split2 (Oc.k o == (4 : Int)) (Split2 (Oc.a o == (0 : Int)) (WkP (PV.d (DV.bool (Oc.b o == (0 : Int)))) (PV.d (DV.bool (mayB o)))) (WkP (PV.d (DV.bool false)) (PV.d (DV.bool (mayB o))))) (Split2 (Oc.k o == (1 : Int)) (WkP (PV.d (DV.bool (decide (Oc.a o ≤ (4294967295 : Int))))) (PV.d (DV.bool (mayB o)))) (Split2 (Oc.k o == (5 : Int)) (Split2 (decide (Oc.a o ≤ (1 : Int))) (WkP (PV.d (DV.bool (decide (Oc.b o ≤ (1 : Int))))) (PV.d (DV.bool (mayB o)))) (WkP (PV.d (DV.bool false)) (PV.d (DV.bool (mayB o))))) (WkP (PV.d (DV.bool false)) (PV.d (DV.bool (mayB o)))))))))))))) (Need (decide (List.length (Oc.c o) ≤ mostBytes)) (NeedP (WkPs [PV.d (DV.sl (1 : Nat) (bytesEls (Oc.c o)))] [PV.d (DV.sl (1 : Nat) (bytesEls (decB (bytesEls (Oc.c o)))))] ∧ True) (Split2 (!asciiB (decB (bytesEls (Oc.c o)))) (WkP (PV.d (DV.bool false)) (PV.d (DV.bool (mayB o)))) (Split2 (Oc.k o == (0 : Int)) (Split2 (Oc.k o == (0 : Int)) (Split2 (Oc.a o == (0 : Int)) (WkP (PV.d (DV.bool (Oc.b o == (0 : Int)))) (PV.d (DV.bool (mayB o)))) (WkP (PV.d (DV.bool false)) (PV.d (DV.bool (mayB o))))) (Split2 (Oc.k o == (1 : Int)) (WkP (PV.d (DV.bool (decide (Oc.a o ≤ (4294967295 : Int))))) (PV.d (DV.bool (mayB o)))) (Split2 (Oc.k o == (5 : Int)) (Split2 (decide (Oc.a o ≤ (1 : Int))) (WkP (PV.d (DV.bool (decide (Oc.b o ≤ (1 : Int))))) (PV.d (DV.bool (mayB o)))) (WkP (PV.d (DV.bool false)) (PV.d (DV.bool (mayB o))))) (WkP (PV.d (DV.bool false)) (PV.d (DV.bool (mayB o))))))) (Split2 (Oc.k o == (2 : Int)) (Split2 (Oc.k o == (2 : Int)) (Split2 (Oc.a o == (0 : Int)) (WkP (PV.d (DV.bool (Oc.b o == (0 : Int)))) (PV.d (DV.bool (mayB o)))) (WkP (PV.d (DV.bool false)) (PV.d (DV.bool (mayB o))))) (Split2 (Oc.k o == (1 : Int)) (WkP (PV.d (DV.bool (decide (Oc.a o ≤ (4294967295 : Int))))) (PV.d (DV.bool (mayB o)))) (Split2 (Oc.k o == (5 : Int)) (Split2 (decide (Oc.a o ≤ (1 : Int))) (WkP (PV.d (DV.bool (decide (Oc.b o ≤ (1 : Int))))) (PV.d (DV.bool (mayB o)))) (WkP (PV.d (DV.bool false)) (PV.d (DV.bool (mayB o))))) (WkP (PV.d (DV.bool false)) (PV.d (DV.bool (mayB o))))))) (Split2 (Oc.k o == (3 : Int)) (Split2 (Oc.k o == (3 : Int)) (Split2 (Oc.a o == (0 : Int)) (WkP (PV.d (DV.bool (Oc.b o == (0 : Int)))) (PV.d (DV.bool (mayB o)))) (WkP (PV.d (DV.bool false)) (PV.d (DV.bool (mayB o))))) (Split2 (Oc.k o == (1 : Int)) (WkP (PV.d (DV.bool (decide (Oc.a o ≤ (4294967295 : Int))))) (PV.d (DV.bool (mayB o)))) (Split2 (Oc.k o == (5 : Int)) (Split2 (decide (Oc.a o ≤ (1 : Int))) (WkP (PV.d (DV.bool (decide (Oc.b o ≤ (1 : Int))))) (PV.d (DV.bool (mayB o)))) (WkP (PV.d (DV.bool false)) (PV.d (DV.bool (mayB o))))) (WkP (PV.d (DV.bool false)) (PV.d (DV.bool (mayB o))))))) (Split2 (Oc.k o == (4 : Int)) (Split2 (Oc.a o == (0 : Int)) (WkP (PV.d (DV.bool (Oc.b o == (0 : Int)))) (PV.d (DV.bool (mayB o)))) (WkP (PV.d (DV.bool false)) (PV.d (DV.bool (mayB o))))) (Split2 (Oc.k o == (1 : Int)) (WkP (PV.d (DV.bool (decide (Oc.a o ≤ (4294967295 : Int))))) (PV.d (DV.bool (mayB o)))) (Split2 (Oc.k o == (5 : Int)) (Split2 (decide (Oc.a o ≤ (1 : Int))) (WkP (PV.d (DV.bool (decide (Oc.b o ≤ (1 : Int))))) (PV.d (DV.bool (mayB o)))) (WkP (PV.d (DV.bool false)) (PV.d (DV.bool (mayB o))))) (WkP (PV.d (DV.bool false)) (PV.d (DV.bool (mayB o)))))))))))))) by kernel_rfl) ?_
  simp only [decB_bytes]
  have hm : decide (o.c.length ≤ mostBytes) = true := decide_eq_true (by unfold mostBytes; omega)
  repeat' (first | (refine Split2.mk (fun h => ?_) (fun h => ?_)) | (refine Need.mk hm ?_) | (refine NeedP.mk ⟨.refl _, trivial⟩ ?_))
  all_goals (refine wk_bool ?_; simp_all [mayB])
  all_goals first | rfl | (intros; omega)

def nullV : V := .mk 1 0 [] []
def condV (c : List UInt8) : V × Int := if asciiB c = true then (if c = [] then (nullV, 0) else (putV 29 [.mk 21 0 c []], 0)) else (zeroV, 1)
/-- a value and an error -/
def vePV (x : V × Int) : PV := .tup [vPV x.1, .d (.int .i64 x.2)]
theorem wk_ve {v : V} {e : Int} {x : V × Int} (h : x = (v, e)) : WkP (.tup [vPV v, .d (.int .i64 e)]) (vePV x) := by subst h; exact .refl _
theorem wk_veN {k n e : Int} {s : List UInt8} {x : V × Int} (h : x = (.mk k n s [], e)) : WkP (.tup [.agg [.d (.int .u8 k), .d (.int .u64 n), .d (.str s), .d .nil], .d (.int .i64 e)]) (vePV x) := by subst h; exact .tup2 Wks.nilV (.refl _)

theorem val_putCond (c : List UInt8) (hc : c.length ≤ 1099511627776) : G 38 [.d (.str c)] (vePV (condV c)) := by
  refine gives_of (walk0 ctxOK (calling_of (l := [E1 75 aBy (fun _ => True) (fun s => .d (.bool (asciiB s))), E2 19 (aI .u8) aS (fun _ _ => True) (fun k s => vPV (.mk k 0 s [])), E2 15 (aI .u64) aVs (fun _ l => sizeL l + 3 ≤ 1099511627776) (fun c l => vPV (putV c l)), E0' 33 (vPV (.mk 1 0 [] []))]) (m := []) ?_ (by simp)) (cut := []) 60 ?_)
  · intro e he
    simp only [List.mem_cons, List.not_mem_nil, or_false] at he
    rcases he with rfl | rfl | rfl | rfl
    · exact E1_ok fun s _ => val_ascii s
    · exact E2_ok fun k s _ => val_text k s
    · exact E2_ok fun k l h => val_put k l h
    · exact E0_ok val_null
  · have e : decLL [[DV.int .u8 21, DV.int .u64 0, DV.str c, DV.sl 4 (encL [])]] = [V.mk 21 0 c []] := by simp [decLL, decL, DV.gI, DV.iv, DV.gS, DV.kidsV]
    have hm : decide (c.length ≤ mostBytes) = true := decide_eq_true (by unfold mostBytes; omega)
    refine Eq.mpr (show _ = (Need (decide (List.length c ≤ mostBytes)) (NeedP (WkPs [PV.d (DV.sl (1 : Nat) (bytesEls c))] [PV.d (DV.sl (1 : Nat) (bytesEls (decB (bytesEls c))))] ∧ True) (Split2 (!asciiB (decB (bytesEls c))) (WkP (PV.tup [PV.agg [PV.d (DV.int IntKind.u8 (0 : Int)), PV.d (DV.int IntKind.u64 (0 : Int)), PV.d (DV.str []), PV.d DV.nil], PV.d (DV.int IntKind.i64 (1 : Int))]) (vePV (condV c))) (Split2 (c == Array.toList (ByteArray.data (ByteArray.mk #[]))) (WkP (PV.tup [PV.agg [PV.d (DV.int IntKind.u8 (1 : Int)), PV.d (DV.int IntKind.u64 (0 : Int)), PV.d (DV.str []), PV.d (DV.sl (4 : Nat) (encL []))], PV.d (DV.int IntKind.i64 (0 : Int))]) (vePV (condV c))) (NeedP (WkPs [PV.d (DV.int IntKind.u8 (21 : Int)), PV.d (DV.str c)] [PV.d (DV.int IntKind.u8 (21 : Int)), PV.d (DV.str c)] ∧ True) (Need ((1 : Nat) == (1 : Nat)) (NeedP (WkPs [PV.d (DV.int IntKind.u64 (29 : Int)), PV.d (DV.sl (4 : Nat) [[DV.int IntKind.u8 (21 : Int), DV.int IntKind.u64 (0 : Int), DV.str c, DV.sl (4 : Nat) (encL [])]])] [PV.d (DV.int IntKind.u64 (29 : Int)), PV.d (DV.sl (4 : Nat) (encL (decLL [[DV.int IntKind.u8 (21 : Int), DV.int IntKind.u64 (0 : Int), DV.str c, DV.sl (4 : Nat) (encL [])]])))] ∧ sizeL (decLL [[DV.int IntKind.u8 (21 : Int), DV.int IntKind.u64 (0 : Int), DV.str c, DV.sl (4 : Nat) (encL [])]]) + (3 : Nat) ≤ (1099511627776 : Nat)) (WkP (PV.tup [PV.agg [PV.d (DV.int IntKind.u8 (V.k (putV (29 : Int) (decLL [[DV.int IntKind.u8 (21 : Int), DV.int IntKind.u64 (0 : Int), DV.str c, DV.sl (4 : Nat) (encL [])]])))), PV.d (DV.int IntKind.u64 (V.n (putV (29 : Int) (decLL [[DV.int IntKind.u8 (21 : Int), DV.int IntKind.u64 (0 : Int), DV.str c, DV.sl (4 : Nat) (encL [])]])))), PV.d (DV.str (V.t (putV (29 : Int) (decLL [[DV.int IntKind.u8 (21 : Int), DV.int IntKind.u64 (0 : Int), DV.str c, DV.sl (4 : Nat) (encL [])]])))), PV.d (DV.sl (4 : Nat) (encL (V.kids (putV (29 : Int) (decLL [[DV.int IntKind.u8 (21 : Int), DV.int IntKind.u64 (0 : Int), DV.str c, DV.sl (4 : Nat) (encL [])]])))))], PV.d (DV.int IntKind.i64 (0 : Int))]) (vePV (condV c)))))))))) by kernel_rfl) ?_
    simp only [decB_bytes, e]
    refine ⟨hm, ⟨.refl _, trivial⟩, fun h => wk_veN ?_, fun h => ⟨fun h' => wk_ve (v := nullV) ?_, fun h' => ⟨⟨.refl _, trivial⟩, rfl, ⟨?_, by simp [V.size, sizeL]⟩, wk_ve ?_⟩⟩⟩
    · simp at h; simp [condV, h, zeroV]
    · simp at h
      have h' : c = [] := by simpa using h'
      subst h'; simp [condV, h]
    · have e2 : encL [V.mk 21 0 c []] = [[DV.int .u8 21, DV.int .u64 0, DV.str c, DV.sl 4 (encL [])]] := by simp [encL, enc]
      rw [e2]; exact .refl _
    · simp at h
      have h' : c ≠ [] := by simpa using h'
      simp [condV, h, h']

theorem ref_putCond (c : List UInt8) (hc : c.length ≤ 1099511627776) : G 72 [.d (.str c)] (vePV (condV c)) := by
  refine gives_of (walk0 ctxOK (calling_of (l := [E1 105 aBy (fun _ => True) (fun s => .d (.bool (asciiB s))), E2 106 (aI .u8) aS (fun _ _ => True) (fun k s => vPV (.mk k 0 s [])), E2 16 (aI .u64) aVs (fun _ l => sizeL l + 3 ≤ 1099511627776) (fun c l => vPV (putV c l)), E0' 74 (vPV (.mk 1 0 [] []))]) (m := []) ?_ (by simp)) (cut := []) 60 ?_)
  · intro e he
    simp only [List.mem_cons, List.not_mem_nil, or_false] at he
    rcases he with rfl | rfl | rfl | rfl
    · exact E1_ok fun s _ => ref_ascii s
    · exact E2_ok fun k s _ => ref_text k s
    · exact E2_ok fun k l h => ref_put k l h
    · exact E0_ok ref_null
  · have e : decLL [[DV.int .u8 21, DV.int .u64 0, DV.str c, DV.sl 4 (encL [])]] = [V.mk 21 0 c []] := by simp [decLL, decL, DV.gI, DV.iv, DV.gS, DV.kidsV]
    have hm : decide (c.length ≤ mostBytes) = true := decide_eq_true (by unfold mostBytes; omega)
    refine Eq.mpr (show _ = (Need (decide (List.length c ≤ mostBytes)) (NeedP (WkPs [PV.d (DV.sl (1 : Nat) (bytesEls c))] [PV.d (DV.sl (1 : Nat) (bytesEls (decB (bytesEls c))))] ∧ True) (Split2 (!asciiB (decB (bytesEls c))) (WkP (PV.tup [PV.agg [PV.d (DV.int IntKind.u8 (0 : Int)), PV.d (DV.int IntKind.u64 (0 : Int)), PV.d (DV.str []), PV.d DV.nil], PV.d (DV.int IntKind.i64 (1 : Int))]) (vePV (condV c))) (Split2 (c == Array.toList (ByteArray.data (ByteArray.mk #[]))) (WkP (PV.tup [PV.agg [PV.d (DV.int IntKind.u8 (1 : Int)), PV.d (DV.int IntKind.u64 (0 : Int)), PV.d (DV.str []), PV.d (DV.sl (4 : Nat) (encL []))], PV.d (DV.int IntKind.i64 (0 : Int))]) (vePV (condV c))) (NeedP (WkPs [PV.d (DV.int IntKind.u8 (21 : Int)), PV.d (DV.str c)] [PV.d (DV.int IntKind.u8 (21 : Int)), PV.d (DV.str c)] ∧ True) (Need ((1 : Nat) == (1 : Nat)) (NeedP (WkPs [PV.d (DV.int IntKind.u64 (29 : Int)), PV.d (DV.sl (4 : Nat) [[DV.int IntKind.u8 (21 : Int), DV.int IntKind.u64 (0 : Int), DV.str c, DV.sl (4 : Nat) (encL [])]])] [PV.d (DV.int IntKind.u64 (29 : Int)), PV.d (DV.sl (4 : Nat) (encL (decLL [[DV.int IntKind.u8 (21 : Int), DV.int IntKind.u64 (0 : Int), DV.str c, DV.sl (4 : Nat) (encL [])]])))] ∧ sizeL (decLL [[DV.int IntKind.u8 (21 : Int), DV.int IntKind.u64 (0 : Int), DV.str c, DV.sl (4 : Nat) (encL [])]]) + (3 : Nat) ≤ (1099511627776 : Nat)) (WkP (PV.tup [PV.agg [PV.d (DV.int IntKind.u8 (V.k (putV (29 : Int) (decLL [[DV.int IntKind.u8 (21 : Int), DV.int IntKind.u64 (0 : Int), DV.str c, DV.sl (4 : Nat) (encL [])]])))), PV.d (DV.int IntKind.u64 (V.n (putV (29 : Int) (decLL [[DV.int IntKind.u8 (21 : Int), DV.int IntKind.u64 (0 : Int), DV.str c, DV.sl (4 : Nat) (encL [])]])))), PV.d (DV.str (V.t (putV (29 : Int) (decLL [[DV.int IntKind.u8 (21 : Int), DV.int IntKind.u64 (0 : Int), DV.str c, DV.sl (4 : Nat) (encL [])]])))), PV.d (DV.sl (4 : Nat) (encL (V.kids (putV (29 : Int) (decLL [[DV.int IntKind.u8 (21 : Int), DV.int IntKind.u64 (0 : Int), DV.str c, DV.sl (4 : Nat) (encL [])]])))))], PV.d (DV.int IntKind.i64 (0 : Int))]) (vePV (condV c)))))))))) by kernel_rfl) ?_
    simp only [decB_bytes, e]
    refine ⟨hm, ⟨.refl _, trivial⟩, fun h => wk_veN ?_, fun h => ⟨fun h' => wk_ve (v := nullV) ?_, fun h' => ⟨⟨.refl _, trivial⟩, rfl, ⟨?_, by simp [V.size, sizeL]⟩, wk_ve ?_⟩⟩⟩
    · simp at h; simp [condV, h, zeroV]
    · simp at h
      have h' : c = [] := by simpa using h'
      subst h'; simp [condV, h]
    · have e2 : encL [V.mk 21 0 c []] = [[DV.int .u8 21, DV.int .u64 0, DV.str c, DV.sl 4 (encL [])]] := by simp [encL, enc]
      rw [e2]; exact .refl _
    · simp at h
      have h' : c ≠ [] := by simpa using h'
      simp [condV, h, h']

def formName : Nat → List UInt8
  | 0 => [97, 109, 113, 112, 58, 114, 101, 99, 101, 105, 118, 101, 100, 58, 108, 105, 115, 116]
  | 1 => [97, 109, 113, 112, 58, 97, 99, 99, 101, 112, 116, 101, 100, 58, 108, 105, 115, 116]
  | 2 => [97, 109, 113, 112, 58, 114, 101, 106, 101, 99, 116, 101, 100, 58, 108, 105, 115, 116]
  | 3 => [97, 109, 113, 112, 58, 114, 101, 108, 101, 97, 115, 101, 100, 58, 108, 105, 115, 116]
  | 4 => [97, 109, 113, 112, 58, 109, 111, 100, 105, 102, 105, 101, 100, 58, 108, 105, 115, 116]
  | _ => []
def formRows : List (List DV) := [
  [.int .u8 1, .int .u64 35, .str (formName 0), .int .i64 2, .fn 96, .fn 97],
  [.int .u8 2, .int .u64 36, .str (formName 1), .int .i64 0, .fn 98, .fn 99],
  [.int .u8 3, .int .u64 37, .str (formName 2), .int .i64 1, .fn 100, .fn 101],
  [.int .u8 4, .int .u64 38, .str (formName 3), .int .i64 0, .fn 98, .fn 99],
  [.int .u8 5, .int .u64 39, .str (formName 4), .int .i64 3, .fn 102, .fn 104]]
def formsPV : PV := .d (.sl 6 formRows)
set_option maxRecDepth 100000 in
theorem val_forms : G 70 [] formsPV := by
  refine gives_of (walk0 ctxOK (calling_of (l := []) (m := []) (by simp) (by simp)) (cut := []) 60 ?_)
  refine Eq.mpr (show _ = (Need ((5 : Nat) == (5 : Nat)) (WkP (PV.d (DV.sl (6 : Nat) [[DV.int IntKind.u8 (1 : Int), DV.int IntKind.u64 (35 : Int), DV.str (Array.toList (ByteArray.data (ByteArray.mk #[(97 : UInt8), (109 : UInt8), (113 : UInt8), (112 : UInt8), (58 : UInt8), (114 : UInt8), (101 : UInt8), (99 : UInt8), (101 : UInt8), (105 : UInt8), (118 : UInt8), (101 : UInt8), (100 : UInt8), (58 : UInt8), (108 : UInt8), (105 : UInt8), (115 : UInt8), (116 : UInt8)]))), DV.int IntKind.i64 (2 : Int), DV.fn (96 : Nat), DV.fn (97 : Nat)], [DV.int IntKind.u8 (2 : Int), DV.int IntKind.u64 (36 : Int), DV.str (Array.toList (ByteArray.data (ByteArray.mk #[(97 : UInt8), (109 : UInt8), (113 : UInt8), (112 : UInt8), (58 : UInt8), (97 : UInt8), (99 : UInt8), (99 : UInt8), (101 : UInt8), (112 : UInt8), (116 : UInt8), (101 : UInt8), (100 : UInt8), (58 : UInt8), (108 : UInt8), (105 : UInt8), (115 : UInt8), (116 : UInt8)]))), DV.int IntKind.i64 (0 : Int), DV.fn (98 : Nat), DV.fn (99 : Nat)], [DV.int IntKind.u8 (3 : Int), DV.int IntKind.u64 (37 : Int), DV.str (Array.toList (ByteArray.data (ByteArray.mk #[(97 : UInt8), (109 : UInt8), (113 : UInt8), (112 : UInt8), (58 : UInt8), (114 : UInt8), (101 : UInt8), (106 : UInt8), (101 : UInt8), (99 : UInt8), (116 : UInt8), (101 : UInt8), (100 : UInt8), (58 : UInt8), (108 : UInt8), (105 : UInt8), (115 : UInt8), (116 : UInt8)]))), DV.int IntKind.i64 (1 : Int), DV.fn (100 : Nat), DV.fn (101 : Nat)], [DV.int IntKind.u8 (4 : Int), DV.int IntKind.u64 (38 : Int), DV.str (Array.toList (ByteArray.data (ByteArray.mk #[(97 : UInt8), (109 : UInt8), (113 : UInt8), (112 : UInt8), (58 : UInt8), (114 : UInt8), (101 : UInt8), (108 : UInt8), (101 : UInt8), (97 : UInt8), (115 : UInt8), (101 : UInt8), (100 : UInt8), (58 : UInt8), (108 : UInt8), (105 : UInt8), (115 : UInt8), (116 : UInt8)]))), DV.int IntKind.i64 (0 : Int), DV.fn (98 : Nat), DV.fn (99 : Nat)], [DV.int IntKind.u8 (5 : Int), DV.int IntKind.u64 (39 : Int), DV.str (Array.toList (ByteArray.data (ByteArray.mk #[(97 : UInt8), (109 : UInt8), (113 : UInt8), (112 : UInt8), (58 : UInt8), (109 : UInt8), (111 : UInt8), (100 : UInt8), (105 : UInt8), (102 : UInt8), (105 : UInt8), (101 : UInt8), (100 : UInt8), (58 : UInt8), (108 : UInt8), (105 : UInt8), (115 : UInt8), (116 : UInt8)]))), DV.int IntKind.i64 (3 : Int), DV.fn (102 : Nat), DV.fn (104 : Nat)]])) formsPV)) by kernel_rfl) ?_
  exact ⟨rfl, .refl _⟩
def flagV (n : Int) : V := if n = 0 then nullV else boolV true
theorem val_truth (n : Int) : G 103 [.d (.int .u64 n)] (vPV (flagV n)) := by
  refine gives_of (walk0 ctxOK (calling_of (l := [E1 118 aB (fun _ => True) (fun b => vPV (boolV b)), E0' 33 (vPV nullV)]) (m := []) ?_ (by simp)) (cut := []) 60 ?_)
  · intro e he
    simp only [List.mem_cons, List.not_mem_nil, or_false] at he
    rcases he with rfl | rfl
    · exact E1_ok fun b _ => val_bool b
    · exact E0_ok val_null
  · refine Eq.mpr (show _ = (Split2 (n == (0 : Int)) (WkP (PV.agg [PV.d (DV.int IntKind.u8 (V.k nullV)), PV.d (DV.int IntKind.u64 (V.n nullV)), PV.d (DV.str (V.t nullV)), PV.d (DV.sl (4 : Nat) (encL (V.kids nullV)))]) (vPV (flagV n))) (NeedP (WkPs [PV.d (DV.bool true)] [PV.d (DV.bool true)] ∧ True) (WkP (PV.agg [PV.d (DV.int IntKind.u8 (V.k (boolV true))), PV.d (DV.int IntKind.u64 (V.n (boolV true))), PV.d (DV.str (V.t (boolV true))), PV.d (DV.sl (4 : Nat) (encL (V.kids (boolV true))))]) (vPV (flagV n))))) by kernel_rfl) ?_
    refine ⟨fun h => ?_, fun h => ⟨⟨.refl _, trivial⟩, ?_⟩⟩
    · have h : n = 0 := by simpa using h
      unfold flagV; rw [if_pos h]; exact .refl _
    · have h : n ≠ 0 := by simpa using h
      unfold flagV; rw [if_neg h]; exact .refl _
theorem ref_flag (n : Int) : G 73 [.d (.int .u64 n)] (vPV (flagV n)) := by
  refine gives_of (walk0 ctxOK (calling_of (l := [E1 107 aB (fun _ => True) (fun b => vPV (boolV b)), E0' 74 (vPV nullV)]) (m := []) ?_ (by simp)) (cut := []) 60 ?_)
  · intro e he
    simp only [List.mem_cons, List.not_mem_nil, or_false] at he
    rcases he with rfl | rfl
    · exact E1_ok fun b _ => ref_bool b
    · exact E0_ok ref_null
  · refine Eq.mpr (show _ = (Split2 (n == (0 : Int)) (WkP (PV.agg [PV.d (DV.int IntKind.u8 (V.k nullV)), PV.d (DV.int IntKind.u64 (V.n nullV)), PV.d (DV.str (V.t nullV)), PV.d (DV.sl (4 : Nat) (encL (V.kids nullV)))]) (vPV (flagV n))) (NeedP (WkPs [PV.d (DV.bool true)] [PV.d (DV.bool true)] ∧ True) (WkP (PV.agg [PV.d (DV.int IntKind.u8 (V.k (boolV true))), PV.d (DV.int IntKind.u64 (V.n (boolV true))), PV.d (DV.str (V.t (boolV true))), PV.d (DV.sl (4 : Nat) (encL (V.kids (boolV true))))]) (vPV (flagV n))))) by kernel_rfl) ?_
    refine ⟨fun h => ?_, fun h => ⟨⟨.refl _, trivial⟩, ?_⟩⟩
    · have h : n = 0 := by simpa using h
      unfold flagV; rw [if_pos h]; exact .refl _
    · have h : n ≠ 0 := by simpa using h
      unfold flagV; rw [if_neg h]; exact .refl _
theorem put_received (o : Oc) : G 96 [oPV o] (.d (.sl 4 (encL [.mk 5 o.a [] [], .mk 6 o.b [] []]))) := by
  refine gives_of (walk0 ctxOK (calling_of (l := [E2 41 (aI .u8) (aI .u64) (fun _ _ => True) (fun k n => vPV (.mk k n [] []))]) (m := []) (by simp only [List.mem_singleton, forall_eq]; exact E2_ok fun k n _ => val_number k n) (by simp)) (cut := []) 60 ?_)
  refine Eq.mpr (show _ = (Need true (Need true (NeedP (WkPs [PV.d (DV.int IntKind.u8 (5 : Int)), PV.d (DV.int IntKind.u64 (Oc.a o))] [PV.d (DV.int IntKind.u8 (5 : Int)), PV.d (DV.int IntKind.u64 (Oc.a o))] ∧ True) (Need true (Need true (NeedP (WkPs [PV.d (DV.int IntKind.u8 (6 : Int)), PV.d (DV.int IntKind.u64 (Oc.b o))] [PV.d (DV.int IntKind.u8 (6 : Int)), PV.d (DV.int IntKind.u64 (Oc.b o))] ∧ True) (Need ((2 : Nat) == (2 : Nat)) (WkP (PV.d (DV.sl (4 : Nat) [[DV.int IntKind.u8 (5 : Int), DV.int IntKind.u64 (Oc.a o), DV.str [], DV.sl (4 : Nat) (encL [])], [DV.int IntKind.u8 (6 : Int), DV.int IntKind.u64 (Oc.b o), DV.str [], DV.sl (4 : Nat) (encL [])]])) (PV.d (DV.sl (4 : Nat) (encL [V.mk (5 : Int) (Oc.a o) [] [], V.mk (6 : Int) (Oc.b o) [] []]))))))))))) by kernel_rfl) ?_
  refine ⟨rfl, rfl, ⟨.refl _, trivial⟩, rfl, rfl, ⟨.refl _, trivial⟩, rfl, ?_⟩
  simp only [encL, enc]
  exact .refl _
theorem put_nothing (o : Oc) : G 98 [oPV o] (.d (.sl 4 (encL []))) := by
  refine gives_of (walk0 ctxOK (calling_of (l := []) (m := []) (by simp) (by simp)) (cut := []) 60 ?_)
  refine Eq.mpr (show _ = (WkP (PV.d DV.nil) (PV.d (DV.sl (4 : Nat) (encL [])))) by kernel_rfl) ?_
  simp only [encL]
  exact .one (.nil 4)
theorem put_rejected (o : Oc) (h : o.c.length ≤ 1099511627776) : G 100 [oPV o] (.d (.sl 4 (encL [(condV o.c).1]))) := by
  refine gives_of (walk0 ctxOK (calling_of (l := [E1 38 aS (fun c => c.length ≤ 1099511627776) (fun c => vePV (condV c))]) (m := []) (by simp only [List.mem_singleton, forall_eq]; exact E1_ok fun c h => val_putCond c h) (by simp)) (cut := []) 60 ?_)
  refine Eq.mpr (show _ = (NeedP (WkPs [PV.d (DV.str (Oc.c o))] [PV.d (DV.str (Oc.c o))] ∧ List.length (Oc.c o) ≤ (1099511627776 : Nat)) (Need ((1 : Nat) == (1 : Nat)) (WkP (PV.d (DV.sl (4 : Nat) [[DV.int IntKind.u8 (V.k (Prod.fst (condV (Oc.c o)))), DV.int IntKind.u64 (V.n (Prod.fst (condV (Oc.c o)))), DV.str (V.t (Prod.fst (condV (Oc.c o)))), DV.sl (4 : Nat) (encL (V.kids (Prod.fst (condV (Oc.c o)))))]])) (PV.d (DV.sl (4 : Nat) (encL [Prod.fst (condV (Oc.c o))])))))) by kernel_rfl) ?_
  refine ⟨⟨.refl _, h⟩, rfl, ?_⟩
  rw [encL_cons, encL_nil, enc_eq]
  exact .refl _
theorem put_modified (o : Oc) : G 102 [oPV o] (.d (.sl 4 (encL [flagV o.a, flagV o.b]))) := by
  refine gives_of (walk0 ctxOK (calling_of (l := [E1 103 (aI .u64) (fun _ => True) (fun n => vPV (flagV n))]) (m := []) (by simp only [List.mem_singleton, forall_eq]; exact E1_ok fun n _ => val_truth n) (by simp)) (cut := []) 60 ?_)
  refine Eq.mpr (show _ = (Need true (NeedP (WkPs [PV.d (DV.int IntKind.u64 (Oc.a o))] [PV.d (DV.int IntKind.u64 (Oc.a o))] ∧ True) (Need true (NeedP (WkPs [PV.d (DV.int IntKind.u64 (Oc.b o))] [PV.d (DV.int IntKind.u64 (Oc.b o))] ∧ True) (Need ((2 : Nat) == (2 : Nat)) (WkP (PV.d (DV.sl (4 : Nat) [[DV.int IntKind.u8 (V.k (flagV (Oc.a o))), DV.int IntKind.u64 (V.n (flagV (Oc.a o))), DV.str (V.t (flagV (Oc.a o))), DV.sl (4 : Nat) (encL (V.kids (flagV (Oc.a o))))], [DV.int IntKind.u8 (V.k (flagV (Oc.b o))), DV.int IntKind.u64 (V.n (flagV (Oc.b o))), DV.str (V.t (flagV (Oc.b o))), DV.sl (4 : Nat) (encL (V.kids (flagV (Oc.b o))))]])) (PV.d (DV.sl (4 : Nat) (encL [flagV (Oc.a o), flagV (Oc.b o)]))))))))) by kernel_rfl) ?_
  refine ⟨rfl, ⟨.refl _, trivial⟩, rfl, ⟨.refl _, trivial⟩, rfl, ?_⟩
  rw [encL_cons, encL_cons, encL_nil, enc_eq, enc_eq]
  exact .refl _
end Go.Proofs.Ytepgblhhajdmoaa
