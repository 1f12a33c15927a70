/-
  The tables of the engine are the program's own.
-/
import Derived.Test.YtepgblhhajdmoaaTab
import Derived.Test.YtepgblhhajdmoaaEng22
import Derived.KernelRfl
namespace Go.Proofs.Ytepgblhhajdmoaa
open Go Go.Proofs.Ytepgblhhajdmoaa.Eng
noncomputable def rowL (e : Nat × TI) := ((Try.prog.underlying e.1).map tkOf, (Try.prog.info? e.1).map (fun j => (j.size, j.bytes, j.zero.bind fun z => dvsOfV z.cells.toList)), e.2.zero.length)
noncomputable def rowR (e : Nat × TI) := (some e.2.kind, some (e.2.size, e.2.bytes, some e.2.zero), e.2.size)
theorem tt_rows : tt.map rowL = tt.map rowR := by kernel_rfl
theorem fns_are : Try.prog.funcs.toList = fns := by kernel_rfl
theorem fns_names : fns.all (fun F => !(F.name == "runtime.NumGoroutine")) = true := by kernel_rfl
theorem eqs_ok : Γ.eqs.all (fun T => eqB Try.prog T) = true := by kernel_rfl
theorem assoc_mem {α : Type} : ∀ {l : List (Nat × α)} {n : Nat} {x : α}, assoc l n = some x → (n, x) ∈ l
  | [], n, x, h => by simp [assoc] at h
  | (a, y) :: r, n, x, h => by
    unfold assoc at h
    split at h
    · rename_i hb
      cases h
      have := Nat.eq_of_beq_eq_true hb
      subst this
      exact List.mem_cons_self
    · exact List.mem_cons_of_mem _ (assoc_mem h)
theorem ctxOK : CtxOK Γ Try.prog := by
  refine ⟨fun t i h => ?_, fun f F h => ?_, by kernel_rfl, fun T h => ?_⟩
  · have hm : (t, i) ∈ tt := assoc_mem h
    obtain ⟨j, hj, he⟩ := List.getElem_of_mem hm
    have h1 : (tt.map rowL)[j]? = (tt.map rowR)[j]? := by rw [tt_rows]
    rw [List.getElem?_map, List.getElem?_map, List.getElem?_eq_getElem hj, he] at h1
    simp only [Option.map_some, Option.some.injEq, rowL, rowR, Prod.mk.injEq] at h1
    exact ⟨h1.1, h1.2.1, h1.2.2⟩
  · rw [nth_eq] at h
    have h1 : Try.prog.funcs.toList[f]? = some F := by rw [fns_are]; exact h
    refine ⟨by simpa using h1, ?_⟩
    have := List.all_eq_true.1 fns_names F (List.mem_of_getElem? h)
    simpa using this
  · exact List.all_eq_true.1 eqs_ok T (by simpa using h)
end Go.Proofs.Ytepgblhhajdmoaa
