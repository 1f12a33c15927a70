/-
  Plain facts about values and rows of them.
-/
import Derived.Test.YtepgblhhajdmoaaTie
import Derived.Test.YtepgblhhajdmoaaEng28
import Derived.KernelRfl
set_option linter.unusedVariables false
set_option linter.unusedSimpArgs false
namespace Go.Proofs.Ytepgblhhajdmoaa
open Go Go.Proofs.Ytepgblhhajdmoaa.Eng
abbrev G (f : Nat) (ps : List PV) (p : PV) : Prop := Gives Γ Try.prog f ps p
/-- a function of this program with a body -/
theorem known (f : Nat) (h : knownB Γ f = true) : ∃ fn, Try.prog.funcs[f]? = some fn ∧ (fn.name == "runtime.NumGoroutine") = false ∧ fn.body.isSome = true := known_of ctxOK h
theorem cells_enc (v : V) : [DV.int .u8 v.k, DV.int .u64 v.n, DV.str v.t, DV.sl 4 (encL v.kids)] = enc v := (enc_eq v).symm
theorem take_succ_nthV {l : List V} {i : Nat} (h : i < l.length) : l.take (i + 1) = l.take i ++ [nthV l i] := by
  rw [List.take_succ_eq_append_getElem h]
  simp [nthV, List.getD_eq_getElem?_getD, h]
theorem encL_take_succ {l : List V} {i : Nat} (h : i < l.length) : encL (l.take i) ++ [enc (nthV l i)] = encL (l.take (i + 1)) := by
  rw [take_succ_nthV h, encL_append, encL_cons, encL_nil]
theorem encL_takeL (l : List V) (n : Nat) : (encL l).take n = encL (l.take n) := by simp [encL_eq, List.map_take]
theorem encL_dropL (l : List V) (n : Nat) : (encL l).drop n = encL (l.drop n) := by simp [encL_eq, List.map_drop]
theorem length_le_sizeL (l : List V) : l.length ≤ sizeL l := by
  induction l with
  | nil => exact Nat.zero_le _
  | cons v r ih =>
    have := V.size_eq v
    simp only [List.length_cons, sizeL]
    omega
theorem kids_le (v : V) : v.kids.length < v.size := by
  have := length_le_sizeL v.kids
  rw [V.size_eq]; omega
theorem size_pos (v : V) : 0 < v.size := by rw [V.size_eq]; omega
theorem sizeL_kids (v : V) : sizeL v.kids < v.size := by rw [V.size_eq]; omega
theorem size_nth {l : List V} {i : Nat} (h : i < l.length) : (nthV l i).size ≤ sizeL l := sizeL_mem (nthV_mem h)
@[simp] theorem sizeL_nil : sizeL [] = 0 := by simp only [sizeL]
@[simp] theorem sizeL_cons (v : V) (r : List V) : sizeL (v :: r) = v.size + sizeL r := by simp only [sizeL]
theorem sizeL_append (l r : List V) : sizeL (l ++ r) = sizeL l + sizeL r := by
  induction l with
  | nil => simp
  | cons v l ih => simp only [List.cons_append, sizeL_cons, ih]; omega
theorem sizeL_take (l : List V) (i : Nat) : sizeL (l.take i) ≤ sizeL l := by
  have := sizeL_append (l.take i) (l.drop i)
  rw [List.take_append_drop] at this
  omega
/-! ### bytes -/
@[simp] theorem bytesEls_length (s : List UInt8) : (bytesEls s).length = s.length := by simp [bytesEls]
def nthB (s : List UInt8) (i : Nat) : UInt8 := s.getD i 0
theorem nthD_bytes {s : List UInt8} {i : Nat} (h : i < s.length) : nthD (bytesEls s) i = [.int .u8 (nthB s i).toNat] := by simp [nthD, bytesEls, nthB, h]
theorem elemOK_bytes {s : List UInt8} {i : Nat} (h : i < s.length) : elemOK [CK.int .u8] (bytesEls s) i = true := by simp [elemOK, bytesEls, h, shapedB]
theorem cell_b (n : Int) : (cellD [DV.int .u8 n] 0).gI = n := rfl
/-- a known bool -/
theorem take_succ_nthB {s : List UInt8} {i : Nat} (h : i < s.length) : s.take (i + 1) = s.take i ++ [nthB s i] := by
  rw [List.take_succ_eq_append_getElem h]
  simp [nthB, List.getD_eq_getElem?_getD, h]
def byteD : List DV → UInt8
  | [x] => UInt8.ofNat x.gI.toNat
  | _ => 0
def decB (es : List (List DV)) : List UInt8 := es.map byteD
@[simp] theorem decB_bytes (s : List UInt8) : decB (bytesEls s) = s := by
  induction s with
  | nil => rfl
  | cons b r ih =>
    have : decB (bytesEls (b :: r)) = byteD [.int .u8 b.toNat] :: decB (bytesEls r) := rfl
    rw [this, ih]
    simp [byteD, DV.gI, DV.iv]
def Eng.PV.toBy : PV → List UInt8
  | .d x => decB x.gL
  | _ => []
/-- a slice of bytes -/
def aBy : Arg (List UInt8) := ⟨fun s => .d (.sl 1 (bytesEls s)), Eng.PV.toBy⟩
end Go.Proofs.Ytepgblhhajdmoaa
