/-
  THE ENGINE, part 0: values without addresses, and how a function's text is carried out on them. Nothing here speaks of the machine's memory: part 1 shows that the machine does what is reckoned here.
-/
import Derived.WalkKit
import Derived.Deep.Quiet
import Derived.StillTail
import Derived.Maps.AppendAt
set_option linter.unusedVariables false
namespace Go.Proofs.Ytepgblhhajdmoaa.Eng
open Go

/-! ### values -/
inductive DV where
  | bool (b : Bool) | int (k : IntKind) (n : Int) | str (s : List UInt8)
  | flt (b : Nat) | cx (re im : Nat)
  | nil | sl (sz : Nat) (es : List (List DV))
  | fn (f : Nat) | nofn | nilp | nili
  | kb (b : Bool) | ki (k : IntKind) (n : Int)

inductive PV where
  | d (v : DV) | undef
  | agg (cs : List PV) | tup (cs : List PV)
  | box (i off : Nat)
  | elem (cs : List DV)
  | row (i n : Nat) | rowel (i n j off : Nat)
  | clo (f : Nat) (caps : List PV)
  | ifc (t : Nat) (v : PV)

inductive AB where
  | box (T : Nat) (cs : List PV)
  | row (T sz : Nat) (xs : List (List DV))
  | froz (T sz : Nat) (xs : List (List DV))
  | dead

inductive TK where
  | bool | int (k : IntKind) | str | flt | cx | ptr (e : Nat) | slice (e : Nat) | arr (n e : Nat) | map (k e : Nat) | fn | iface | struct (fs : List (Nat × Nat)) | other

structure TI where
  kind : TK
  size : Nat
  bytes : Nat
  zero : List DV

/-- what a cell is, by its type -/
inductive CK where
  | int (k : IntKind) | bool | str | sl (sz : Nat) | other

structure Ctx where
  tt : List (Nat × TI)
  pats : List (Nat × List CK)
  exact : List Nat
  glob : List (Nat × List DV)
  fns : List Func
  eqs : List Nat
  whole : List Nat

structure St where
  slots : List (Option PV)
  heap : List AB

inductive AExit where
  | normal | exit (id : Nat) | goto (l : Nat) | ret | panic (v : PV)

def assoc {α : Type} : List (Nat × α) → Nat → Option α
  | [], _ => none
  | (a, x) :: r, n => match Nat.beq a n with | true => some x | false => assoc r n

def nth {α : Type} : List α → Nat → Option α
  | [], _ => none
  | x :: _, 0 => some x
  | _ :: r, n + 1 => nth r n

/-- replace the n-th -/
def upd {α : Type} {β : Type} : List α → Nat → α → (List α → β) → β
  | [], _, _, k => k []
  | _ :: r, 0, v, k => k (v :: r)
  | x :: r, n + 1, v, k => upd r n v fun r' => k (x :: r')
def snoc {α : Type} {β : Type} : List α → α → (List α → β) → β
  | [], v, k => k [v]
  | x :: r, v, k => snoc r v fun r' => k (x :: r')

/-- write cells over some of a row's -/
def splice {α : Type} (cs : List α) (off : Nat) (new : List α) : List α := cs.take off ++ new ++ cs.drop (off + new.length)

/-! ### cells whose types are known: what they hold is told by these -/
inductive IV where
  | sym (k : IntKind) (n : Int) | known (k : IntKind) (n : Int) | no
def DV.iv : DV → IV
  | .int k n => .sym k n
  | .ki k n => .known k n
  | .bool _ => .no
  | .kb _ => .no
  | .str _ => .no
  | .flt _ => .no
  | .cx _ _ => .no
  | .nil => .no
  | .sl _ _ => .no
  | .fn _ => .no
  | .nofn => .no
  | .nilp => .no
  | .nili => .no
def PV.iv : PV → IV
  | .d x => x.iv
  | .undef => .no
  | .agg _ => .no
  | .tup _ => .no
  | .box _ _ => .no
  | .elem _ => .no
  | .row _ _ => .no
  | .rowel _ _ _ _ => .no
  | .clo _ _ => .no
  | .ifc _ _ => .no
def DV.gI (x : DV) : Int := match x.iv with
  | .sym _ n => n
  | .known _ n => n
  | .no => 0
/-- a truth value: any, or a known one -/
inductive BV where
  | sym (b : Bool) | known (b : Bool) | no
def DV.bv : DV → BV
  | .bool b => .sym b
  | .kb b => .known b
  | .int _ _ => .no
  | .ki _ _ => .no
  | .str _ => .no
  | .flt _ => .no
  | .cx _ _ => .no
  | .nil => .no
  | .sl _ _ => .no
  | .fn _ => .no
  | .nofn => .no
  | .nilp => .no
  | .nili => .no
def PV.bv : PV → BV
  | .d x => x.bv
  | .undef => .no
  | .agg _ => .no
  | .tup _ => .no
  | .box _ _ => .no
  | .elem _ => .no
  | .row _ _ => .no
  | .rowel _ _ _ _ => .no
  | .clo _ _ => .no
  | .ifc _ _ => .no
def DV.gB (x : DV) : Bool := match x.bv with
  | .sym b => b
  | .known b => b
  | .no => false
def DV.gS : DV → List UInt8
  | .str s => s
  | _ => []
def DV.gL : DV → List (List DV)
  | .sl _ es => es
  | _ => []
def cellD (x : List DV) (j : Nat) : DV := x.getD j .nil
def nthD (es : List (List DV)) (n : Nat) : List DV := es.getD n []
def expandD (x : List DV) : Nat → List CK → List DV
  | _, [] => []
  | j, .int k :: r => .int k (cellD x j).gI :: expandD x (j + 1) r
  | j, .bool :: r => .bool (cellD x j).gB :: expandD x (j + 1) r
  | j, .str :: r => .str (cellD x j).gS :: expandD x (j + 1) r
  | j, .sl sz :: r => .sl sz (cellD x j).gL :: expandD x (j + 1) r
  | j, .other :: r => cellD x j :: expandD x (j + 1) r
def shapedB : List CK → List DV → Bool
  | [], [] => true
  | .int k :: r, .int k' _ :: x => decide (k = k') && shapedB r x
  | .bool :: r, .bool _ :: x => shapedB r x
  | .str :: r, .str _ :: x => shapedB r x
  | .sl sz :: r, .sl sz' _ :: x => Nat.beq sz sz' && shapedB r x
  | .other :: r, _ :: x => shapedB r x
  | _, _ => false
def elemOK (ps : List CK) (es : List (List DV)) (n : Nat) : Bool := match es[n]? with | some e => shapedB ps e | none => false

section
variable {β : Sort _}

/-! ### in the one mode numbers and texts are reckoned at once, in the other they stand as they are -/
def fnat (n : Nat) (k : Nat → β) : β := match n with | 0 => k 0 | n + 1 => k (n + 1)
def fint (c : Bool) (n : Int) (k : Int → β) : β :=
  match c with
  | false => k n
  | true => match n with | .ofNat m => fnat m fun m => k (.ofNat m) | .negSucc m => fnat m fun m => k (.negSucc m)
def fbool (c : Bool) (b : Bool) (k : Bool → β) : β := match c with | false => k b | true => (match b with | true => k true | false => k false)
def fu8 (b : UInt8) (k : UInt8 → β) : β := fnat b.toNat fun n => k (UInt8.ofNat n)
def fbytes : List UInt8 → (List UInt8 → β) → β
  | [], k => k []
  | b :: r, k => fu8 b fun b => fbytes r fun r => k (b :: r)
def fstr (c : Bool) (s : List UInt8) (k : List UInt8 → β) : β := match c with | false => k s | true => fbytes s k
def fdv (c : Bool) (v : DV) (k : DV → β) : β :=
  match c with
  | false => k v
  | true => match v with
    | .int kd n => fint true n fun n => k (.int kd n)
    | .ki kd n => fint true n fun n => k (.ki kd n)
    | .bool b => fbool true b fun b => k (.bool b)
    | .kb b => fbool true b fun b => k (.kb b)
    | .str s => fstr true s fun s => k (.str s)
    | v => k v
def fdvs (c : Bool) : List DV → (List DV → β) → β
  | [], k => k []
  | x :: r, k => fdv c x fun x => fdvs c r fun r => k (x :: r)
def fels (c : Bool) : List (List DV) → (List (List DV) → β) → β
  | [], k => k []
  | x :: r, k => fdvs c x fun x => fels c r fun r => k (x :: r)
def frows (c : Bool) (xs : List (List DV)) (k : List (List DV) → β) : β := match c with | false => k xs | true => fels c xs k
def fcell (c : Bool) (v : PV) (k : PV → β) : β :=
  match c with
  | false => k v
  | true => match v with
    | .d x => fdv true x fun x => k (.d x)
    | v => k v
/-- the spine of a row of cells is always laid open -/
def fcells (c : Bool) : List PV → (List PV → β) → β
  | [], k => k []
  | x :: r, k => fcell c x fun x => fcells c r fun r => k (x :: r)
def fpv (c : Bool) (v : PV) (k : PV → β) : β :=
  match v with
  | .agg cs => fcells c cs fun cs => k (.agg cs)
  | .d x => (match c with
    | false => k (.d x)
    | true => (match x with
      | .sl sz es => frows true es fun es => k (.d (.sl sz es))
      | x => fdv true x fun x => k (.d x)))
  | v => k v
def spine {α : Type} : List α → (List α → β) → β
  | [], k => k []
  | x :: r, k => spine r fun r => k (x :: r)
def takeK {α : Type} : Nat → List α → (List α → β) → β
  | 0, _, k => k []
  | _ + 1, [], k => k []
  | n + 1, x :: r, k => takeK n r fun r => k (x :: r)
def lenK {α : Type} (c : Bool) : List α → Nat → (Nat → β) → β
  | [], n, k => (match c with | true => fnat n k | false => k n)
  | _ :: r, n, k => lenK c r (n + 1) k
/-- a row's length: reckoned, or as it stands -/
def lenC {α : Type} (c : Bool) (l : List α) (k : Nat → β) : β := match c with
  | true => lenK true l 0 k
  | false => k l.length
end

/-- here nothing is reckoned: the number is the place in this text -/
inductive Bad : Nat → Prop
/-- an operand that is not there -/
inductive BadO : Operand → Prop
/-- what is left to be shown, where nothing is reckoned -/
structure Need (b : Bool) (k : Prop) : Prop where
  is : b = true
  then_ : k
structure Split2 (b : Bool) (x y : Prop) : Prop where
  yes : b = true → x
  no : b = false → y
/-- a test: both ways, or the one that is known -/
def splitB (c : Bool) (b : Bool) (k : Bool → Prop) : Prop := match c with | true => (match b with | true => k true | false => k false) | false => Split2 b (k true) (k false)
def need (c : Bool) (b : Bool) (k : Prop) : Prop := match c with | true => (match b with | true => k | false => Bad 0) | false => Need b k
/-- what hangs on no input: reckoned in both modes -/
abbrev needS (c : Bool) (b : Bool) (k : Prop) : Prop := need true b k

def DV.ofV : Value → Option DV
  | .bool b => some (.kb b)
  | .int k n => some (.ki k n)
  | .string s => (match Nat.ble s.size 9223372036854775807 with | true => some (.str s.data.toList) | false => none)
  | .float .f64 b => some (.flt b)
  | .complex .f64 a b => some (.cx a b)
  | .slice none 0 0 => some .nil
  | .pointer none => some .nilp
  | .nilFunc => some .nofn
  | .nilIface => some .nili
  | _ => none
def dvsOfV : List Value → Option (List DV)
  | [] => some []
  | v :: r => match DV.ofV v, dvsOfV r with | some x, some l => some (x :: l) | _, _ => none
/-- a known truth value, as any other -/
def unkD : DV → DV
  | .kb b => .bool b
  | .ki k n => .int k n
  | .int k n => .int k n
  | .bool b => .bool b
  | .str s => .str s
  | .flt b => .flt b
  | .cx a b => .cx a b
  | .nil => .nil
  | .sl sz es => .sl sz es
  | .fn f => .fn f
  | .nofn => .nofn
  | .nilp => .nilp
  | .nili => .nili
def unkP : PV → PV
  | .d x => .d (unkD x)
  | p => p
def unkA : PV → PV
  | .d x => .d (unkD x)
  | .agg cs => .agg (cs.map unkP)
  | p => p
def PV.ofV : Value → Option PV
  | .agg cs => match dvsOfV cs.toList with | some l => some (.agg (l.map .d)) | none => none
  | v => match DV.ofV v with | some x => some (.d x) | none => none

def PV.cells : PV → List PV
  | .agg cs => cs
  | v => [v]
/-- one cell's -/
def PV.one : PV → Bool
  | .agg _ | .tup _ | .undef => false
  | _ => true

mutual
/-- speaks of no number from n on -/
def PV.under (n : Nat) : PV → Bool
  | .d _ | .undef | .elem _ => true
  | .agg cs | .tup cs | .clo _ cs => belows n cs
  | .box i _ | .row i _ | .rowel i _ _ _ => Nat.blt i n
  | .ifc _ v => v.under n
def belows (n : Nat) : List PV → Bool
  | [] => true
  | c :: r => c.under n && belows n r
end
mutual
/-- rows apart, it speaks of nothing of the call's own -/
def PV.open : PV → Bool
  | .d _ | .undef | .elem _ | .row _ _ => true
  | .agg cs | .tup cs => opens cs
  | .clo _ cs => belows 0 cs
  | .box _ _ | .rowel _ _ _ _ => false
  | .ifc _ v => v.open
def opens : List PV → Bool
  | [] => true
  | c :: r => c.open && opens r
end
def abelow (n : Nat) : List AB → Bool
  | [] => true
  | .box _ cs :: r => belows n cs && abelow n r
  | _ :: r => abelow n r

def mostBytes : Nat := 140737488355328

section
variable (Γ : Ctx) (c : Bool)

def tinfo (t : Nat) (k : TI → Prop) : Prop := match assoc Γ.tt t with | some i => k i | none => Bad (10000 + t)

def evalO (slots : List (Option PV)) : Operand → Option PV
  | .tmp t => (match nth slots t with | some (some v) => some v | _ => none)
  | .const v => PV.ofV v
  | .global g => (match assoc Γ.glob g with | some cs => some (.elem cs) | none => none)
  | .func f => some (.d (.fn f))
def withO (slots : List (Option PV)) (x : Operand) (k : PV → Prop) : Prop := match evalO Γ slots x with | some v => k v | none => BadO x
def withOs (slots : List (Option PV)) : List Operand → (List PV → Prop) → Prop
  | [], k => k []
  | x :: r, k => withO Γ slots x fun v => withOs slots r fun vs => k (v :: vs)

/-- a slice's elements, and how long each is; what is a row of the call's own is told as it stands -/
def elems (h : List AB) (v : PV) (k : Nat → List (List DV) → Prop) : Prop :=
  match v with
  | .d .nil => k 0 []
  | .d (.sl sz es) => k sz es
  | .row i n => (match nth h i with
    | some (.row _ sz xs) => need c (xs.length == n) (k sz xs)
    | some (.froz _ sz xs) => need c (xs.length == n) (k sz xs)
    | _ => (Bad 359))
  | _ => (Bad 360)

/-- one element: as it stands, or by its type -/
def elemAt (t : Nat) (es : List (List DV)) (n : Nat) (k : List DV → Prop) : Prop :=
  match c || Γ.exact.contains t with
  | true => (match nth es n with | some e => k e | none => (Bad 365))
  | false => (match assoc Γ.pats t with | some ps => need c (elemOK ps es n) (k (expandD (nthD es n) 0 ps)) | none => (Bad 366))
def setK {α : Type} {β : Sort _} (xs : List α) (j : Nat) (e : α) (k : List α → β) : β := match c with | true => upd xs j e k | false => k (xs.set j e)

/-- as data: a row of the call's own is frozen -/
def frz (h : List AB) (v : PV) (k : DV → List AB → Prop) : Prop :=
  match v with
  | .d x => k x h
  | .clo f [] => k (.fn f) h
  | .row i n => (match nth h i with
    | some (.row T sz xs) => need c (xs.length == n) (upd h i (.froz T sz xs) fun h => k (.sl sz xs) h)
    | some (.froz _ sz xs) => need c (xs.length == n) (k (.sl sz xs) h)
    | _ => (Bad 377))
  | _ => (Bad 378)
def frzs (h : List AB) : List PV → (List DV → List AB → Prop) → Prop
  | [], k => k [] h
  | v :: r, k => frz c h v fun x h => frzs h r fun l h => k (unkD x :: l) h

/-- the cells of a variable, put together -/
def finX (i : TI) (cs : List PV) (k : PV → Prop) : Prop :=
  needS c (cs.length == i.size) (match i.kind with
    | .struct _ | .arr _ _ => fcells c cs fun cs => k (.agg cs)
    | _ => match cs with | [v] => k v | _ => (Bad 387))
def loadX (h : List AB) (T : Nat) (a : PV) (k : PV → Prop) : Prop :=
  tinfo Γ T fun i => match a with
    | .box b off => (match nth h b with | some (.box _ cs) => finX c i ((cs.drop off).take i.size) k | _ => (Bad 390))
    | .elem cs => finX c i ((cs.take i.size).map .d) k
    | .rowel b n j off => (match nth h b with
      | some (.row U _ xs) => need c (xs.length == n) (elemAt Γ c U xs j fun e => finX c i (((e.drop off).take i.size).map .d) k)
      | some (.froz U _ xs) => need c (xs.length == n) (elemAt Γ c U xs j fun e => finX c i (((e.drop off).take i.size).map .d) k)
      | _ => (Bad 395))
    | _ => (Bad 396)

def oneB (cs : List PV) : Bool := cs.all PV.one

def storeX (h : List AB) (T : Nat) (a v : PV) (k : List AB → Prop) : Prop :=
  tinfo Γ T fun i =>
    needS c (v.cells.length == i.size && oneB v.cells) (match a with
    | .box b off => (match nth h b with
      | some (.box U cs) => needS c (Nat.ble (off + i.size) cs.length) (fcells c (splice cs off v.cells) fun cs => upd h b (.box U cs) k)
      | _ => (Bad 405))
    | .rowel b n j off => frzs c h v.cells fun new h => (match nth h b with
      | some (.row U sz xs) => need c (xs.length == n) (elemAt Γ c U xs j fun e => needS c (Nat.ble (off + i.size) e.length) (fdvs c (splice e off new) fun e => setK c xs j e fun xs => upd h b (.row U sz xs) k))
      | _ => (Bad 408))
    | _ => (Bad 409))

def fieldAddrX (T : Nat) (a : PV) (f : Nat) (k : PV → Prop) : Prop :=
  tinfo Γ T fun i => match i.kind with
    | .struct fs => (match nth fs f with
      | some (off, U) => tinfo Γ U fun u => needS c (Nat.blt 0 u.size) (match a with
        | .box b o => k (.box b (o + off))
        | .elem cs => k (.elem (cs.drop off))
        | .rowel b n j o => k (.rowel b n j (o + off))
        | _ => (Bad 418))
      | none => (Bad 419))
    | _ => (Bad 420)

def part (i : TI) (cs : List PV) (off : Nat) (k : PV → Prop) : Prop :=
  match i.kind with
  | .struct _ | .arr _ _ => fcells c ((cs.drop off).take i.size) fun cs => k (.agg cs)
  | _ => match nth cs off with | some v => k v | none => (Bad 425)

def fieldX (T : Nat) (v : PV) (f : Nat) (k : PV → Prop) : Prop :=
  tinfo Γ T fun i => match i.kind, v with
    | .struct fs, .agg cs => (match nth fs f with
      | some (off, U) => tinfo Γ U fun u => part c u cs off k
      | none => (Bad 431))
    | _, _ => (Bad 432)

def indexAddrX (h : List AB) (T : Nat) (x ix : PV) (k : PV → Prop) : Prop :=
  match unkP ix with
  | .d (.int kd n) => tinfo Γ T fun i => (match i.kind with
    | .slice e => tinfo Γ e fun u => (match x with
      | .d (.sl sz es) => needS c (sz == u.size) (need c (decide (0 ≤ n) && decide (n < es.length)) (elemAt Γ c e es n.toNat fun x => k (.elem x)))
      | .row b m => (match nth h b with
        | some (.row _ sz xs) => needS c (sz == u.size) (need c (xs.length == m && decide (0 ≤ n) && decide (n < xs.length)) (k (.rowel b m n.toNat 0)))
        | some (.froz _ sz xs) => needS c (sz == u.size) (need c (xs.length == m && decide (0 ≤ n) && decide (n < xs.length)) (elemAt Γ c e xs n.toNat fun x => k (.elem x)))
        | _ => (Bad 442))
      | _ => (Bad 443))
    | .arr m e => tinfo Γ e fun u => needS c (Nat.blt 0 u.size) (need c (decide (0 ≤ n) && decide (n < m)) (match x with
      | .box b off => k (.box b (off + n.toNat * u.size))
      | .elem cs => k (.elem (cs.drop (n.toNat * u.size)))
      | _ => (Bad 447)))
    | _ => (Bad 448))
  | _ => (Bad 449)

def indexX (T : Nat) (x ix : PV) (k : PV → Prop) : Prop :=
  match unkP ix with
  | .d (.int kd n) => tinfo Γ T fun i => (match i.kind, x with
    | .str, .d (.str s) => need c (decide (0 ≤ n) && decide (n < s.length)) (match c with | true => (match nth s n.toNat with | some b => k (.d (.int .u8 b.toNat)) | none => (Bad 454)) | false => k (.d (.int .u8 (s.getD n.toNat 0).toNat)))
    | .arr m e, .agg cs => tinfo Γ e fun u => need c (decide (0 ≤ n) && decide (n < m)) (part c u cs (n.toNat * u.size) k)
    | _, _ => (Bad 456))
  | _ => (Bad 457)

def kindEq (a b : IntKind) : Bool := decide (a = b)

def mkI (kn : Bool) (k : IntKind) (n : Int) : DV := match kn with
  | true => .ki k n
  | false => .int k n
def mkB (kn : Bool) (b : Bool) : DV := match kn with
  | true => .kb b
  | false => .bool b
def intX (kn : Bool) (op : BinOp) (k : IntKind) (a b : Int) (kt : PV → Prop) : Prop :=
  match op with
  | .add => kt (.d (mkI kn k (k.wrap (a + b))))
  | .sub => kt (.d (mkI kn k (k.wrap (a - b))))
  | .mul => kt (.d (mkI kn k (k.wrap (a * b))))
  | .quo => need c (!(b == 0)) (kt (.d (mkI kn k (k.wrap (a.tdiv b)))))
  | .rem => need c (!(b == 0)) (kt (.d (mkI kn k (a.tmod b))))
  | .and => kt (.d (mkI kn k (k.wrap (BitVec.ofInt k.bits a &&& BitVec.ofInt k.bits b).toNat)))
  | .or => kt (.d (mkI kn k (k.wrap (BitVec.ofInt k.bits a ||| BitVec.ofInt k.bits b).toNat)))
  | .xor => kt (.d (mkI kn k (k.wrap (BitVec.ofInt k.bits a ^^^ BitVec.ofInt k.bits b).toNat)))
  | .eql => kt (.d (mkB kn (a == b)))
  | .neq => kt (.d (mkB kn (a != b)))
  | .lss => kt (.d (mkB kn (decide (a < b))))
  | .leq => kt (.d (mkB kn (decide (a ≤ b))))
  | .gtr => kt (.d (mkB kn (decide (a > b))))
  | .geq => kt (.d (mkB kn (decide (a ≥ b))))
  | _ => (Bad 483)

def strX (op : BinOp) (a b : List UInt8) (kt : PV → Prop) : Prop :=
  match op with
  | .add => need c (decide (a.length + b.length ≤ mostBytes)) (kt (.d (.str (a ++ b))))
  | .eql => kt (.d (.bool (a == b)))
  | .neq => kt (.d (.bool (!(a == b))))
  | .lss => kt (.d (.bool (Op.bytesLess a b)))
  | .leq => kt (.d (.bool (Op.bytesLess a b || a == b)))
  | .gtr => kt (.d (.bool (!(Op.bytesLess a b || a == b))))
  | .geq => kt (.d (.bool (!Op.bytesLess a b)))
  | _ => (Bad 494)

/-- the cells of two structs, one by one: whole numbers, bools and texts -/
def cellsEq : Nat → List (Nat × Nat) → List PV → List PV → (Bool → Prop) → Prop
  | _, [], [], [], k => k true
  | n, (off, U) :: fs, a :: x, b :: y, k => needS c (off == n) (tinfo Γ U fun u => match u.kind, unkP a, unkP b with
    | .int _, .d (.int p a), .d (.int q b) => needS c (kindEq p q) (cellsEq (n + 1) fs x y fun r => k (a == b && r))
    | .bool, .d (.bool a), .d (.bool b) => cellsEq (n + 1) fs x y fun r => k (a == b && r)
    | .str, .d (.str a), .d (.str b) => cellsEq (n + 1) fs x y fun r => k (a == b && r)
    | _, _, _ => (Bad 503))
  | _, _, _, _, _ => (Bad 504)

def eqX (T : Nat) (x y : PV) (out : Bool → Bool → Prop) : Prop :=
  tinfo Γ T fun i => match i.kind, unkP x, unkP y with
    | .bool, .d (.bool a), .d (.bool b) => out false (a == b)
    | .ptr _, .d .nilp, .d .nilp => out true true
    | .ptr _, .d .nilp, .box _ _ => out true false
    | .ptr _, .box _ _, .d .nilp => out true false
    | .fn, .d .nofn, .d .nofn => out true true
    | .fn, .d (.fn _), .d .nofn => out true false
    | .fn, .clo _ _, .d .nofn => out true false
    | .struct fs, .agg a, .agg b => needS c (Γ.eqs.contains T) (cellsEq Γ c 0 fs a b (out false))
    | _, _, _ => (Bad 516)

def binX (op : BinOp) (T : Nat) (x y : PV) (kt : PV → Prop) : Prop :=
  match op with
  | .shl => (match unkP x, unkP y with
    | .d (.int k a), .d (.int _ b) => need c (decide (0 ≤ b)) (kt (.d (.int k (k.wrap (a * 2 ^ (min b.toNat k.bits))))))
    | _, _ => (Bad 522))
  | .shr => (match unkP x, unkP y with
    | .d (.int k a), .d (.int _ b) => need c (decide (0 ≤ b)) (kt (.d (.int k (a.fdiv (2 ^ (min b.toNat k.bits))))))
    | _, _ => (Bad 525))
  | op => match x.iv, y.iv with
    | .known k a, .known k' b => needS c (kindEq k k') (intX c true op k a b kt)
    | _, _ => (match unkP x, unkP y with
      | .d (.int k a), .d (.int k' b) => needS c (kindEq k k') (intX c false op k a b kt)
      | .d (.str a), .d (.str b) => strX c op a b kt
      | x, y => match op with
        | .eql => eqX Γ c T x y fun kn b => kt (.d (mkB kn b))
        | .neq => eqX Γ c T x y fun kn b => kt (.d (mkB kn (!b)))
        | _ => (Bad 534))

def unX (op : UnOp) (x : PV) (kt : PV → Prop) : Prop :=
  match op with
  | .not => (match x.bv with
    | .sym b => kt (.d (.bool (!b)))
    | .known b => kt (.d (.kb (!b)))
    | .no => (Bad 541))
  | .neg => (match unkP x with
    | .d (.int k n) => kt (.d (.int k (k.wrap (0 - n))))
    | _ => (Bad 544))
  | _ => (Bad 545)

def bytesEls (s : List UInt8) : List (List DV) := s.map fun b => [.int .u8 b.toNat]
def isByteEl : List DV → Bool
  | [.int .u8 n] => decide (0 ≤ n) && decide (n < 256)
  | _ => false
def byteOf : List DV → UInt8
  | [.int _ n] => UInt8.ofNat n.toNat
  | _ => 0

def convX (h : List AB) (src dst : Nat) (x : PV) (kt : PV → List AB → Prop) : Prop :=
  tinfo Γ src fun s => tinfo Γ dst fun t => match t.kind, unkP x with
    | .int k, .d (.int _ n) => kt (.d (.int k (k.wrap n))) h
    | .str, .d (.str s) => kt (.d (.str s)) h
    | .slice e, .d (.str s) => tinfo Γ e fun u => (match u.kind with | .int .u8 => need c (decide (s.length ≤ mostBytes)) (kt (.d (.sl 1 (bytesEls s))) h) | _ => (Bad 559))
    | .str, x => (match s.kind with
      | .slice e => tinfo Γ e fun u => (match u.kind with | .int .u8 => elems c h x fun sz es => need c (es.all isByteEl) (kt (.d (.str (es.map byteOf))) h) | _ => (Bad 561))
      | _ => (Bad 562))
    | _, _ => (Bad 563)

def bound (o : Option PV) (dflt : Int) (k : Int → Prop) : Prop :=
  match o with
  | none => k dflt
  | some v => (match unkP v with
    | .d (.int _ n) => k n
    | _ => (Bad 570))
def withOO (slots : List (Option PV)) (o : Option Operand) (k : Option PV → Prop) : Prop := match o with | none => k none | some x => withO Γ slots x fun v => k (some v)

def sliceX (h : List AB) (T : Nat) (x : PV) (lo hi : Option PV) (kt : PV → List AB → Prop) : Prop :=
  tinfo Γ T fun i => bound lo 0 fun l => match i.kind, x with
    | .str, .d (.str s) => bound hi s.length fun r => need c (decide (0 ≤ l) && decide (l ≤ r) && decide (r ≤ s.length)) (kt (.d (.str ((s.take r.toNat).drop l.toNat))) h)
    | .slice e, .d .nil => tinfo Γ e fun u => bound hi 0 fun r => need c (l == 0 && r == 0) (kt (.d .nil) h)
    | .slice e, x => tinfo Γ e fun u => frz c h x fun v h => (match v with
      | .sl sz es => bound hi es.length fun r => needS c (sz == u.size) (need c (decide (0 ≤ l) && decide (l ≤ r) && decide (r ≤ es.length)) (kt (.d (.sl sz ((es.take r.toNat).drop l.toNat))) h))
      | _ => (Bad 579))
    | _, _ => (Bad 580)

def fits (n bytes : Nat) : Bool := Nat.ble (n * bytes) mostBytes

/-- the elements that are appended: of a slice, or a text's bytes -/
def newEls (h : List AB) (x : PV) (k : List (List DV) → Prop) : Prop :=
  match x with
  | .d (.str s) => (Bad 587)
  | x => elems c h x fun _ es => k es

def appendX (h : List AB) (T : Nat) (s x : PV) (kt : PV → List AB → Prop) : Prop :=
  tinfo Γ T fun i => match i.kind with
    | .slice e => tinfo Γ e fun u => newEls c h x fun new => needS c (Nat.blt 0 u.size && Nat.blt 0 u.bytes) (match s with
      | .d .nil => need c (fits new.length u.bytes && new.all (fun e => e.length == u.size)) (frows c new fun new => lenK c h 0 fun n => lenC c new fun m => snoc h (.row e u.size new) fun h' => kt (.row n m) h')
      | .row b n => (match nth h b with
        | some (.row U sz xs) => needS c (U == e && sz == u.size) (need c (xs.length == n && fits (xs.length + new.length) u.bytes && new.all (fun e => e.length == u.size))
            (frows c (xs ++ new) fun xs' => lenC c xs' fun m => upd h b (.row U sz xs') fun h' => kt (.row b m) h'))
        | _ => (Bad 597))
      | _ => (Bad 598))
    | _ => (Bad 599)

/-- a struct's cells, some of them written -/
def fillX (fs : List (Nat × Nat)) : List (Nat × PV) → List PV → (List PV → Prop) → Prop
  | [], cs, k => k cs
  | (f, v) :: r, cs, k => match nth fs f with
    | some (off, U) => tinfo Γ U fun u => needS c (v.cells.length == u.size && oneB v.cells && Nat.ble (off + u.size) cs.length) (fcells c (splice cs off v.cells) fun cs => fillX fs r cs k)
    | none => (Bad 606)
def withParts (slots : List (Option PV)) : List (Nat × Operand) → (List (Nat × PV) → Prop) → Prop
  | [], k => k []
  | (i, x) :: r, k => withO Γ slots x fun v => withParts slots r fun vs => k ((i, v) :: vs)
def inOrder : Nat → List (Nat × PV) → Bool
  | _, [] => true
  | n, (i, _) :: r => Nat.beq i n && inOrder (n + 1) r
def elsX (h : List AB) (sz : Nat) : List (Nat × PV) → (List (List DV) → List AB → Prop) → Prop
  | [], k => k [] h
  | (_, v) :: r, k => needS c (v.cells.length == sz) (frzs c h v.cells fun e h => elsX h sz r fun es h => k (e :: es) h)

def pureX (slots : List (Option PV)) (heap : List AB) (op : Op) (kt : PV → List AB → Prop) : Prop :=
  match op with
  | .move x | .assign x => withO Γ slots x fun v => kt v heap
  | .pick a x y => withO Γ slots a fun b => (match b.bv with
    | .sym b => splitB c b fun b => (match b with | true => withO Γ slots x fun v => kt v heap | false => withO Γ slots y fun v => kt v heap)
    | .known b => (match b with | true => withO Γ slots x fun v => kt v heap | false => withO Γ slots y fun v => kt v heap)
    | .no => (Bad 623))
  | .alloc T => tinfo Γ T fun i => fcells c (i.zero.map .d) fun cs => lenK c heap 0 fun n => snoc heap (.box T cs) fun h => kt (.box n 0) h
  | .box T x => withO Γ slots x fun v => tinfo Γ T fun i => needS c (v.cells.length == i.size && oneB v.cells) (fcells c v.cells fun cs => lenK c heap 0 fun n => snoc heap (.box T cs) fun h => kt (.box n 0) h)
  | .build T ps => tinfo Γ T fun i => (match i.kind with
    | .struct fs => needS c (fs.all fun f => (assoc Γ.tt f.2).isSome) <| withParts Γ slots ps.toList fun vs => fillX Γ c fs vs (i.zero.map .d) fun cs => kt (.agg cs) heap
    | _ => (Bad 628))
  | .buildSlice T n ps => tinfo Γ T fun i => (match i.kind with
    | .slice e => tinfo Γ e fun u => withParts Γ slots ps.toList fun vs => needS c (inOrder 0 vs && vs.length == n && Nat.blt 0 u.size && Nat.ble (n * u.size) 16777216)
        (elsX c heap u.size vs fun es h => frows c es fun es => lenK c h 0 fun m => snoc h (.row e u.size es) fun h' => kt (.row m n) h')
    | _ => (Bad 632))
  | .load T a => withO Γ slots a fun a => loadX Γ c heap T a fun v => kt v heap
  | .store T a v => withO Γ slots a fun a => withO Γ slots v fun v => storeX Γ c heap T a v fun h => kt .undef h
  | .fieldAddr T a f => withO Γ slots a fun a => fieldAddrX Γ c T a f fun v => kt v heap
  | .field T a f => withO Γ slots a fun a => fieldX Γ c T a f fun v => kt v heap
  | .indexAddr T x j => withO Γ slots x fun x => withO Γ slots j fun j => indexAddrX Γ c heap T x j fun v => kt v heap
  | .index T x j => withO Γ slots x fun x => withO Γ slots j fun j => indexX Γ c T x j fun v => kt v heap
  | .binOp op T x y U => withO Γ slots x fun x => withO Γ slots y fun y => binX Γ c op T x y fun v => kt v heap
  | .unOp op T x => withO Γ slots x fun x => unX op x fun v => kt v heap
  | .convert s t x => withO Γ slots x fun x => convX Γ c heap s t x kt
  | .slice T x lo hi none => withO Γ slots x fun x => withOO Γ slots lo fun lo => withOO Γ slots hi fun hi => sliceX Γ c heap T x lo hi kt
  | .makeSlice T n m => withO Γ slots n fun n => withO Γ slots m fun m => (match unkP n, unkP m with
    | .d (.int .i64 n), .d (.int .i64 m) => tinfo Γ T fun i => (match i.kind with
      | .slice e => tinfo Γ e fun u => needS c (Nat.blt 0 u.size && Nat.blt 0 u.bytes) <| need c (n == m && decide (0 ≤ n) && fits n.toNat u.bytes)
          (frows c (List.replicate n.toNat (u.zero.map unkD)) fun es => lenK c heap 0 fun b => snoc heap (.row e u.size es) fun h => kt (.row b n.toNat) h)
      | _ => (Bad 647))
    | _, _ => (Bad 648))
  | .makeFunc (.func f) first caps => needS c (first.size == 0) (withOs Γ slots caps.toList fun vs => match vs with | [] => kt (.d (.fn f)) heap | vs => kt (.clo f vs) heap)
  | .makeInterface T x => tinfo Γ T fun i => match i.kind with
    | .iface => (Bad 651)
    | _ => withO Γ slots x fun v => kt (.ifc T v) heap
  | .extract x j => withO Γ slots x fun v => (match v with
    | .tup vs => (match nth vs j with | some v => kt v heap | none => (Bad 654))
    | _ => (Bad 655))
  | .nilCheck x => withO Γ slots x fun v => (match v with
    | .box _ _ | .elem _ | .rowel _ _ _ _ | .clo _ _ | .d (.fn _) => kt v heap
    | _ => (Bad 658))
  | _ => (Bad 659)

def lenX (h : List AB) (T : Nat) (x : PV) (kt : PV → Prop) : Prop :=
  tinfo Γ T fun i => match i.kind, x with
    | .str, .d (.str s) => kt (.d (.int .i64 s.length))
    | .slice _, x => elems c h x fun _ es => kt (.d (.int .i64 es.length))
    | _, _ => (Bad 665)

def maxX : Int → List PV → (Int → Prop) → Prop
  | m, [], k => k m
  | m, x :: r, k => (match unkP x with
    | .d (.int .i64 n) => maxX (if n > m then n else m) r k
    | _ => (Bad 671))

def builtinX (h : List AB) (b : Builtin) (ts : List Nat) (args : List PV) (kt : PV → List AB → Prop) : Prop :=
  match b, ts, args with
  | .len, t :: _, [x] => lenX Γ c h t x fun v => kt v h
  | .append, [t, t'], [s, x] => needS c (Nat.beq t t') (appendX Γ c h t s x kt)
  | .max, _, x :: r => (match unkP x with
    | .d (.int .i64 n) => maxX n r fun m => kt (.d (.int .i64 m)) h
    | _ => (Bad 679))
  | _, _, _ => (Bad 680)

def resultsX (h : List AB) (slots : List (Option PV)) : List ResultVar → (List PV → Prop) → Prop
  | [], k => k []
  | .tmp t :: r, k => (match nth slots t with | some (some v) => resultsX h slots r fun vs => k (v :: vs) | _ => (Bad 684))
  | .cell a T :: r, k => (match nth slots a with | some (some a) => loadX Γ c h T a fun v => resultsX h slots r fun vs => k (v :: vs) | _ => (Bad 685))
def oneOrTup (vs : List PV) (k : PV → Prop) : Prop := match vs with | [v] => k v | vs => k (.tup vs)

mutual
/-- no row is left open in it -/
def shutV : PV → List AB → (PV → List AB → Prop) → Prop
  | .row i n, h, k => frz c h (.row i n) fun x h => k (.d x) h
  | .agg cs, h, k => shutL cs h fun cs h => k (.agg cs) h
  | .tup cs, h, k => shutL cs h fun cs h => k (.tup cs) h
  | .d x, h, k => k (.d x) h
  | .undef, h, k => k .undef h
  | .box i o, h, k => k (.box i o) h
  | .elem cs, h, k => k (.elem cs) h
  | .rowel i n j o, h, k => k (.rowel i n j o) h
  | .clo f cs, h, k => k (.clo f cs) h
  | .ifc t v, h, k => shutV v h fun v h => k (.ifc t v) h
def shutL : List PV → List AB → (List PV → List AB → Prop) → Prop
  | [], h, k => k [] h
  | v :: r, h, k => shutV v h fun v h => shutL r h fun r h => k (v :: r) h
end
/-- rows among a struct's cells are frozen -/
def settleL : List PV → List AB → (List PV → List AB → Prop) → Prop
  | [], h, k => k [] h
  | .agg cs :: r, h, k => shutV c (.agg cs) h fun v h => settleL r h fun r h => k (v :: r) h
  | v :: r, h, k => settleL r h fun r h => k (v :: r) h
def settle (h : List AB) (v : PV) (k : PV → List AB → Prop) : Prop :=
  match v with
  | .agg cs => shutV c (.agg cs) h k
  | .tup cs => settleL c cs h fun cs h => k (.tup cs) h
  | v => k v h
/-- what a call made falls away where nothing speaks of it -/
def trim (n : Nat) (r : PV) (h : List AB) (k : PV → List AB → Prop) : Prop :=
  takeK n h fun old => match r.under n && abelow n old with
  | true => k r old
  | false => k r h

def entry (F : Func) (args : List PV) : List (Option PV) := args.map some ++ List.replicate (F.ntmps - args.length) (some .undef)

/-- a guard: the operation's own answer is known from here on -/
def guardX (ops : List Oper) (slots : List (Option PV)) (g : Option (Nat × Bool)) (yes no : List (Option PV) → Prop) : Prop :=
  match g with
  | none => yes slots
  | some (j, want) => match nth ops j with
    | some o => (match o.dst with
      | some d => (match nth slots d with
        | some (some v) => (match v.bv with
          | .sym b => splitB c b fun b => upd slots d (some (.d (.kb b))) fun s => (match b == want with | true => yes s | false => no s)
          | .known b => (match b == want with | true => yes slots | false => no slots)
          | .no => (match v with
            | .undef => no slots
            | _ => (Bad 735)))
        | _ => (Bad 736))
      | none => (Bad 737))
    | none => (Bad 738)

def putX (slots : List (Option PV)) (dst : Option Nat) (v : PV) (k : List (Option PV) → Prop) : Prop :=
  match dst with
  | some d => needS c (Nat.blt d slots.length) (fpv c v fun v => upd slots d (some v) k)
  | none => k slots

/-- what a call of a function comes to: 'call' tells it; and one that is handed data and makes data, by itself -/
abbrev CallF := Nat → List PV → List AB → (PV → List AB → Prop) → (PV → List AB → Prop) → Prop
abbrev PureF := Nat → List PV → (PV → Prop) → Prop

def callX (call : CallF) (pcall : PureF) (f : Nat) (vs : List PV) (heap : List AB) (kt kp : PV → List AB → Prop) : Prop :=
  match opens vs && !(Γ.whole.contains f) with
  | true => shutL c vs heap fun vs heap => needS c (belows 0 vs) (pcall f vs fun v => kt v heap)
  | false => call f vs heap kt kp

def opV (call : CallF) (pcall : PureF) (slots : List (Option PV)) (heap : List AB) (o : Oper) (kt kp : PV → List AB → Prop) : Prop :=
  match o.op with
  | .call cl => withOs Γ slots cl.args.toList fun vs => (match cl.callee with
    | .builtin b => builtinX Γ c heap b cl.argTypes.toList vs kt
    | .value f => withO Γ slots f fun fv => (match fv with
      | .d (.fn f) => callX Γ c call pcall f vs heap kt kp
      | .clo f caps => spine (vs ++ caps) fun vs => callX Γ c call pcall f vs heap kt kp
      | _ => (Bad 761))
    | .invoke _ _ => (Bad 762))
  | op => pureX Γ c slots heap op kt

def opsX (call : CallF) (pcall : PureF) (all : List Oper) : List Oper → List (Option PV) → List AB → (AExit → St → Prop) → Prop
  | [], slots, heap, k => k .normal ⟨slots, heap⟩
  | o :: r, slots, heap, k => guardX c all slots o.guard
      (fun slots => opV Γ c call pcall slots heap o (fun v h => putX c slots o.dst v fun s => opsX call pcall all r s h k) (fun v h => k (.panic v) ⟨slots, h⟩))
      (fun slots => putX c slots o.dst .undef fun slots => opsX call pcall all r slots heap k)

/-! ### a region whose order is drawn: first what neither asks nor turns memory, in any order; then the rest, one after the other -/
def depB (o : Oper) (j : Nat) : Bool := o.after.any fun e => Region.binds .any e && Nat.beq e.on j
/-- operation number i sees of the others' results only what it waits for -/
def maskX {β : Sort _} (o : Oper) (i : Nat) : Nat → List Oper → List (Option PV) → (List (Option PV) → β) → β
  | _, [], slots, k => k slots
  | j, p :: r, slots, k => match p.dst with
    | none => maskX o i (j + 1) r slots k
    | some d => match Nat.blt j i && depB o j with
      | true => maskX o i (j + 1) r slots k
      | false => upd slots d none fun slots => maskX o i (j + 1) r slots k
/-- these may be done at any time -/
def stillB (o : Oper) : Bool :=
  match o.op with
  | .move _ | .assign _ | .pick _ _ _ | .load _ _ | .fieldAddr _ _ _ | .field _ _ _ | .indexAddr _ _ _ | .index _ _ _ | .binOp _ _ _ _ _ | .unOp _ _ _ | .convert _ _ _ | .makeFunc _ _ _ | .makeInterface _ _ | .extract _ _ | .nilCheck _ => true
  | .call cl => (match cl.callee with
    | .builtin .len => true
    | .value (.func f) => !(Γ.whole.contains f)
    | .value _ => true
    | _ => false)
  | .slice _ _ _ _ none => true
  | _ => false
/-- rows that are frozen already, as data -/
def thawL (h : List AB) : List PV → (List PV → Prop) → Prop
  | [], k => k []
  | .row i n :: r, k => (match nth h i with
    | some (.froz _ sz xs) => need c (xs.length == n) (thawL h r fun r => k (.d (.sl sz xs) :: r))
    | _ => (Bad 797))
  | v :: r, k => need c (v.under 0) (thawL h r fun r => k (v :: r))
def stillV (pcall : PureF) (slots : List (Option PV)) (heap : List AB) (o : Oper) (kt : PV → Prop) : Prop :=
  match o.op with
  | .slice T x lo hi none => withO Γ slots x fun x => withOO Γ slots lo fun lo => withOO Γ slots hi fun hi => thawL c heap [x] fun xs => (match xs with
    | [.d x] => sliceX Γ c heap T (.d x) lo hi fun v _ => kt v
    | _ => (Bad 803))
  | .call cl => withOs Γ slots cl.args.toList fun vs => (match cl.callee with
    | .builtin .len => (match cl.argTypes.toList, vs with
      | [t], [x] => lenX Γ c heap t x kt
      | _, _ => (Bad 807))
    | .value f => withO Γ slots f fun fv => (match fv with
      | .d (.fn f) => thawL c heap vs fun vs => pcall f vs kt
      | .clo f caps => thawL c heap (vs ++ caps) fun vs => pcall f vs kt
      | _ => (Bad 811))
    | _ => (Bad 812))
  | op => pureX Γ c slots heap op fun v _ => kt v
def headX (pcall : PureF) (all heads : List Oper) : Nat → List Oper → List (Option PV) → List AB → (List (Option PV) → Prop) → Prop
  | _, [], slots, heap, k => k slots
  | i, o :: r, slots, heap, k => maskX o i 0 heads slots fun ms => guardX c all ms o.guard
      (fun ms => stillV Γ c pcall ms heap o fun v => putX c slots o.dst v fun slots => headX pcall all heads (i + 1) r slots heap k)
      (fun _ => putX c slots o.dst .undef fun slots => headX pcall all heads (i + 1) r slots heap k)
def nodupB : List (Option Nat) → Bool
  | [] => true
  | none :: r => nodupB r
  | some d :: r => !(r.any fun x => match x with | some e => Nat.beq d e | none => false) && nodupB r
def backB : Nat → List Oper → Bool
  | _, [] => true
  | i, o :: r => (o.after.all fun e => !(Region.binds .any e) || Nat.blt e.on i) && backB (i + 1) r
def seqMask (n m : Nat) : Array Bool := (Array.replicate n true) ++ Array.replicate m false
def orderB (ops : Array Oper) (heads tail : List Oper) : Bool :=
  nodupB (heads.map (·.dst)) && backB 0 heads && Region.noSelect ops && (tail.isEmpty || (Region.sinkB .any ops heads.length && Region.chainB .any ops heads.length)) &&
    Region.seqB .any ops tail.length heads.length (seqMask heads.length tail.length)
def drawX (call : CallF) (pcall : PureF) (ops : Array Oper) (slots : List (Option PV)) (heap : List AB) (k : AExit → St → Prop) : Prop :=
  needS c (orderB ops (ops.toList.takeWhile (stillB Γ)) (ops.toList.dropWhile (stillB Γ)))
    (headX Γ c pcall ops.toList (ops.toList.takeWhile (stillB Γ)) 0 (ops.toList.takeWhile (stillB Γ)) slots heap fun slots => opsX Γ c call pcall ops.toList (ops.toList.dropWhile (stillB Γ)) slots heap k)

/-- in the one mode loops and calls are carried out (as deep as is said), in the other they are left to 'code', 'call' and 'pcall' -/
structure Leaves where
  code : Code → (AExit → St → Prop) → St → Prop
  call : CallF
  pcall : PureF

/-- how a piece of code is told; of one in a scope, or in a loop: the whole body of that -/
inductive Around where
  | plain | scope (b : Code) | loop (b : Code)
abbrev CodeF := Around → Code → St → (AExit → St → Prop) → Prop

/-- a call, carried out -/
def enterX (rec : CodeF) : CallF := fun f args h kr kp =>
  match nth Γ.fns f with
  | some F => (match F.body with
    | some b => lenK c h 0 fun n0 => spine (entry F args) fun s => rec .plain b ⟨s, h⟩ fun x st => (match st with
      | ⟨s, h⟩ => (match x with
        | .normal | .ret => resultsX Γ c h s F.results.toList fun vs => oneOrTup vs fun r => settle c h r fun r h => trim n0 r h kr
        | .panic v => kp v h
        | _ => (Bad 853)))
    | none => (Bad 854))
  | none => (Bad 855)
/-- one that is handed data, and makes data -/
def enterP (rec : CodeF) : PureF := fun f args k => enterX Γ c rec f args [] (fun v h => shutV c v h fun v _ => need c (v.under 0) (k v)) (fun _ _ => (Bad 857))

def codeStep (L : Leaves) (rec : CodeF) : CodeF := fun sc cd st k =>
  match sc with
  | .scope b => rec .plain cd st fun x st => (match x with
    | .goto l => (match findLabel b l with | some rest => rec (.scope b) rest st k | none => k (.goto l) st)
    | x => k x st)
  | .loop b => rec .plain cd st fun x st => (match x with | .normal => rec (.loop b) b st k | x => k x st)
  | .plain => match cd with
    | .skip | .label _ => k .normal st
    | .seq a b => rec .plain a st fun x st => (match x with | .normal => rec .plain b st k | x => k x st)
    | .cond b x y => withO Γ st.slots b fun v => (match v.bv with
      | .sym b => splitB c b fun b => (match b with | true => rec .plain x st k | false => rec .plain y st k)
      | .known b => (match b with | true => rec .plain x st k | false => rec .plain y st k)
      | .no => (Bad 871))
    | .block id b => rec .plain b st fun x st => (match x with
      | .exit i => (match Nat.beq i id with | true => k .normal st | false => k (.exit i) st)
      | x => k x st)
    | .exit id => k (.exit id) st
    | .ret => k .ret st
    | .goto l => k (.goto l) st
    | .scope b => rec (.scope b) b st k
    | .region id ops dr => (match st with
      | ⟨s, h⟩ => (match dr with
        | false => opsX Γ c (match c with | false => L.call | true => enterX Γ c rec) (match c with | false => L.pcall | true => enterP Γ c rec) ops.toList ops.toList s h k
        | true => drawX Γ c (match c with | false => L.call | true => enterX Γ c rec) (match c with | false => L.pcall | true => enterP Γ c rec) ops s h k))
    | .loop b => (match c with
      | false => L.code (.loop b) k st
      | true => rec (.loop b) b st k)
    | cd => L.code cd k st

def codeX (L : Leaves) (n : Nat) : CodeF := Nat.rec (motive := fun _ => CodeF) (fun m cd st k => match m with | .plain => L.code cd k st | _ => (Bad 888)) (fun _ ih => codeStep Γ c L ih) n

/-- a call, carried out -/
def runX (n : Nat) (L : Leaves) : CallF := enterX Γ c (codeX Γ c L n)
end
/-- nothing is left to anybody -/
def noLeaves : Leaves := ⟨fun _ _ _ => Bad 1, fun f _ _ _ _ => Bad (1000 + f), fun f _ _ => Bad (1000 + f)⟩
def isTrue (p : PV) : Bool := match p.bv with
  | .sym b => b
  | .known b => b
  | .no => false
end Go.Proofs.Ytepgblhhajdmoaa.Eng
