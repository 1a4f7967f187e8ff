/- An evaluator of my own over the model's code: data, memory, operations. Computable Lean functions only. -/
import Derived.Calls
import Derived.Orders
import Derived.Scope
namespace Go.Ab
noncomputable section
set_option linter.unusedVariables false

/-- what an element or a variable is made of: one value of several cells, or one cell. -/
structure EK where
  agg : Bool
  sz : Nat
  deriving DecidableEq

/-- what a static type tells of a value. -/
inductive TK where
  | int (k : IntKind)
  | bool
  | str
  | agg (sz : Nat)
  | other
  deriving DecidableEq

/-- pure data: no part of it can be written. -/
inductive D where
  | bool (b : Bool)
  | int (k : IntKind) (n : Int)
  | str (s : List UInt8)
  | nilp | nils | nilm | nilf | nili
  | is (k : IntKind) (l : List Int) (cap : Option Nat)
  | sl (ek : EK) (es : List D) (cap : Option Nat)
  | iface (t : TypeId) (v : D)
  | agg (cs : List D)
  | fn (f : FuncId)
  deriving Inhabited

/-- values with references to memory by names. -/
inductive V where
  | d (x : D)
  | ptr (n i off : Nat)
  | cp (ek : EK) (e : D) (off : Nat)
  | own (n : Nat)
  | osl (n lo len : Nat) (cap : Option Nat)
  | view (n off len : Nat)
  | fnc (f : FuncId) (first captured : List V)
  | agg (cs : List V)
  | tup (vs : List V)
  | iface (t : TypeId) (v : V)
  | mp (n : Nat)
  | it (n : Nat)
  | und
  deriving Inhabited

inductive Row where
  | is (k : IntKind) (l : List Int)
  | ds (l : List D)
  | vs (l : List V)
  deriving Inhabited

inductive Blk where
  | var (ek : EK) (v : V)
  | arr (ek : EK) (r : Row) (cap : Option Nat) (frz : Bool)
  | map (es : List (Nat × D × V)) (clock : Nat)
  | iter (m : Option Nat) (since : Nat) (seen : List Nat) (last : Nat)

structure Ent where
  n : Nat
  b : Blk
  ro : Bool
  hid : Bool

structure Mem where
  next : Nat
  l : List Ent

def getEnt (l : List Ent) (n : Nat) : Option Ent :=
  List.rec none (fun h _ ih => Bool.rec ih (some h) (Nat.beq h.n n)) l

theorem getEnt_nil (n : Nat) : getEnt [] n = none := rfl
theorem getEnt_cons (e : Ent) (r : List Ent) (n : Nat) : getEnt (e :: r) n = bif Nat.beq e.n n then some e else getEnt r n := by
  show (@Bool.rec (fun _ => Option Ent) (getEnt r n) (some e) (Nat.beq e.n n)) = _
  cases Nat.beq e.n n <;> rfl

def setEnt : List Ent → Nat → (Ent → Ent) → List Ent
  | [], _, _ => []
  | e :: r, n, f => bif Nat.beq e.n n then f e :: r else e :: setEnt r n f

def delEnt : List Ent → Nat → List Ent
  | [], _ => []
  | e :: r, n => bif Nat.beq e.n n then delEnt r n else e :: delEnt r n

def Mem.get (m : Mem) (n : Nat) : Option Blk :=
  match getEnt m.l n with
  | some ⟨_, b, _, false⟩ => some b
  | _ => none

/-- the block, if it may be written. -/
def Mem.getW (m : Mem) (n : Nat) : Option Blk :=
  match getEnt m.l n with
  | some ⟨_, b, false, false⟩ => some b
  | _ => none

def Mem.set (m : Mem) (n : Nat) (b : Blk) : Mem := ⟨m.next, setEnt m.l n fun e => ⟨e.n, b, e.ro, e.hid⟩⟩
def Mem.del (m : Mem) (n : Nat) : Mem := ⟨m.next, delEnt m.l n⟩
def Mem.alloc (m : Mem) (b : Blk) : Mem := ⟨Nat.succ m.next, ⟨m.next, b, false, false⟩ :: m.l⟩

/-- a frame: its slots and their values. -/
abbrev Frame := List (Nat × V)

def Frame.get (fr : Frame) (n : Nat) : Option V :=
  List.rec none (fun h _ ih => Bool.rec ih (some h.2) (Nat.beq h.1 n)) fr

theorem Frame.get_nil (n : Nat) : Frame.get [] n = none := rfl
theorem Frame.get_cons (i : Nat) (v : V) (r : Frame) (n : Nat) : Frame.get ((i, v) :: r) n = bif Nat.beq i n then some v else Frame.get r n := by
  show (@Bool.rec (fun _ => Option V) (Frame.get r n) (some v) (Nat.beq i n)) = _
  cases Nat.beq i n <;> rfl

def Frame.set (fr : Frame) (n : Nat) (v : V) : Frame := (n, v) :: fr

def Frame.put (fr : Frame) (d : Option Nat) (v : V) : Frame :=
  match d with
  | some n => fr.set n v
  | none => fr

/-! ### constants and types -/

def D.ofCell : Value → Option D
  | .bool b => some (.bool b)
  | .int k n => some (.int k n)
  | .string s => some (.str s.data.toList)
  | .pointer none => some .nilp
  | .slice none 0 0 => some .nils
  | .map none => some .nilm
  | .nilFunc => some .nilf
  | .nilIface => some .nili
  | _ => none

def D.ofCells : List Value → Option (List D)
  | [] => some []
  | v :: r => match D.ofCell v with
    | some x => match D.ofCells r with
      | some xs => some (x :: xs)
      | none => none
    | none => none

def D.ofValue : Value → Option D
  | .agg cs => match D.ofCells cs.toList with
    | some l => some (.agg l)
    | none => none
  | v => D.ofCell v

def tkD (td : TypeDesc) (n : Nat) : Option TK :=
  match td with
  | .bool => some .bool
  | .int k => some (.int k)
  | .string => some .str
  | .struct _ => some (.agg n)
  | .array _ _ => some (.agg n)
  | .float _ => none
  | .complex _ => none
  | .invalid => none
  | .tuple _ => none
  | _ => some .other

def TK.size : TK → Nat
  | .agg sz => sz
  | _ => 1

def tkOf (P : Program) (t : TypeId) : Option TK :=
  match P.underlying t with
  | some td => match tkD td (P.cellsOf t) with
    | some tk => bif Nat.beq tk.size (P.cellsOf t) then some tk else none
    | none => none
  | none => none

def TK.ek : TK → EK
  | .agg sz => ⟨true, sz⟩
  | _ => ⟨false, 1⟩

def zeroD (P : Program) (t : TypeId) : Option D := ((P.info? t).bind (·.zero)).bind D.ofValue

/-! ### cells -/

def D.cells : D → List D
  | .agg cs => cs
  | x => [x]

def D.nc : D → Nat
  | .agg cs => cs.length
  | _ => 1

def V.cells : V → List V
  | .d x => x.cells.map .d
  | .agg cs => cs
  | v => [v]

def V.nc : V → Nat
  | .d x => x.nc
  | .agg cs => cs.length
  | _ => 1

def D.isAgg : D → Bool
  | .agg _ => true
  | _ => false

def V.isAgg : V → Bool
  | .agg _ => true
  | .d x => x.isAgg
  | _ => false

/-- is it a value of a kind? -/
def D.fits (tk : TK) : D → Bool
  | .agg cs => match tk with
    | .agg sz => Nat.beq cs.length sz
    | _ => false
  | _ => match tk with
    | .agg _ => false
    | _ => true

/-- is it a value of a kind, that a variable can hold? -/
def V.fits (tk : TK) : V → Bool
  | .d x => x.fits tk
  | .agg cs => match tk with
    | .agg sz => Nat.beq cs.length sz
    | _ => false
  | .tup _ => false
  | .und => false
  | _ => match tk with
    | .agg _ => false
    | _ => true

def V.allD : List V → Option (List D)
  | [] => some []
  | .d x :: r => match V.allD r with
    | some xs => some (x :: xs)
    | none => none
  | _ :: _ => none

/-- a struct of cells: pure data if all of them are. -/
def mkAgg (cs : List V) : V :=
  match V.allD cs with
  | some l => .d (.agg l)
  | none => .agg cs

def D.cell (x : D) (off : Nat) : Option D :=
  match x with
  | .agg cs => cs[off]?
  | y => bif Nat.beq off 0 then some y else none

def D.cellInt (ik : IntKind) (x : D) (off : Nat) : Option Int :=
  match x.cell off with
  | some (.int k n) => if k = ik then some n else none
  | _ => none

def D.cellBool (x : D) (off : Nat) : Option Bool :=
  match x.cell off with
  | some (.bool b) => some b
  | _ => none

def D.cellStr (x : D) (off : Nat) : Option (List UInt8) :=
  match x.cell off with
  | some (.str s) => some s
  | _ => none

def D.sub (x : D) (off n : Nat) : Option (List D) :=
  match x with
  | .agg cs => if off + n ≤ cs.length then some ((cs.drop off).take n) else none
  | _ => none

def setMany {α : Type} : List α → Nat → List α → List α
  | l, _, [] => l
  | l, i, y :: ys => setMany (l.set i y) (i + 1) ys

def one1 {α : Type} (l : List α) (d : α) : α :=
  match l with
  | [z] => z
  | _ => d

def D.setCells (x : D) (off : Nat) (ys : List D) : D :=
  match x with
  | .agg cs => .agg (setMany cs off ys)
  | y => one1 ys y

variable {R : Type}

def loadD (tk : TK) (whole : Bool) (x : D) (off : Nat) (k : V → Option R) : Option R :=
  match tk with
  | .int ik => (x.cellInt ik off).bind fun n => k (.d (.int ik n))
  | .bool => (x.cellBool off).bind fun b => k (.d (.bool b))
  | .str => (x.cellStr off).bind fun s => k (.d (.str s))
  | .agg sz => match whole with
    | true => k (.d x)
    | false => (x.sub off sz).bind fun cs => k (.d (.agg cs))
  | .other => (x.cell off).bind fun y => k (.d y)

def isOther : TK → Bool
  | .other => true
  | _ => false

def loadV (tk : TK) (whole : Bool) (v : V) (off : Nat) (k : V → Option R) : Option R :=
  match v with
  | .d x => loadD tk whole x off k
  | .agg cs => match tk with
    | .agg sz => match whole with
      | true => k (.agg cs)
      | false => if off + sz ≤ cs.length then k (mkAgg ((cs.drop off).take sz)) else none
    | _ => match cs[off]? with
      | some (.d x) => loadD tk false x 0 k
      | some y => bif isOther tk then k y else none
      | none => none
  | y => bif isOther tk && Nat.beq off 0 then k y else none

def setV (c : V) (off : Nat) (v : V) : V :=
  match c, v with
  | .d x, .d y => .d (x.setCells off y.cells)
  | c, v => match c with
    | .agg cs => mkAgg (setMany cs off v.cells)
    | .d (.agg cs) => mkAgg (setMany (cs.map .d) off v.cells)
    | c => one1 v.cells c

/-! ### slices -/

def D.ints (ik : IntKind) : D → Option (List Int)
  | .is k l _ => if k = ik then some l else none
  | .nils => some []
  | _ => none

def D.elems (ek : EK) : D → Option (List D)
  | .sl k l _ => if k = ek then some l else none
  | .nils => some []
  | _ => none

def natsOf (s : List UInt8) : List Int := s.map fun b => (b.toNat : Int)
def bytesOf (l : List Int) : List UInt8 := l.map fun n => UInt8.ofNat n.toNat

def Row.len : Row → Nat
  | .is _ l => l.length
  | .ds l => l.length
  | .vs l => l.length

def dsV (l : List D) : List V := l.map .d

def Row.app : Row → Row → Option Row
  | .is k l, .is k' l' => if k = k' then some (.is k (l ++ l')) else none
  | .ds l, .ds l' => some (.ds (l ++ l'))
  | .ds [], .vs l' => some (.vs l')
  | .ds l, .vs l' => some (.vs (dsV l ++ l'))
  | .vs l, .ds l' => some (.vs (l ++ dsV l'))
  | .vs l, .vs l' => some (.vs (l ++ l'))
  | _, _ => none

/-- a list of values as a row of elements of a kind. -/
def intsOf (ik : IntKind) : List V → Option (List Int)
  | [] => some []
  | .d (.int k n) :: r => if k = ik then match intsOf ik r with
      | some l => some (n :: l)
      | none => none
    else none
  | _ :: _ => none

def rowOf (tk : TK) (l : List V) : Option Row :=
  match tk with
  | .int ik => match intsOf ik l with
    | some l => some (.is ik l)
    | none => none
  | _ => match V.allD l with
    | some l => some (.ds l)
    | none => some (.vs l)

def cutN {α : Type} (l : List α) (lo len : Nat) : List α := (l.drop lo).take len

def Row.cut (r : Row) (lo len : Nat) : Row :=
  match r with
  | .is k l => .is k (cutN l lo len)
  | .ds l => .ds (cutN l lo len)
  | .vs l => .vs (cutN l lo len)

def EK.beq (a b : EK) : Bool := (match a.agg, b.agg with
  | true, true => true
  | false, false => true
  | _, _ => false) && Nat.beq a.sz b.sz

/-- the elements of a slice value whose elements have a kind. -/
def elemsC (tk : TK) (mem : Mem) (v : V) (k : Row → Option R) : Option R :=
  match v with
  | .own n => match mem.get n with
    | some (.arr ek r _ _) => bif EK.beq ek tk.ek then k r else none
    | _ => none
  | .osl n lo len _ => match mem.get n with
    | some (.arr ek r _ _) => bif EK.beq ek tk.ek then if lo + len ≤ r.len then k (r.cut lo len) else none else none
    | _ => none
  | .d x => match tk with
    | .int ik => (x.ints ik).bind fun l => k (.is ik l)
    | tk => (x.elems tk.ek).bind fun l => k (.ds l)
  | .view n off len => match mem.get n with
    | some (.var _ c) => match rowOf tk (cutN c.cells off len) with
      | some r => match tk with
        | .agg _ => none
        | _ => if off + len ≤ c.cells.length then k r else none
      | none => none
    | _ => none
  | _ => none

def lenV (mem : Mem) (tk : TK) (v : V) (k : V → Option R) : Option R :=
  match v with
  | .view _ _ len => k (.d (.int .i64 (len : Int)))
  | .osl _ _ len _ => k (.d (.int .i64 (len : Int)))
  | v => elemsC tk mem v fun r => k (.d (.int .i64 (r.len : Int)))

/-- 2^46 -/
def room : Nat := 70368744177664

def roomy (n bytes : Nat) : Bool := Nat.ble (n * bytes) room && Nat.blt 0 bytes

def D.isNils : D → Option Bool
  | .nils => some true
  | .is _ _ _ => some false
  | .sl _ _ _ => some false
  | _ => none

/-- a new row of elements. -/
def freshC (tk : TK) (bytes : Nat) (mem : Mem) (r s : Row) (k : V → Mem → Option R) : Option R :=
  match r.app s with
  | some r' => bif roomy r'.len bytes then k (.own mem.next) (mem.alloc (.arr tk.ek r' none false)) else none
  | none => none

/-- where the capacity is known and too small, or nothing is appended. -/
def capC (tk : TK) (bytes : Nat) (mem : Mem) (dst : V) (r s : Row) (cap : Option Nat) (k : V → Mem → Option R) : Option R :=
  if s.len = 0 then k dst mem else
  match cap with
  | some c => if c < r.len + s.len then freshC tk bytes mem r s k else none
  | none => none

/-- a row appended to a slice. -/
def appendR (tk : TK) (bytes : Nat) (mem : Mem) (dst : V) (s : Row) (k : V → Mem → Option R) : Option R :=
  match dst with
  | .own n => match mem.getW n with
    | some (.arr ek r cap frz) => bif EK.beq ek tk.ek then match r.app s with
      | some r' => bif roomy r'.len bytes then
          k (.own mem.next) ((mem.del n).alloc (.arr ek r' none frz))
        else none
      | none => none
      else none
    | _ => none
  | .osl n lo len (some c) => match mem.get n with
    | some (.arr ek r _ _) => bif EK.beq ek tk.ek then capC tk bytes mem dst (r.cut lo len) s (some c) k else none
    | _ => none
  | .osl n lo len none => if s.len = 0 then k dst mem else match mem.getW n with
    | some (.arr ek r cap frz) => bif EK.beq ek tk.ek then
      if lo + len + s.len ≤ r.len then
        match frz, ((r.cut 0 (lo + len)).app s).bind (fun x => x.app (r.cut (lo + len + s.len) (r.len - (lo + len + s.len)))) with
        | false, some r' => k (.osl n lo (len + s.len) none) (mem.set n (.arr ek r' cap false))
        | _, _ => none
      else if lo + len = r.len then
        match (r.cut lo len).app s with
        | some r' => bif roomy r'.len bytes then
            k (.own mem.next) ((mem.del n).alloc (.arr ek r' none frz))
          else none
        | none => none
      else none
      else none
    | _ => none
  | .d .nils => match tk with
    | .int ik => if s.len = 0 then k (.d .nils) mem else freshC tk bytes mem (.is ik []) s k
    | _ => if s.len = 0 then k (.d .nils) mem else freshC tk bytes mem (.ds []) s k
  | .d (.is ik l cap) => bif EK.beq ⟨false, 1⟩ tk.ek then capC tk bytes mem dst (.is ik l) s cap k else none
  | .d (.sl ek l cap) => bif EK.beq ek tk.ek then capC tk bytes mem dst (.ds l) s cap k else none
  | _ => none

def appendC (tk : TK) (bytes : Nat) (mem : Mem) (dst src : V) (k : V → Mem → Option R) : Option R :=
  elemsC tk mem src fun s => appendR tk bytes mem dst s k

def setRange {α : Type} (l : List α) (i : Nat) (s : List α) : List α := l.take i ++ s ++ l.drop (i + s.length)

/-- elements written into an owned row from an index on. -/
def putRowC (mem : Mem) (n i : Nat) (s : Row) (k : Mem → Option R) : Option R :=
  match mem.getW n with
  | some (.arr ek r cap false) => if i + s.len ≤ r.len then
      match ((r.cut 0 i).app s).bind (fun x => x.app (r.cut (i + s.len) (r.len - (i + s.len)))) with
      | some r' => k (mem.set n (.arr ek r' cap false))
      | none => none
    else none
  | _ => none

def copyR (tk : TK) (mem : Mem) (dst : V) (s : Row) (k : V → Mem → Option R) : Option R :=
  match dst with
  | .own n => match mem.get n with
    | some (.arr ek r _ _) => bif EK.beq ek tk.ek then putRowC mem n 0 (s.cut 0 (min s.len r.len)) fun m => k (.d (.int .i64 (min s.len r.len : Nat))) m else none
    | _ => none
  | .osl n lo len _ => match mem.get n with
    | some (.arr ek r _ _) => bif EK.beq ek tk.ek then putRowC mem n lo (s.cut 0 (min s.len len)) fun m => k (.d (.int .i64 (min s.len len : Nat))) m else none
    | _ => none
  | .d .nils => k (.d (.int .i64 0)) mem
  | _ => none

def copyC (tk : TK) (mem : Mem) (dst src : V) (k : V → Mem → Option R) : Option R :=
  elemsC tk mem src fun s => copyR tk mem dst s k

/-! ### freezing: values as pure data -/

def expList (f : V → Mem → Option (D × Mem)) : List V → Mem → Option (List D × Mem)
  | [], m => some ([], m)
  | v :: r, m => match f v m with
    | some (x, m1) => match expList f r m1 with
      | some (xs, m2) => some (x :: xs, m2)
      | none => none
    | none => none

def expV : Nat → V → Mem → Option (D × Mem)
  | 0, _, _ => none
  | n + 1, v, m =>
    match v with
    | .d x => some (x, m)
    | .own a => match m.get a with
      | some (.arr ek r cap frz) =>
        match r with
        | .is k l => some (.is k l cap, m.set a (.arr ek r cap true))
        | .ds l => some (.sl ek l cap, m.set a (.arr ek r cap true))
        | .vs l => match expList (expV n) l m with
          | some (xs, m1) => some (.sl ek xs cap, m1.set a (.arr ek (.vs l) cap true))
          | none => none
      | _ => none
    | .osl a lo len cap => match m.get a with
      | some (.arr ek r _ _) =>
        match r with
        | .is k l => some (.is k (cutN l lo len) cap, m.set a (.arr ek r none true))
        | .ds l => some (.sl ek (cutN l lo len) cap, m.set a (.arr ek r none true))
        | .vs l => match expList (expV n) (cutN l lo len) m with
          | some (xs, m1) => some (.sl ek xs cap, m1.set a (.arr ek (.vs l) none true))
          | none => none
      | _ => none
    | .agg cs => match expList (expV n) cs m with
      | some (xs, m1) => some (.agg xs, m1)
      | none => none
    | .iface t v => match expV n v m with
      | some (x, m1) => some (.iface t x, m1)
      | none => none
    | _ => none

end
end Go.Ab
