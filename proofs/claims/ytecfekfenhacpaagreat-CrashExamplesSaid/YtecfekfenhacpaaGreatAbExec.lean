/- The evaluator: operations, regions, code, calls. -/
import Derived.Test.YtecfekfenhacpaaGreatAbCore
namespace Go.Ab
noncomputable section
set_option linter.unusedVariables false
variable {R : Type}

def evalC (fr : Frame) (x : Operand) (k : V → Option R) : Option R :=
  match x with
  | .tmp t => match fr.get t with
    | some v => k v
    | none => none
  | .const v => match D.ofValue v with
    | some x => k (.d x)
    | none => none
  | .func f => k (.d (.fn f))
  | .global _ => none

def evalsC (fr : Frame) : List Operand → (List V → Option R) → Option R
  | [], k => k []
  | x :: r, k => evalC fr x fun v => evalsC fr r fun vs => k (v :: vs)

/-! ### arithmetic -/

def bitsOp (op : BinOp) (k : IntKind) (x y : Int) : Int :=
  let a := BitVec.ofInt k.bits x
  let b := BitVec.ofInt k.bits y
  match op with
  | .and => k.wrap (a &&& b).toNat
  | .or => k.wrap (a ||| b).toNat
  | .xor => k.wrap (a ^^^ b).toNat
  | _ => k.wrap (a &&& ~~~b).toNat

def intOp (op : BinOp) (ik : IntKind) (a b : Int) (k : V → Option R) : Option R :=
  match op with
  | .add => k (.d (.int ik (ik.wrap (a + b))))
  | .sub => k (.d (.int ik (ik.wrap (a - b))))
  | .mul => k (.d (.int ik (ik.wrap (a * b))))
  | .quo => if b = 0 then none else k (.d (.int ik (ik.wrap (a.tdiv b))))
  | .rem => if b = 0 then none else k (.d (.int ik (a.tmod b)))
  | .and => k (.d (.int ik (bitsOp .and ik a b)))
  | .or => k (.d (.int ik (bitsOp .or ik a b)))
  | .xor => k (.d (.int ik (bitsOp .xor ik a b)))
  | .andNot => k (.d (.int ik (bitsOp .andNot ik a b)))
  | .eql => k (.d (.bool (a == b)))
  | .neq => k (.d (.bool (a != b)))
  | .lss => k (.d (.bool (a < b)))
  | .leq => k (.d (.bool (a ≤ b)))
  | .gtr => k (.d (.bool (a > b)))
  | .geq => k (.d (.bool (a ≥ b)))
  | .shl => if b < 0 then none else k (.d (.int ik (ik.wrap (a * 2 ^ min b.toNat ik.bits))))
  | .shr => if b < 0 then none else k (.d (.int ik (a.fdiv (2 ^ min b.toNat ik.bits))))

def isShift : BinOp → Bool
  | .shl | .shr => true
  | _ => false

/-- 2^62 -/
def strRoom : Nat := 4611686018427387904

def strOp (op : BinOp) (a b : List UInt8) (k : V → Option R) : Option R :=
  match op with
  | .add => if a.length + b.length ≤ strRoom then k (.d (.str (a ++ b))) else none
  | .eql => k (.d (.bool (a == b)))
  | .neq => k (.d (.bool (!(a == b))))
  | .lss => k (.d (.bool (Op.bytesLess a b)))
  | .leq => k (.d (.bool (Op.bytesLess a b || a == b)))
  | .gtr => k (.d (.bool (!(Op.bytesLess a b || a == b))))
  | .geq => k (.d (.bool (!(Op.bytesLess a b))))
  | _ => none

/-- the kinds of a struct's cells, by those of its fields. -/
def fieldKinds (P : Program) (kinds : TypeId → Option (List TK)) : List Field → Nat → Option (List TK)
  | [], _ => some []
  | f :: r, off =>
    if f.name = "_" then none else
    if f.offset = off then
      match kinds f.type with
      | some l => if l.length = P.cellsOf f.type then
          match fieldKinds P kinds r (off + l.length) with
          | some m => some (l ++ m)
          | none => none
        else none
      | none => none
    else none

/-- the kinds of a type's cells, if all can be compared cell by cell. -/
def cellKinds (P : Program) : Nat → TypeId → Option (List TK)
  | 0, _ => none
  | n + 1, t =>
    match P.underlying t with
    | some .bool => some [.bool]
    | some (.int k) => some [.int k]
    | some .string => some [.str]
    | some (.struct fs) => if P.stoodInHeld t then none else fieldKinds P (cellKinds P n) fs.toList 0
    | some (.array len e) => match cellKinds P n e with
      | some l => if l.length = P.cellsOf e then some ((List.replicate len l).flatten) else none
      | none => none
    | _ => none

def eqCell (tk : TK) (x y : D) : Option Bool :=
  match tk with
  | .int k => (x.cellInt k 0).bind fun a => (y.cellInt k 0).bind fun b => some (a == b)
  | .bool => (x.cellBool 0).bind fun a => (y.cellBool 0).bind fun b => some (a == b)
  | .str => (x.cellStr 0).bind fun a => (y.cellStr 0).bind fun b => some (a == b)
  | _ => none

def eqCells : List TK → List D → List D → Option Bool
  | [], [], [] => some true
  | tk :: ts, x :: xs, y :: ys => (eqCell tk x y).bind fun a => (eqCells ts xs ys).bind fun b => some (a && b)
  | _, _, _ => none

def D.aggCells : D → Option (List D)
  | .agg cs => some cs
  | _ => none

def eqAgg (P : Program) (t : TypeId) (x y : D) : Option Bool :=
  match P.underlying t with
  | some (.struct _) => match cellKinds P 20 t with
    | some ks => x.aggCells.bind fun xs => y.aggCells.bind fun ys => eqCells ks xs ys
    | none => none
  | some (.array _ _) => match cellKinds P 20 t with
    | some ks => x.aggCells.bind fun xs => y.aggCells.bind fun ys => eqCells ks xs ys
    | none => none
  | _ => none

def isConst : Operand → Bool
  | .const _ => true
  | _ => false

/-- is a value of a type nil, where the type has a nil? -/
def nilC (td : TypeDesc) (x : V) : Option Bool :=
  match td with
  | .pointer _ => match x with
    | .d .nilp => some true
    | .ptr _ _ _ => some false
    | .cp _ _ _ => some false
    | _ => none
  | .slice _ => match x with
    | .d y => y.isNils
    | .own _ => some false
    | .osl _ _ _ _ => some false
    | _ => none
  | .map _ _ => match x with
    | .d .nilm => some true
    | .mp _ => some false
    | _ => none
  | .func _ _ _ => match x with
    | .d .nilf => some true
    | .d (.fn _) => some false
    | .fnc _ _ _ => some false
    | _ => none
  | .interface _ => match x with
    | .d .nili => some true
    | .d (.iface _ _) => some false
    | .iface _ _ => some false
    | _ => none
  | _ => none

def isIfaceD : TypeDesc → Bool
  | .interface _ => true
  | _ => false

/-- equality of two values that are not both numbers or strings. -/
def eqV (P : Program) (t : TypeId) (cst : Bool) (x y : V) : Option Bool :=
  match P.underlying t with
  | some .bool => match x, y with
    | .d (.bool a), .d (.bool b) => some (a == b)
    | _, _ => none
  | some (.struct _) => match x, y with
    | .d x, .d y => eqAgg P t x y
    | _, _ => none
  | some (.array _ _) => match x, y with
    | .d x, .d y => eqAgg P t x y
    | _, _ => none
  | some td => bif cst || !isIfaceD td then match nilC td y with
      | some true => nilC td x
      | some false => match nilC td x with
        | some true => some false
        | _ => none
      | none => none
    else none
  | none => none

def binC (P : Program) (op : BinOp) (t : TypeId) (cst : Bool) (x y : V) (k : V → Option R) : Option R :=
  match x, y with
  | .d (.int ik a), .d (.int jk b) => if ik = jk then intOp op ik a b k else bif isShift op then intOp op ik a b k else none
  | .d (.str a), .d (.str b) => strOp op a b k
  | x, y => match op with
    | .eql => (eqV P t cst x y).bind fun b => k (.d (.bool b))
    | .neq => (eqV P t cst x y).bind fun b => k (.d (.bool (!b)))
    | _ => none

def unC (op : UnOp) (x : V) (k : V → Option R) : Option R :=
  match op, x with
  | .neg, .d (.int ik n) => k (.d (.int ik (ik.wrap (0 - n))))
  | .xor, .d (.int ik n) => k (.d (.int ik (bitsOp .xor ik (if ik.signed then -1 else ik.max) n)))
  | .not, .d (.bool b) => k (.d (.bool (!b)))
  | _, _ => none

def convC (P : Program) (src dst : TypeId) (mem : Mem) (x : V) (k : V → Mem → Option R) : Option R :=
  bif (P.underlying src).isNone then none else
  match P.underlying dst with
  | some (.int ik) => match x with
    | .d (.int _ n) => k (.d (.int ik (ik.wrap n))) mem
    | _ => none
  | some .string => match x with
    | .d (.str s) => k (.d (.str s)) mem
    | .d (.int _ _) => none
    | v => match P.underlying src with
      | some (.slice e) => match tkOf P e with
        | some (.int .u8) => elemsC (.int .u8) mem v fun r => match r with
          | .is .u8 l => k (.d (.str (bytesOf l))) mem
          | _ => none
        | _ => none
      | _ => none
  | some (.slice e) => match tkOf P e with
    | some (.int .u8) => match x, P.underlying src with
      | .d (.str s), some .string => k (.own mem.next) (mem.alloc (.arr ⟨false, 1⟩ (.is .u8 (natsOf s)) none false))
      | _, _ => none
    | _ => none
  | _ => none

/-! ### places -/

def fieldOf (P : Program) (s : TypeId) (f : Nat) : Option (TypeId × Nat) :=
  match P.underlying s with
  | some (.struct fs) => match fs[f]? with
    | some x => if P.cellsOf x.type = 0 then none else some (x.type, x.offset)
    | none => none
  | _ => none

def nth {α : Type} (l : List α) (i : Int) : Option α := if 0 ≤ i then l[i.toNat]? else none

def elemTK (P : Program) (t : TypeId) : Option TK :=
  match P.underlying t with
  | some (.slice e) => tkOf P e
  | some (.array _ e) => tkOf P e
  | _ => none

def indexAddrC (P : Program) (t : TypeId) (mem : Mem) (x ix : V) (k : V → Option R) : Option R :=
  match ix with
  | .d (.int _ i) => match P.underlying t with
    | some (.slice e) => match tkOf P e with
      | some tk => match x with
        | .own n => match mem.get n with
          | some (.arr ek r _ _) => bif Nat.beq ek.sz tk.size then if 0 ≤ i ∧ i < (r.len : Int) then k (.ptr n i.toNat 0) else none else none
          | _ => none
        | .osl n lo len _ => match mem.get n with
          | some (.arr ek _ _ _) => bif Nat.beq ek.sz tk.size then if 0 ≤ i ∧ i < (len : Int) then k (.ptr n (lo + i.toNat) 0) else none else none
          | _ => none
        | .d y => match tk with
          | .int ik => (y.ints ik).bind fun l => (nth l i).bind fun a => k (.cp ⟨false, 1⟩ (.int ik a) 0)
          | tk => bif Nat.beq tk.size 0 then none else (y.elems tk.ek).bind fun l => (nth l i).bind fun e => k (.cp tk.ek e 0)
        | _ => none
      | none => none
    | some (.array len e) => bif (P.info? e).isSome then match x with
      | .ptr n j off => if 0 ≤ i ∧ i < (len : Int) ∧ 1 < len then k (.ptr n j (off + i.toNat * P.cellsOf e)) else none
      | .cp ek y off => if 0 ≤ i ∧ i < (len : Int) ∧ 1 < len then k (.cp ek y (off + i.toNat * P.cellsOf e)) else none
      | _ => none
      else none
    | _ => none
  | _ => none

def indexC (P : Program) (t : TypeId) (x ix : V) (k : V → Option R) : Option R :=
  match ix with
  | .d (.int _ i) => match P.underlying t with
    | some .string => match x with
      | .d (.str s) => (nth s i).bind fun b => k (.d (.int .u8 (b.toNat : Int)))
      | _ => none
    | some (.array len e) => match tkOf P e with
      | some tk => bif x.isAgg then if 0 ≤ i ∧ i < (len : Int) then loadV tk false x (i.toNat * tk.size) k else none else none
      | none => none
    | _ => none
  | _ => none

def fullAt (ek : EK) (tk : TK) (off : Nat) : Bool :=
  match tk with
  | .agg sz => ek.agg && Nat.beq off 0 && Nat.beq ek.sz sz
  | _ => false

def loadC (P : Program) (t : TypeId) (mem : Mem) (a : V) (k : V → Option R) : Option R :=
  match tkOf P t with
  | some tk => match a with
    | .ptr n i off => match mem.get n with
      | some (.var ek v) => bif Nat.beq i 0 then loadV tk (fullAt ek tk off) v off k else none
      | some (.arr ek r _ _) => match r with
        | .is ik l => match tk with
          | .int jk => if ik = jk then bif Nat.beq off 0 then (l[i]?).bind fun n => k (.d (.int ik n)) else none else none
          | _ => none
        | .ds l => (l[i]?).bind fun e => loadD tk (fullAt ek tk off) e off k
        | .vs l => match l[i]? with
          | some e => loadV tk (fullAt ek tk off) e off k
          | none => none
      | _ => none
    | .cp ek e off => loadD tk (fullAt ek tk off) e off k
    | _ => none
  | none => none

def storeC (P : Program) (t : TypeId) (mem : Mem) (a v : V) (k : Mem → Option R) : Option R :=
  match tkOf P t with
  | some tk => bif v.fits tk then match a with
    | .ptr n i off => match mem.getW n with
      | some (.var ek c) => bif Nat.beq i 0 then
          if off + tk.size ≤ ek.sz then
            k (mem.set n (.var ek (bif fullAt ek tk off then v else setV c off v)))
          else none
        else none
      | some (.arr ek r cap false) => if off + tk.size ≤ ek.sz then match r with
          | .is ik l => match v with
            | .d (.int jk x) => if ik = jk then if i < l.length then k (mem.set n (.arr ek (.is ik (l.set i x)) cap false)) else none else none
            | _ => none
          | .ds l => match v with
            | .d y => (l[i]?).bind fun e => k (mem.set n (.arr ek (.ds (l.set i (bif fullAt ek tk off then y else e.setCells off y.cells))) cap false))
            | v => match (dsV l)[i]? with
              | some e => k (mem.set n (.arr ek (.vs ((dsV l).set i (bif fullAt ek tk off then v else setV e off v))) cap false))
              | none => none
          | .vs l => match l[i]? with
            | some e => k (mem.set n (.arr ek (.vs (l.set i (bif fullAt ek tk off then v else setV e off v))) cap false))
            | none => none
        else none
      | _ => none
    | _ => none
    else none
  | none => none

/-- parts laid into the cells of a whole: each part's place and kind. -/
def layC (place : Nat → Option (Nat × TK)) : List (Nat × V) → List V → (V → Option R) → Option R
  | [], cs, k => k (mkAgg cs)
  | (i, v) :: r, cs, k => match place i with
    | some (off, tk) => bif v.fits tk then if off + tk.size ≤ cs.length then layC place r (setMany cs off v.cells) k else none else none
    | none => none

def fieldPlace (P : Program) (fs : Array Field) (i : Nat) : Option (Nat × TK) :=
  match fs[i]? with
  | some f => match tkOf P f.type with
    | some tk => some (f.offset, tk)
    | none => none
  | none => none

def allInfo (P : Program) : List Field → Bool
  | [] => true
  | f :: r => (P.info? f.type).isSome && allInfo P r

def buildC (P : Program) (t : TypeId) (parts : List (Nat × V)) (k : V → Option R) : Option R :=
  match zeroD P t with
  | some z => match P.underlying t with
    | some (.struct fs) => bif z.isAgg && allInfo P fs.toList then layC (fieldPlace P fs) parts (z.cells.map .d) k else none
    | some (.array _ e) => match tkOf P e with
      | some tk => bif z.isAgg then layC (fun i => some (i * tk.size, tk)) parts (z.cells.map .d) k else none
      | none => none
    | _ => none
  | none => none

def fillElems (tk : TK) : List (Nat × V) → List V → Option (List V)
  | [], l => some l
  | (i, v) :: r, l => bif v.fits tk then if i < l.length then fillElems tk r (l.set i v) else none else none

def buildSliceC (P : Program) (t : TypeId) (len : Nat) (parts : List (Nat × V)) (mem : Mem) (k : V → Mem → Option R) : Option R :=
  match P.underlying t with
  | some (.slice e) => match tkOf P e, zeroD P e with
    | some tk, some z => bif z.fits tk then if len * tk.size ≤ 16777216 then match fillElems tk parts (List.replicate len (.d z)) with
        | some l => match rowOf tk l with
          | some r => k (.own mem.next) (mem.alloc (.arr tk.ek r (some len) false))
          | none => none
        | none => none
      else none else none
    | _, _ => none
  | _ => none

def makeSliceC (P : Program) (t : TypeId) (len cap : V) (mem : Mem) (k : V → Mem → Option R) : Option R :=
  match P.underlying t with
  | some (.slice e) => match tkOf P e, zeroD P e, P.info? e, len, cap with
    | some tk, some z, some inf, .d (.int .i64 n), .d (.int .i64 c) =>
      if 0 ≤ n ∧ n ≤ c ∧ c.toNat * (inf.bytes + tk.size) ≤ 1073741824 ∧ z.fits tk = true ∧ 0 < inf.bytes + tk.size then match rowOf tk (List.replicate n.toNat (.d z)) with
        | some r => k (.own mem.next) (mem.alloc (.arr tk.ek r (some c.toNat) false))
        | none => none
      else none
    | _, _, _, _, _ => none
  | _ => none

def optBound (d : Nat) (v : Option V) (k : Int → Option R) : Option R :=
  match v with
  | none => k (d : Int)
  | some (.d (.int _ n)) => k n
  | some _ => none

def cut {α : Type} (l : List α) (lo hi : Int) : List α := (l.take hi.toNat).drop lo.toNat

def capOf (mx : Option Int) (a : Int) : Option Nat :=
  match mx with
  | none => none
  | some c => some (c.toNat - a.toNat)

/-- the bounds of a slice of l elements, its capacity too if it is said. -/
def boundsC (l : Nat) (lo hi mx : Option V) (k : Int → Int → Option Int → Option R) : Option R :=
  optBound 0 lo fun a => optBound l hi fun b => match mx with
    | none => if 0 ≤ a ∧ a ≤ b ∧ b ≤ (l : Int) then k a b none else none
    | some m => match hi with
      | none => none
      | some _ => optBound 0 (some m) fun c => if 0 ≤ a ∧ a ≤ b ∧ b ≤ c ∧ c ≤ (l : Int) then k a b (some c) else none

def sliceC (P : Program) (t : TypeId) (x : V) (lo hi mx : Option V) (mem : Mem) (k : V → Mem → Option R) : Option R :=
  match P.underlying t with
  | some .string => match x, mx with
    | .d (.str s), none => boundsC s.length lo hi none fun a b _ => k (.d (.str (cut s a b))) mem
    | _, _ => none
  | some (.slice e) => match tkOf P e with
    | some tk => match x with
      | .own n => match mem.get n with
        | some (.arr ek r _ _) => bif Nat.beq ek.sz tk.size then boundsC r.len lo hi mx fun a b c => k (.osl n a.toNat (b.toNat - a.toNat) (capOf c a)) mem else none
        | _ => none
      | .osl n l0 len cap => match mem.get n with
        | some (.arr ek _ _ _) => bif Nat.beq ek.sz tk.size then match cap, mx with
          | some _, none => none
          | _, _ => boundsC len lo hi mx fun a b c => k (.osl n (l0 + a.toNat) (b.toNat - a.toNat) (capOf c a)) mem
          else none
        | _ => none
      | .d .nils => boundsC 0 lo hi mx fun _ _ _ => k (.d .nils) mem
      | .d y => match tk with
        | .int ik => (y.ints ik).bind fun l => boundsC l.length lo hi mx fun a b c => match y.isNils with
          | some true => k (.d .nils) mem
          | _ => k (.d (.is ik (cut l a b) (capOf c a))) mem
        | tk => (y.elems tk.ek).bind fun l => boundsC l.length lo hi mx fun a b c => match y.isNils with
          | some true => k (.d .nils) mem
          | _ => k (.d (.sl tk.ek (cut l a b) (capOf c a))) mem
      | _ => none
    | none => none
  | some (.array n e) => match x, mx with
    | .ptr a 0 off, none => match tkOf P e with
      | some (.agg _) => none
      | some _ => boundsC n lo hi none fun u v _ => k (.view a (off + u.toNat) (v.toNat - u.toNat)) mem
      | none => none
    | _, _ => none
  | _ => none

def assertNo (P : Program) (asserted : TypeId) (ok : Bool) (k : V → Option R) : Option R :=
  match ok with
  | true => match zeroD P asserted with
    | some z => k (.tup [.d z, .d (.bool false)])
    | none => none
  | false => none

def okV (ok : Bool) (v : V) (b : Bool) : V :=
  match ok with
  | true => .tup [v, .d (.bool b)]
  | false => v

def assertC (P : Program) (x : V) (asserted : TypeId) (ok : Bool) (k : V → Option R) : Option R :=
  match P.underlying asserted with
  | some (.interface _) => none
  | some _ => match x with
    | .d .nili => assertNo P asserted ok k
    | .iface t v => if t = asserted then k (okV ok v true) else assertNo P asserted ok k
    | .d (.iface t v) => if t = asserted then k (okV ok (.d v) true) else assertNo P asserted ok k
    | _ => none
  | none => none

def minInt : List V → Option Int → Option (IntKind × Int)
  | [], _ => none
  | [.d (.int ik n)], none => some (ik, n)
  | _, _ => none

def minC (l : List V) (k : V → Option R) : Option R :=
  match l with
  | [.d (.int ik a), .d (.int jk b)] => if ik = jk then k (.d (.int ik (if b < a then b else a))) else none
  | _ => none

def maxC (l : List V) (k : V → Option R) : Option R :=
  match l with
  | [.d (.int ik a), .d (.int jk b)] => if ik = jk then k (.d (.int ik (if b > a then b else a))) else none
  | _ => none

/-! ### maps -/

/-- how keys are compared: as scalars or by their cells. -/
structure KK where
  sc : Bool
  ks : List TK

def eqKey (kk : KK) (x y : D) : Option Bool :=
  match x.isAgg, y.isAgg, kk.sc with
  | true, true, false => eqCells kk.ks x.cells y.cells
  | false, false, true => eqCells kk.ks x.cells y.cells
  | _, _, _ => none

def isScalar : TypeDesc → Bool
  | .bool => true
  | .int _ => true
  | .string => true
  | _ => false

def mapKinds (P : Program) (t : TypeId) : Option (KK × TypeId) :=
  match P.underlying t with
  | some (.map key elem) => match P.underlying key with
    | some td => match cellKinds P 20 key with
      | some ks => bif Nat.beq ks.length (P.cellsOf key) then some (⟨isScalar td, ks⟩, elem) else none
      | none => none
    | none => none
  | _ => none

def keyOk (kk : KK) (x : D) : Bool :=
  match kk.sc with
  | true => !x.isAgg
  | false => x.isAgg && Nat.beq x.cells.length kk.ks.length

/-- what a map holds at a key. -/
def findC (ks : KK) (x : D) : List (Nat × D × V) → (Option V → Option R) → Option R
  | [], k => k none
  | (_, y, v) :: r, k => (eqKey ks x y).bind fun b => match b with
    | true => k (some v)
    | false => findC ks x r k

/-- a map's entries with one at a key; true: it was there. -/
def putC (ks : KK) (x : D) (v : V) : List (Nat × D × V) → (List (Nat × D × V) → Bool → Option R) → Option R
  | [], k => k [] false
  | (n, y, u) :: r, k => (eqKey ks x y).bind fun b => match b with
    | true => k ((n, x, v) :: r) true
    | false => putC ks x v r fun l b => k ((n, y, u) :: l) b

def delC (ks : KK) (x : D) : List (Nat × D × V) → (List (Nat × D × V) → Option R) → Option R
  | [], k => k []
  | (n, y, u) :: r, k => (eqKey ks x y).bind fun b => match b with
    | true => k r
    | false => delC ks x r fun l => k ((n, y, u) :: l)

def lookupFin (P : Program) (e : TypeId) (ok : Bool) (k : V → Option R) (r : Option V) : Option R :=
  match r with
  | some v => k (okV ok v true)
  | none => match zeroD P e with
    | some z => k (okV ok (.d z) false)
    | none => none

def lookupC (P : Program) (t : TypeId) (mem : Mem) (m key : V) (ok : Bool) (k : V → Option R) : Option R :=
  match mapKinds P t, key with
  | some (ks, e), .d x => bif keyOk ks x then
    match m with
    | .d .nilm => lookupFin P e ok k none
    | .mp n => match mem.get n with
      | some (.map es _) => findC ks x es (lookupFin P e ok k)
      | _ => none
    | _ => none
    else none
  | _, _ => none

def V.sto : V → Bool
  | .tup _ => false
  | .und => false
  | _ => true

def updateC (P : Program) (t : TypeId) (mem : Mem) (m key v : V) (k : Mem → Option R) : Option R :=
  match mapKinds P t, key, m with
  | some (ks, e), .d x, .mp n => bif keyOk ks x && v.sto then match mem.getW n with
    | some (.map es clock) => putC ks x v es fun l was => match was with
      | true => k (mem.set n (.map l clock))
      | false => k (mem.set n (.map (l ++ [(clock, x, v)]) (Nat.succ clock)))
    | _ => none
    else none
  | _, _, _ => none

/-- the entries that an iteration has not seen. -/
def unseen (seen : List Nat) : List (Nat × D × V) → List (Nat × D × V)
  | [] => []
  | e :: r => bif seen.any (Nat.beq e.1) then unseen seen r else e :: unseen seen r

def anyC (J : Option R → Option R → Option R) (f : Nat × D × V → Option R) : List (Nat × D × V) → Option R
  | [] => none
  | [e] => f e
  | e :: r => J (f e) (anyC J f r)

def nextC (J : Option R → Option R → Option R) (mem : Mem) (i : V) (k : V → Mem → Option R) : Option R :=
  match i with
  | .it n => match mem.getW n with
    | some (.iter none _ _ _) => k (.tup [.d (.bool false)]) mem
    | some (.iter (some m) since seen last) => match mem.get m with
      | some (.map es clock) =>
        bif Nat.beq clock since then
          match unseen seen es with
          | [] => bif seen.isEmpty || es.isEmpty || !(es.all fun e => Nat.ble last e.1) then k (.tup [.d (.bool false)]) mem else none
          | l => bif (seen.isEmpty || !(es.all fun e => Nat.ble last e.1)) && l.all (fun e => Nat.blt e.1 since) then
              anyC J (fun e => k (.tup [.d (.bool true), .d e.2.1, e.2.2]) (mem.set n (.iter (some m) since (seen ++ [e.1]) clock))) l
            else none
        else none
      | _ => none
    | _ => none
  | _ => none

def entryOf (born : Nat) : List (Nat × D × V) → Option (D × V)
  | [] => none
  | e :: r => bif Nat.beq e.1 born then some e.2 else entryOf born r

def lastOf : List Nat → Option Nat
  | [] => none
  | [n] => some n
  | _ :: r => lastOf r

def entryC (mem : Mem) (i : V) (k : V → Option R) : Option R :=
  match i with
  | .it n => match mem.get n with
    | some (.iter (some m) since seen last) => match lastOf seen, mem.get m with
      | some born, some (.map es clock) => bif Nat.beq clock last then match entryOf born es with
          | some e => k (.tup [.d e.1, e.2])
          | none => none
        else none
      | _, _ => none
    | _ => none
  | _ => none

/-! ### what comes of code -/

inductive Ex where
  | norm
  | exit (id : Nat)
  | goto (l : Nat)
  | ret
  | pan (v : V)

inductive Res where
  | ret (v : V)
  | pan (v : V)

def partsC (fr : Frame) : List (Nat × Operand) → (List (Nat × V) → Option R) → Option R
  | [], k => k []
  | (i, x) :: r, k => evalC fr x fun v => partsC fr r fun vs => k ((i, v) :: vs)

def optC (fr : Frame) (x : Option Operand) (k : Option V → Option R) : Option R :=
  match x with
  | none => k none
  | some x => evalC fr x fun v => k (some v)

/-- the function that a call calls, and all its arguments. -/
def targetC (P : Program) (fr : Frame) (c : Call) (k : FuncId → List V → Option R) : Option R :=
  match c.callee with
  | .value f => evalC fr f fun g => evalsC fr c.args.toList fun vs => match g with
    | .d (.fn g) => k g vs
    | .fnc g first cap => k g (first ++ vs ++ cap)
    | _ => none
  | .invoke recv name => evalC fr recv fun r => evalsC fr c.args.toList fun vs => match r with
    | .iface t v => meth t v vs name
    | .d (.iface t v) => meth t (.d v) vs name
    | _ => none
  | .builtin _ => none
where
  meth (t : TypeId) (v : V) (vs : List V) (name : String) : Option R :=
    match P.info? t with
    | some inf => match inf.methods.find? fun m => m.name == name with
      | some m => if m.path.isEmpty then match m.func, P.underlying t with
          | some (f, true), some (.pointer _) => k f (v :: vs)
          | some (_, false), some (.pointer _) => none
          | some (f, false), some _ => k f (v :: vs)
          | _, _ => none
        else none
      | none => none
    | none => none

/-- has a type a zero value of its size? -/
def zeroOk (i : TypeInfo) (sz : Nat) : Bool :=
  match i.zero with
  | some z => Nat.beq z.cells.size sz
  | none => false

/-- a part of a row is filled with zero values. -/
def clearRow (tk : TK) (z : D) (mem : Mem) (n lo len : Nat) (k : Mem → Option R) : Option R :=
  match rowOf tk (List.replicate len (.d z)) with
  | some r => putRowC mem n lo r k
  | none => none

def opPick (P : Program) (J : Option R → Option R → Option R) (fr : Frame) (mem : Mem) (c : Operand) (a : Operand) (b : Operand) (k : V → Mem → Option R) : Option R :=
  evalC fr c fun v => match v with
    | .d (.bool t) => match t with
      | true => evalC fr a fun v => k v mem
      | false => evalC fr b fun v => k v mem
    | _ => none

def opAlloc (P : Program) (J : Option R → Option R → Option R) (fr : Frame) (mem : Mem) (t : TypeId) (k : V → Mem → Option R) : Option R :=
  match tkOf P t, zeroD P t with
    | some tk, some z => bif z.fits tk then k (.ptr mem.next 0 0) (mem.alloc (.var tk.ek (.d z))) else none
    | _, _ => none

def opBox (P : Program) (J : Option R → Option R → Option R) (fr : Frame) (mem : Mem) (t : TypeId) (x : Operand) (k : V → Mem → Option R) : Option R :=
  evalC fr x fun v => match tkOf P t with
    | some tk => bif v.fits tk then k (.ptr mem.next 0 0) (mem.alloc (.var tk.ek v)) else none
    | none => none

def opBuild (P : Program) (J : Option R → Option R → Option R) (fr : Frame) (mem : Mem) (t : TypeId) (ps : Array (Nat × Operand)) (k : V → Mem → Option R) : Option R :=
  partsC fr ps.toList fun vs => buildC P t vs fun v => k v mem

def opBuildSlice (P : Program) (J : Option R → Option R → Option R) (fr : Frame) (mem : Mem) (t : TypeId) (len : Nat) (ps : Array (Nat × Operand)) (k : V → Mem → Option R) : Option R :=
  partsC fr ps.toList fun vs => buildSliceC P t len vs mem k

def opLoad (P : Program) (J : Option R → Option R → Option R) (fr : Frame) (mem : Mem) (t : TypeId) (a : Operand) (k : V → Mem → Option R) : Option R :=
  evalC fr a fun v => loadC P t mem v fun v => k v mem

def opStore (P : Program) (J : Option R → Option R → Option R) (fr : Frame) (mem : Mem) (t : TypeId) (a : Operand) (x : Operand) (k : V → Mem → Option R) : Option R :=
  evalC fr a fun u => evalC fr x fun v => storeC P t mem u v fun m => k .und m

def opNilCheck (P : Program) (J : Option R → Option R → Option R) (fr : Frame) (mem : Mem) (x : Operand) (k : V → Mem → Option R) : Option R :=
  evalC fr x fun v => match v with
    | .ptr n i off => k (.ptr n i off) mem
    | .cp ek e off => k (.cp ek e off) mem
    | .fnc f u c => k (.fnc f u c) mem
    | .d (.fn f) => k (.d (.fn f)) mem
    | _ => none

def opBinOp (P : Program) (J : Option R → Option R → Option R) (fr : Frame) (mem : Mem) (op : BinOp) (t : TypeId) (x : Operand) (y : Operand) (k : V → Mem → Option R) : Option R :=
  evalC fr x fun u => evalC fr y fun v => binC P op t (isConst x || isConst y) u v fun r => k r mem

def opUnOp (P : Program) (J : Option R → Option R → Option R) (fr : Frame) (mem : Mem) (op : UnOp) (x : Operand) (k : V → Mem → Option R) : Option R :=
  evalC fr x fun v => unC op v fun r => k r mem

def opConvert (P : Program) (J : Option R → Option R → Option R) (fr : Frame) (mem : Mem) (src : TypeId) (dst : TypeId) (x : Operand) (k : V → Mem → Option R) : Option R :=
  evalC fr x fun v => convC P src dst mem v k

def opMakeInterface (P : Program) (J : Option R → Option R → Option R) (fr : Frame) (mem : Mem) (t : TypeId) (x : Operand) (k : V → Mem → Option R) : Option R :=
  evalC fr x fun v => match P.underlying t with
    | some td => bif isIfaceD td then none else match v with
      | .d y => k (.d (.iface t y)) mem
      | v => k (.iface t v) mem
    | none => none

def opMakeFunc (P : Program) (J : Option R → Option R → Option R) (fr : Frame) (mem : Mem) (f : FuncId) (first : Array Operand) (captured : Array Operand) (k : V → Mem → Option R) : Option R :=
  evalsC fr first.toList fun us => evalsC fr captured.toList fun vs => match us, vs with
    | [], [] => k (.d (.fn f)) mem
    | us, vs => k (.fnc f us vs) mem

def opMakeSlice (P : Program) (J : Option R → Option R → Option R) (fr : Frame) (mem : Mem) (t : TypeId) (l : Operand) (c : Operand) (k : V → Mem → Option R) : Option R :=
  evalC fr l fun u => evalC fr c fun v => makeSliceC P t u v mem k

def opSlice (P : Program) (J : Option R → Option R → Option R) (fr : Frame) (mem : Mem) (t : TypeId) (x : Operand) (lo : Option Operand) (hi : Option Operand) (mx : Option Operand) (k : V → Mem → Option R) : Option R :=
  evalC fr x fun v => optC fr lo fun a => optC fr hi fun b => optC fr mx fun c => sliceC P t v a b c mem k

def opFieldAddr (P : Program) (J : Option R → Option R → Option R) (fr : Frame) (mem : Mem) (s : TypeId) (x : Operand) (f : Nat) (k : V → Mem → Option R) : Option R :=
  evalC fr x fun v => match fieldOf P s f with
    | some (_, o) => match v with
      | .ptr n i off => k (.ptr n i (off + o)) mem
      | .cp ek e off => k (.cp ek e (off + o)) mem
      | _ => none
    | none => none

def opField (P : Program) (J : Option R → Option R → Option R) (fr : Frame) (mem : Mem) (s : TypeId) (x : Operand) (f : Nat) (k : V → Mem → Option R) : Option R :=
  evalC fr x fun v => match fieldOf P s f with
    | some (t, o) => match tkOf P t with
      | some tk => bif v.isAgg then loadV tk false v o fun r => k r mem else none
      | none => none
    | none => none

def opIndexAddr (P : Program) (J : Option R → Option R → Option R) (fr : Frame) (mem : Mem) (t : TypeId) (x : Operand) (i : Operand) (k : V → Mem → Option R) : Option R :=
  evalC fr x fun u => evalC fr i fun v => indexAddrC P t mem u v fun r => k r mem

def opIndex (P : Program) (J : Option R → Option R → Option R) (fr : Frame) (mem : Mem) (t : TypeId) (x : Operand) (i : Operand) (k : V → Mem → Option R) : Option R :=
  evalC fr x fun u => evalC fr i fun v => indexC P t u v fun r => k r mem

def opTypeAssert (P : Program) (J : Option R → Option R → Option R) (fr : Frame) (mem : Mem) (x : Operand) (asserted : TypeId) (ok : Bool) (k : V → Mem → Option R) : Option R :=
  evalC fr x fun v => assertC P v asserted ok fun r => k r mem

def opExtract (P : Program) (J : Option R → Option R → Option R) (fr : Frame) (mem : Mem) (t : Operand) (i : Nat) (k : V → Mem → Option R) : Option R :=
  evalC fr t fun v => match v with
    | .tup vs => match vs[i]? with
      | some v => k v mem
      | none => none
    | _ => none

def opMakeMap (P : Program) (J : Option R → Option R → Option R) (fr : Frame) (mem : Mem) (t : TypeId) (r : Option Operand) (k : V → Mem → Option R) : Option R :=
  match P.underlying t, r with
    | some (.map _ _), none => k (.mp mem.next) (mem.alloc (.map [] 0))
    | some (.map _ _), some x => evalC fr x fun v => match v with
      | .d (.int _ _) => k (.mp mem.next) (mem.alloc (.map [] 0))
      | _ => none
    | _, _ => none

def opLookup (P : Program) (J : Option R → Option R → Option R) (fr : Frame) (mem : Mem) (t : TypeId) (x : Operand) (i : Operand) (ok : Bool) (k : V → Mem → Option R) : Option R :=
  evalC fr x fun u => evalC fr i fun v => lookupC P t mem u v ok fun r => k r mem

def opMapUpdate (P : Program) (J : Option R → Option R → Option R) (fr : Frame) (mem : Mem) (t : TypeId) (m : Operand) (x : Operand) (v : Operand) (k : V → Mem → Option R) : Option R :=
  evalC fr m fun u => evalC fr x fun x => evalC fr v fun v => updateC P t mem u x v fun m => k .und m

def opInsert (P : Program) (J : Option R → Option R → Option R) (fr : Frame) (mem : Mem) (t : TypeId) (m : Operand) (x : Operand) (v : Operand) (k : V → Mem → Option R) : Option R :=
  evalC fr m fun u => evalC fr x fun x => evalC fr v fun v => updateC P t mem u x v fun m => k .und m

def opRange (P : Program) (J : Option R → Option R → Option R) (fr : Frame) (mem : Mem) (t : TypeId) (x : Operand) (k : V → Mem → Option R) : Option R :=
  evalC fr x fun v => match P.underlying t, v with
    | some (.map _ _), .d .nilm => k (.it mem.next) (mem.alloc (.iter none 0 [] 0))
    | some (.map _ _), .mp n => match mem.get n with
      | some (.map _ clock) => k (.it mem.next) (mem.alloc (.iter (some n) clock [] clock))
      | _ => none
    | _, _ => none

def opNext (P : Program) (J : Option R → Option R → Option R) (fr : Frame) (mem : Mem) (i : Operand) (k : V → Mem → Option R) : Option R :=
  evalC fr i fun v => nextC J mem v k

def opEntry (P : Program) (J : Option R → Option R → Option R) (fr : Frame) (mem : Mem) (i : Operand) (k : V → Mem → Option R) : Option R :=
  evalC fr i fun v => entryC mem v fun r => k r mem

def bDelete (P : Program) (mem : Mem) (c : Call) (m x : V) (k : V → Mem → Option R) : Option R :=
  match c.argTypes[0]? with
    | some t => match mapKinds P t, m, x with
      | some (ks, _), .d .nilm, .d x => bif keyOk ks x then k (.tup []) mem else none
      | some (ks, _), .mp n, .d x => bif keyOk ks x then match mem.getW n with
        | some (.map es clock) => delC ks x es fun l => k (.tup []) (mem.set n (.map l clock))
        | _ => none
        else none
      | _, _, _ => none
    | none => none

def bCopy (P : Program) (mem : Mem) (c : Call) (d s : V) (k : V → Mem → Option R) : Option R :=
  match c.argTypes.toList with
    | [t, _] => match P.underlying t with
      | some (.slice e) => match tkOf P e with
        | some tk => match s with
          | .d (.str b) => match tk with
            | .int .u8 => copyR tk mem d (.is .u8 (natsOf b)) k
            | _ => none
          | s => copyC tk mem d s k
        | none => none
      | _ => none
    | _ => none

def bClear (P : Program) (mem : Mem) (c : Call) (m : V) (k : V → Mem → Option R) : Option R :=
  match c.argTypes[0]? with
    | some t => match P.underlying t, m with
      | some (.map _ _), .d .nilm => k (.tup []) mem
      | some (.map _ _), .mp n => match mem.getW n with
        | some (.map _ clock) => k (.tup []) (mem.set n (.map [] clock))
        | _ => none
      | some (.slice _), .d .nils => k (.tup []) mem
      | some (.slice e), .osl n lo len _ => match tkOf P e, zeroD P e, mem.get n with
        | some tk, some z, some (.arr ek _ _ _) => bif z.fits tk && EK.beq ek tk.ek then clearRow tk z mem n lo len fun m => k (.tup []) m else none
        | _, _, _ => none
      | _, _ => none
    | none => none

def bLen (P : Program) (mem : Mem) (c : Call) (x : V) (k : V → Mem → Option R) : Option R :=
  match c.argTypes.toList with
    | [t] => match P.underlying t with
      | some .string => match x with
        | .d (.str s) => k (.d (.int .i64 (s.length : Int))) mem
        | _ => none
      | some (.array n _) => k (.d (.int .i64 (n : Int))) mem
      | some (.slice e) => match tkOf P e with
        | some tk => lenV mem tk x fun v => k v mem
        | none => none
      | some (.map _ _) => match x with
        | .d .nilm => k (.d (.int .i64 0)) mem
        | .mp n => match mem.get n with
          | some (.map es _) => k (.d (.int .i64 (es.length : Int))) mem
          | _ => none
        | _ => none
      | _ => none
    | _ => none

def bAppend (P : Program) (mem : Mem) (c : Call) (d s : V) (k : V → Mem → Option R) : Option R :=
  match c.argTypes.toList with
    | [t, u] => match P.underlying t with
      | some (.slice e) => match tkOf P e, P.info? e with
        | some tk, some inf => bif zeroOk inf tk.size then match P.underlying u with
            | some (.int _) => none
            | some .string => match s, tk with
              | .d (.str b), .int .u8 => appendR tk inf.bytes mem d (.is .u8 (natsOf b)) k
              | _, _ => none
            | some _ => appendC tk inf.bytes mem d s k
            | none => none
          else none
        | _, _ => none
      | _ => none
    | _ => none

def opBuiltin (P : Program) (mem : Mem) (c : Call) (b : Builtin) (vs : List V) (k : V → Mem → Option R) : Option R :=
  match b, vs with
  | .delete, [m, x] => bDelete P mem c m x k
  | .copy, [d, s] => bCopy P mem c d s k
  | .clear, [m] => bClear P mem c m k
  | .len, [x] => bLen P mem c x k
  | .min, l => minC l fun v => k v mem
  | .max, l => maxC l fun v => k v mem
  | .append, [d, s] => bAppend P mem c d s k
  | _, _ => none

/-- an operation that calls no function. -/
def opC (P : Program) (J : Option R → Option R → Option R) (fr : Frame) (mem : Mem) (o : Op) (k : V → Mem → Option R) : Option R :=
  match o with
  | .move x => evalC fr x fun v => k v mem
  | .assign x => evalC fr x fun v => k v mem
  | .pick c a b => opPick P J fr mem c a b k
  | .alloc t => opAlloc P J fr mem t k
  | .box t x => opBox P J fr mem t x k
  | .build t ps => opBuild P J fr mem t ps k
  | .buildSlice t len ps => opBuildSlice P J fr mem t len ps k
  | .load t a => opLoad P J fr mem t a k
  | .store t a x => opStore P J fr mem t a x k
  | .nilCheck x => opNilCheck P J fr mem x k
  | .binOp op t x y _ => opBinOp P J fr mem op t x y k
  | .unOp op _ x => opUnOp P J fr mem op x k
  | .convert src dst x => opConvert P J fr mem src dst x k
  | .makeInterface t x => opMakeInterface P J fr mem t x k
  | .makeFunc (.func f) first captured => opMakeFunc P J fr mem f first captured k
  | .makeSlice t l c => opMakeSlice P J fr mem t l c k
  | .slice t x lo hi mx => opSlice P J fr mem t x lo hi mx k
  | .fieldAddr s x f => opFieldAddr P J fr mem s x f k
  | .field s x f => opField P J fr mem s x f k
  | .indexAddr t x i => opIndexAddr P J fr mem t x i k
  | .index t x i => opIndex P J fr mem t x i k
  | .typeAssert x _ asserted ok => opTypeAssert P J fr mem x asserted ok k
  | .extract t i => opExtract P J fr mem t i k
  | .makeMap t r => opMakeMap P J fr mem t r k
  | .lookup t x i ok => opLookup P J fr mem t x i ok k
  | .mapUpdate t m x v => opMapUpdate P J fr mem t m x v k
  | .insert t m x v => opInsert P J fr mem t m x v k
  | .range t x => opRange P J fr mem t x k
  | .next i false => opNext P J fr mem i k
  | .entry i => opEntry P J fr mem i k
  | .call c => match c.callee with
    | .builtin b => evalsC fr c.args.toList fun vs => opBuiltin P mem c b vs k
    | _ => none
  | _ => none

/-- is it a call of a function of the program? -/
def callOf : Op → Option Call
  | .call c => match c.callee with
    | .builtin _ => none
    | _ => some c
  | _ => none

/-- a function's answer, in any memory that holds what its arguments lead to. -/
abbrev Caller (R : Type) := FuncId → List V → Mem → (Res → Mem → Option R) → Option R

/-- one operation, its guard aside. -/
def operC (P : Program) (J : Option R → Option R → Option R) (call : Caller R) (fr : Frame) (mem : Mem) (o : Oper) (k : Res → Mem → Option R) : Option R :=
  match callOf o.op with
  | some c => targetC P fr c fun f vs => call f vs mem k
  | none => match o.op with
    | .panic x => evalC fr x fun v => match v with
      | .iface t v => k (.pan (.iface t v)) mem
      | .d (.iface t v) => k (.pan (.d (.iface t v))) mem
      | _ => none
    | op => opC P J fr mem op fun v mem => k (.ret v) mem

def guardSlot (ops : Array Oper) (j : Nat) : Option Nat :=
  match ops[j]? with
  | some o => o.dst
  | none => none

def guardedC (P : Program) (J : Option R → Option R → Option R) (call : Caller R) (ops : Array Oper) (fr : Frame) (mem : Mem) (o : Oper) (k : Res → Mem → Option R) : Option R :=
  match o.guard with
  | none => operC P J call fr mem o k
  | some (j, want) => match guardSlot ops j with
    | some s => match fr.get s with
      | some (.d (.bool b)) => match b with
        | true => bif want then operC P J call fr mem o k else k (.ret .und) mem
        | false => bif want then k (.ret .und) mem else operC P J call fr mem o k
      | some .und => k (.ret .und) mem
      | _ => none
    | none => none

def opsC (P : Program) (J : Option R → Option R → Option R) (call : Caller R) (ops : Array Oper) : List Oper → Frame → Mem → (Ex → Frame → Mem → Option R) → Option R
  | [], fr, mem, k => k .norm fr mem
  | o :: r, fr, mem, k => guardedC P J call ops fr mem o fun res mem => match res with
    | .ret v => opsC P J call ops r (fr.put o.dst v) mem k
    | .pan v => k (.pan v) fr mem

/-! ### regions that draw their order -/

def isE (o : Op) : Bool :=
  match o with
  | .assign _ | .store .. | .mapUpdate .. | .insert .. | .panic _ | .next .. | .defer _ | .go _ | .send .. | .recv .. | .select .. | .mapEntry .. | .entryStore .. | .ready _ => true
  | .call c => match c.callee with
    | .builtin .len => false
    | .builtin .cap => false
    | .builtin .min => false
    | .builtin .max => false
    | _ => true
  | _ => false

/-- an order in which all that is no effect comes as early as it may. -/
def planGo (ops : List (Nat × Oper)) : Nat → Nat → List Nat → List Nat
  | 0, _, acc => acc.reverse
  | fuel + 1, done, acc =>
    let ready (x : Nat × Oper) : Bool := !done.testBit x.1 && x.2.after.toList.all fun e => !Region.binds .any e || done.testBit e.on
    match ops.find? fun x => ready x && !isE x.2.op with
    | some x => planGo ops fuel (done ||| 2 ^ x.1) (x.1 :: acc)
    | none => match ops.find? ready with
      | some x => planGo ops fuel (done ||| 2 ^ x.1) (x.1 :: acc)
      | none => acc.reverse

def number {α : Type} : Nat → List α → List (Nat × α)
  | _, [] => []
  | i, x :: r => (i, x) :: number (i + 1) r

def plan (ops : Array Oper) : List Nat := planGo (number 0 ops.toList) ops.size 0 []

/-- the slots that an operation looks at. -/
def tmpsOf : List Operand → List Nat
  | [] => []
  | .tmp t :: r => t :: tmpsOf r
  | _ :: r => tmpsOf r

def looks (ops : Array Oper) (o : Oper) : List Nat :=
  match o.guard with
  | none => tmpsOf o.op.operands.toList
  | some (j, _) => match guardSlot ops j with
    | some s => s :: tmpsOf o.op.operands.toList
    | none => tmpsOf o.op.operands.toList

def hasN (n : Nat) (l : List Nat) : Bool :=
  List.rec false (fun h _ ih => Bool.rec ih true (Nat.beq h n)) l

theorem hasN_nil (n : Nat) : hasN n [] = false := rfl
theorem hasN_cons (n m : Nat) (r : List Nat) : hasN n (m :: r) = bif Nat.beq m n then true else hasN n r := by
  show (@Bool.rec (fun _ => Bool) (hasN n r) true (Nat.beq m n)) = _
  cases Nat.beq m n <;> rfl

def cutF (fr : Frame) : List Nat → Frame
  | [] => []
  | s :: r => match fr.get s with
    | some v => (s, v) :: cutF fr r
    | none => cutF fr r

/-- the blocks that a value leads to at once; of an iterator its map too. -/
def namesOf (mem : Mem) : V → List Nat
  | .ptr n _ _ => [n]
  | .own n => [n]
  | .osl n _ _ _ => [n]
  | .view n _ _ => [n]
  | .mp n => [n]
  | .it n => match mem.get n with
    | some (.iter (some m) _ _ _) => [n, m]
    | _ => [n]
  | _ => []

def readsOf (mem : Mem) : Frame → List Nat
  | [] => []
  | (_, v) :: r => namesOf mem v ++ readsOf mem r

/-- the entries of some names, to be read only. -/
def cutEnt (l : List Ent) : List Nat → List Ent
  | [] => []
  | n :: r => match getEnt l n with
    | some ⟨k, b, _, false⟩ => ⟨k, b, true, false⟩ :: cutEnt l r
    | _ => cutEnt l r

def markEnt (hide ro : List Nat) : List Ent → List Ent
  | [] => []
  | e :: r => ⟨e.n, e.b, e.ro || hasN e.n ro, e.hid || hasN e.n hide⟩ :: markEnt hide ro r

def Mem.mark (m : Mem) (hide ro : List Nat) : Mem := ⟨m.next, markEnt hide ro m.l⟩

/-- of the entries with some names: the marks that they had in an elder memory. -/
def unmarkEnt (was : List Ent) (l : List Nat) : List Ent → List Ent
  | [] => []
  | e :: r => (bif hasN e.n l then match getEnt was e.n with
    | some x => ⟨e.n, e.b, x.ro, x.hid⟩
    | none => e
    else e) :: unmarkEnt was l r

def Mem.unmark (was : Mem) (l : List Nat) (m : Mem) : Mem := ⟨m.next, unmarkEnt was.l l m.l⟩

/-- the new entries of a memory. -/
def newEnts (n : Nat) : List Ent → List Ent
  | [] => []
  | e :: r => bif Nat.ble n e.n then e :: newEnts n r else newEnts n r

def entNames : List Ent → List Nat
  | [] => []
  | e :: r => e.n :: entNames r

def allLe (n : Nat) : List Ent → Bool
  | [] => true
  | e :: r => bif Nat.ble e.n n then allLe n r else false

def takeNew (n : Nat) (m : Mem) : Option (List Ent) :=
  bif Nat.ble n m.next && allLe m.next (newEnts n m.l) then some (newEnts n m.l) else none

/-- what an operation of a drawn region may not meet: blocks that others of the region make or read, unless these come before it. -/
def pickBefore (b : Nat) : List (Nat × List Nat) → List Nat
  | [] => []
  | (i, ns) :: r => bif b.testBit i then pickBefore b r else ns ++ pickBefore b r

def meetsN (l : List Nat) : List Nat → Bool
  | [] => false
  | n :: r => bif hasN n l then true else meetsN l r

/-- the frame without the region's slots. -/
def dropDst : List Oper → Frame → Frame
  | [], fr => fr
  | o :: r, fr => match o.dst with
    | some d => dropDst r (fr.filter fun x => !Nat.beq x.1 d)
    | none => dropDst r fr

def guardSt (ops : Array Oper) (fr : Frame) (g : Option (Nat × Bool)) : Option Bool :=
  match g with
  | none => some true
  | some (j, want) => match guardSlot ops j with
    | some s => match fr.get s with
      | some (.d (.bool b)) => match b with
        | true => some want
        | false => some (!want)
      | some .und => some false
      | _ => none
    | none => none

/-- an operation that is no effect: its value, and the memory with what it makes. -/
def nonE (P : Program) (ops : Array Oper) (fr : Frame) (mem : Mem) (o : Oper) : Option (V × Mem) :=
  match guardSt ops fr o.guard with
  | some true => opC (R := V × Mem) P (fun _ _ => none) fr mem o.op fun v m => some (v, m)
  | some false => some (.und, mem)
  | none => none

def drawC (P : Program) (J : Option R → Option R → Option R) (call : Caller R) (ops : Array Oper) (bf : Array Nat) : List Nat → List (Nat × List Nat) → List (Nat × List Nat) → Frame → Mem → (Ex → Frame → Mem → Option R) → Option R
  | [], _, _, fr, mem, k => k .norm fr mem
  | i :: r, made, read, fr, mem, k =>
    match ops[i]? with
    | none => none
    | some o =>
      bif isE o.op then
        match pickBefore (bf.getD i 0) made, pickBefore (bf.getD i 0) read with
        | [], [] => guardedC P J call ops (cutF fr (looks ops o)) mem o fun res mem1 => match res with
          | .ret v => drawC P J call ops bf r made read (fr.put o.dst v) mem1 k
          | .pan v => k (.pan v) (dropDst ops.toList fr) mem1
        | hide, ro => guardedC P J call ops (cutF fr (looks ops o)) (mem.mark hide ro) o fun res mem1 => match res with
          | .ret v => drawC P J call ops bf r made read (fr.put o.dst v) (Mem.unmark mem (hide ++ ro) mem1) k
          | .pan v => k (.pan v) (dropDst ops.toList fr) (Mem.unmark (mem.mark hide []) (hide ++ ro) mem1)
      else
        match readsOf mem (cutF fr (looks ops o)) with
        | [] => match nonE P ops (cutF fr (looks ops o)) ⟨mem.next, []⟩ o with
          | some (v, mem1) => match takeNew mem.next mem1 with
            | some [] => drawC P J call ops bf r made read (fr.put o.dst v) ⟨Nat.succ mem1.next, mem.l⟩ k
            | some new => drawC P J call ops bf r ((i, entNames new) :: made) read (fr.put o.dst v) ⟨Nat.succ mem1.next, new ++ mem.l⟩ k
            | none => none
          | none => none
        | ns => bif meetsN (pickBefore (bf.getD i 0) made) ns then none else
          match nonE P ops (cutF fr (looks ops o)) ⟨mem.next, cutEnt mem.l ns⟩ o with
          | some (v, mem1) => match takeNew mem.next mem1 with
            | some [] => drawC P J call ops bf r made ((i, ns) :: read) (fr.put o.dst v) ⟨Nat.succ mem1.next, mem.l⟩ k
            | some new => drawC P J call ops bf r ((i, entNames new) :: made) ((i, ns) :: read) (fr.put o.dst v) ⟨Nat.succ mem1.next, new ++ mem.l⟩ k
            | none => none
          | none => none

/-! ### what is checked of each drawn region once -/

def slotFree (l : List Nat) (d : Option Nat) : Bool :=
  match d with
  | none => true
  | some s => !hasN s l

def neDst (a b : Option Nat) : Bool :=
  match a with
  | none => true
  | some x => match b with
    | none => true
    | some y => !Nat.beq x y

def chkOne (ops : Array Oper) (bf : Array Nat) (pl pre : List Nat) (q : Nat) : Bool :=
  match ops[q]? with
  | none => false
  | some o =>
    !hasN q pre && (o.after.toList.all (fun e => !Region.binds .any e || hasN e.on pre) &&
    (pl.all (fun k => !(bf.getD q 0).testBit k || o.after.toList.any fun e => Region.binds .any e && (Nat.beq e.on k || (bf.getD e.on 0).testBit k)) &&
    (slotFree (looks ops o) o.dst &&
    pre.all fun p => match ops[p]? with
      | none => false
      | some op => (!isE op.op || (bf.getD q 0).testBit p) && (neDst op.dst o.dst && ((slotFree (looks ops o) op.dst || (bf.getD q 0).testBit p) && (slotFree (looks ops op) o.dst || (isE o.op && (bf.getD q 0).testBit p)))))))

def chkPlan (ops : Array Oper) (bf : Array Nat) (pl : List Nat) : List Nat → List Nat → Bool
  | _, [] => true
  | pre, q :: rest => chkOne ops bf pl pre q && chkPlan ops bf pl (q :: pre) rest

def dstOk (n : Nat) (o : Oper) : Bool :=
  match o.dst with
  | some d => Nat.blt d n
  | none => true

def okRegion (n : Nat) (ops : Array Oper) : Bool :=
  ops.toList.all (dstOk n) && (chkPlan ops (Region.before ops) (plan ops) [] (plan ops) && (List.range ops.size).all fun i => hasN i (plan ops))

def codeOk (n : Nat) : Code → Bool
  | .region _ ops false => ops.toList.all (dstOk n)
  | .region _ ops true => okRegion n ops
  | .seq a b => codeOk n a && codeOk n b
  | .cond _ a b => codeOk n a && codeOk n b
  | .block _ b => codeOk n b
  | .loop b => codeOk n b
  | .scope b => codeOk n b
  | .rangeFunc .. => true
  | _ => true

def funcOk (fn : Func) : Bool :=
  match fn.body with
  | some c => codeOk fn.ntmps c && !(fn.name == "runtime.NumGoroutine")
  | none => true

/-! ### code -/

def exec (P : Program) (J : Option R → Option R → Option R) (call : Caller R) (rounds : Nat) : Code → Frame → Mem → (Ex → Frame → Mem → Option R) → Option R
  | .skip, fr, mem, k => k .norm fr mem
  | .region _ ops false, fr, mem, k => opsC P J call ops ops.toList fr mem k
  | .region _ ops true, fr, mem, k => drawC P J call ops (Region.before ops) (plan ops) [] [] fr mem k
  | .seq a b, fr, mem, k => exec P J call rounds a fr mem fun e fr mem => match e with
    | .norm => exec P J call rounds b fr mem k
    | e => k e fr mem
  | .cond c a b, fr, mem, k => evalC fr c fun v => match v with
    | .d (.bool t) => match t with
      | true => exec P J call rounds a fr mem k
      | false => exec P J call rounds b fr mem k
    | _ => none
  | .block id b, fr, mem, k => exec P J call rounds b fr mem fun e fr mem => match e with
    | .exit j => bif Nat.beq j id then k .norm fr mem else k (.exit j) fr mem
    | e => k e fr mem
  | .loop b, fr, mem, k =>
    let rec go (body : Frame → Mem → (Ex → Frame → Mem → Option R) → Option R) : Nat → Frame → Mem → Option R
      | 0, _, _ => none
      | n + 1, fr, mem => body fr mem fun e fr mem => match e with
        | .norm => go body n fr mem
        | e => k e fr mem
    go (fun fr mem k => exec P J call rounds b fr mem k) rounds fr mem
  | .exit id, fr, mem, k => k (.exit id) fr mem
  | .scope b, fr, mem, k => exec P J call rounds b fr mem fun e fr mem => match e with
    | .goto _ => none
    | e => k e fr mem
  | .label _, fr, mem, k => k .norm fr mem
  | .goto l, fr, mem, k => k (.goto l) fr mem
  | .ret, fr, mem, k => k .ret fr mem
  | .refuse _, _, _, _ => none
  | .rangeFunc .., _, _, _ => none

def resultC (P : Program) (fr : Frame) (mem : Mem) (r : ResultVar) (k : V → Option R) : Option R :=
  match r with
  | .tmp t => match fr.get t with
    | some v => k v
    | none => none
  | .cell a t => match fr.get a with
    | some v => loadC P t mem v k
    | none => none

def resultsC (P : Program) (fr : Frame) (mem : Mem) : List ResultVar → (List V → Option R) → Option R
  | [], k => k []
  | r :: rs, k => resultC P fr mem r fun v => resultsC P fr mem rs fun vs => k (v :: vs)

def oneOf : List V → V
  | [v] => v
  | vs => .tup vs

/-- a function's body, from its arguments to its answer. -/
def bodyC (P : Program) (J : Option R → Option R → Option R) (call : Caller R) (rounds : Nat) (f : FuncId) (args : List V) (mem : Mem) (k : Res → Mem → Option R) : Option R :=
  match P.funcs[f]? with
  | some fn => match fn.body with
    | some c => if args.length ≤ fn.ntmps then
        exec P J call rounds c (number 0 args) mem fun e fr mem => match e with
          | .norm => resultsC P fr mem fn.results.toList fun vs => k (.ret (oneOf vs)) mem
          | .ret => resultsC P fr mem fn.results.toList fun vs => k (.ret (oneOf vs)) mem
          | .pan v => k (.pan v) mem
          | _ => none
      else none
    | none => none
  | none => none

/-! ### calls that go on to no depth beyond a number -/

def V.under (n : Nat) : V → Bool
  | .d _ => true
  | .ptr a _ _ => Nat.blt a n
  | .cp _ _ _ => true
  | .own a => Nat.blt a n
  | .osl a _ _ _ => Nat.blt a n
  | .view a _ _ => Nat.blt a n
  | .fnc _ us vs => underAll us && underAll vs
  | .agg cs => underAll cs
  | .tup vs => underAll vs
  | .iface _ v => V.under n v
  | .mp a => Nat.blt a n
  | .it a => Nat.blt a n
  | .und => true
where
  underAll : List V → Bool
    | [] => true
    | v :: r => V.under n v && underAll r

def underVs (n : Nat) : List V → Bool
  | [] => true
  | v :: r => V.under n v && underVs n r

def underMap (n : Nat) : List (Nat × D × V) → Bool
  | [] => true
  | e :: r => V.under n e.2.2 && underMap n r

def Blk.under (n : Nat) : Blk → Bool
  | .var _ v => v.under n
  | .arr _ (.vs l) _ _ => underVs n l
  | .arr _ _ _ _ => true
  | .map es _ => underMap n es
  | .iter (some m) _ _ _ => Nat.blt m n
  | .iter none _ _ _ => true

def dropNew (n : Nat) : List Ent → List Ent
  | [] => []
  | e :: r => bif Nat.ble n e.n then dropNew n r else e :: dropNew n r

def allUnder (n : Nat) : List Ent → Bool
  | [] => true
  | e :: r => (bif Nat.ble n e.n then true else e.b.under n) && allUnder n r

def Res.under (n : Nat) : Res → Bool
  | .ret v => v.under n
  | .pan v => v.under n

/-- what a call made and nothing leads to is forgotten. -/
def tidy (n : Nat) (r : Res) (mem : Mem) : Mem :=
  bif Nat.ble mem.next (n + 24) then mem else bif r.under n && allUnder n mem.l then ⟨mem.next, dropNew n mem.l⟩ else mem

/-- T: functions that are answered by a contract, not by their text. -/
def callN (P : Program) (J : Option R → Option R → Option R) (T : FuncId → Option (List V → Mem → (Res → Mem → Option R) → Option R)) (rounds : Nat) : Nat → Caller R
  | 0 => fun _ _ _ _ => none
  | d + 1 => fun f args mem k => match T f with
    | some t => t args mem k
    | none => bodyC P J (callN P J T rounds d) rounds f args mem fun r mem1 => k r (tidy mem.next r mem1)

end
end Go.Ab
