/- The operations of the model's code, in the abstract run. -/
import Derived.Test.YtkplhhkmchihlaaGreatDoorSwap
import Derived.Laws.StructEq
namespace Go.Abs
variable {X : Type}

/-- A constant's value. -/
def ofCell : Value → Option AV
  | .bool b => some (.bool b)
  | .int k n => some (.int k n)
  | .string s => some (.str s.data.toList)
  | .pointer none => some .nilp
  | .slice none 0 0 => some .nils
  | .map none => some .nilm
  | .nilFunc => some .nilf
  | .nilIface => some .nili
  | _ => none

def ofCells : List Value → Option (List AV)
  | [] => some []
  | v :: vs => match ofCell v, ofCells vs with
    | some a, some as => some (a :: as)
    | _, _ => none

def ofVal : Value → Option AV
  | .agg cs => (ofCells cs.toList).map .agg
  | .tuple cs => (ofCells cs.toList).map .tup
  | .func f as bs => if as.size = 0 ∧ bs.size = 0 then some (.fn f [] []) else none
  | v => ofCell v

def sizeT (P : Program) (t : TypeId) : Option Nat := (P.info? t).map (·.size)
def bytesT (P : Program) (t : TypeId) : Option Nat := (P.info? t).map (·.bytes)
def aggT (P : Program) (t : TypeId) : Option Bool := (P.underlying t).map fun | .struct _ | .array _ _ => true | _ => false
/-- An element's cells and bytes. -/
def elemT (P : Program) (t : TypeId) : Option EZ := (P.info? t).map fun i => ⟨i.size, i.bytes⟩
/-- The cells of a type's zero value. -/
def zeroT (P : Program) (t : TypeId) : Option (List AV) := ((P.info? t).bind (·.zero)).bind fun z => ofCells z.cells.toList

abbrev Env := Operand → Option AV

/-- A struct's, or a lone, value out of its cells. -/
def mkV (agg : Bool) (cs : List AV) : Option AV :=
  if agg then some (.agg cs) else match cs with
    | [v] => some v
    | _ => none

def oneAll (cs : List AV) : Bool := cs.all AV.one

/-- Sums and the like. -/
def intBin (op : BinOp) (k : IntKind) (x y : Int) : Option AV :=
  match op with
  | .add => some (.int k (k.wrap (x + y)))
  | .sub => some (.int k (k.wrap (x - y)))
  | .mul => some (.int k (k.wrap (x * y)))
  | .quo => if y = 0 then none else some (.int k (k.wrap (x.tdiv y)))
  | .rem => if y = 0 then none else some (.int k (x.tmod y))
  | .and => some (.int k (k.wrap (BitVec.ofInt k.bits x &&& BitVec.ofInt k.bits y).toNat))
  | .or => some (.int k (k.wrap (BitVec.ofInt k.bits x ||| BitVec.ofInt k.bits y).toNat))
  | .xor => some (.int k (k.wrap (BitVec.ofInt k.bits x ^^^ BitVec.ofInt k.bits y).toNat))
  | .andNot => some (.int k (k.wrap (BitVec.ofInt k.bits x &&& ~~~ BitVec.ofInt k.bits y).toNat))
  | .eql => some (.bool (x == y))
  | .neq => some (.bool (x != y))
  | .lss => some (.bool (decide (x < y)))
  | .leq => some (.bool (decide (x ≤ y)))
  | .gtr => some (.bool (decide (x > y)))
  | .geq => some (.bool (decide (x ≥ y)))
  | _ => none

def shiftBin (op : BinOp) (k : IntKind) (x y : Int) : Option AV :=
  if y < 0 then none else match op with
    | .shl => some (.int k (k.wrap (x * 2 ^ min y.toNat k.bits)))
    | .shr => some (.int k (x.fdiv (2 ^ min y.toNat k.bits)))
    | _ => none

def strBin (op : BinOp) (x y : List UInt8) : Option AV :=
  match op with
  | .add => if x.length + y.length ≤ 4611686018427387904 then some (.str (x ++ y)) else none
  | .eql => some (.bool (x == y))
  | .neq => some (.bool (!(x == y)))
  | .lss => some (.bool (Op.bytesLess x y))
  | .leq => some (.bool (Op.bytesLess x y || x == y))
  | .gtr => some (.bool (!(Op.bytesLess x y || x == y)))
  | .geq => some (.bool (!Op.bytesLess x y))
  | _ => none

/-- Are two values of a type alike? (scalars, and structs of such) -/
def eqIn (P : Program) : Nat → TypeId → AV → AV → Option Bool
  | 0, _, _, _ => none
  | d + 1, t, x, y =>
    match P.underlying t, x, y with
    | some .bool, .bool a, .bool b => some (a == b)
    | some (.int _), .int k a, .int k' b => if k = k' then some (a == b) else none
    | some .string, .str a, .str b => some (a == b)
    | some (.struct fs), .agg xs, .agg ys =>
      if P.stoodInHeld t then none else
      fs.toList.foldr (fun f r =>
        if f.name = "_" then none else
        match aggT P f.type, sizeT P f.type with
        | some true, some n => match eqIn P d f.type (.agg ((xs.drop f.offset).take n)) (.agg ((ys.drop f.offset).take n)) with
          | some b => match r with
            | some c => some (b && c)
            | none => none
          | none => none
        | some false, _ => match xs[f.offset]?, ys[f.offset]? with
          | some u, some v => match eqIn P d f.type u v with
            | some b => match r with
              | some c => some (b && c)
              | none => none
            | none => none
          | _, _ => none
        | _, _ => none) (some true)
    | _, _, _ => none

def ptrEq : AV → AV → Option Bool
  | .nilp, .nilp => some true
  | .nilp, .ptr .. | .ptr .., .nilp => some false
  | .nilp, .pel _ | .pel _, .nilp => some false
  | .nilf, .nilf => some true
  | .nilf, .fn .. | .fn .., .nilf => some false
  | .nils, .nils => some true
  | .nils, .sl .. | .sl .., .nils => some false
  | .nils, .isl _ (_ :: _) | .isl _ (_ :: _), .nils => some false
  | .nilm, .nilm => some true
  | .nilm, .map _ | .map _, .nilm => some false
  | _, _ => none

def ptrFits (P : Program) (t : TypeId) : AV → Bool
  | .nilp | .ptr .. | .pel .. => match P.underlying t with
    | some (.pointer _) => true
    | _ => false
  | .nilf | .fn .. => match P.underlying t with
    | some (.func _ _ _) => true
    | _ => false
  | .nils | .sl .. | .isl .. => match P.underlying t with
    | some (.slice _) => true
    | _ => false
  | .nilm | .map .. => match P.underlying t with
    | some (.map _ _) => true
    | _ => false
  | _ => false

def isBoolT (P : Program) (t : TypeId) : Bool :=
  match P.underlying t with
  | some .bool => true
  | _ => false

/-- A pointer's type, its element's known. -/
def ptrElem (P : Program) (t : TypeId) : Bool :=
  match P.underlying t with
  | some (.pointer e) => (P.info? e).isSome
  | _ => false

def eqBin (P : Program) (t : TypeId) (x y : AV) : Option Bool :=
  match x, y with
  | .bool a, .bool b => if isBoolT P t then some (a == b) else none
  | .agg xs, .agg ys => if P.eqGuardType P.depth t then none else eqIn P 10000 t (.agg xs) (.agg ys)
  | .ptr n i o, .ptr n' i' o' => if (n = n' ∧ i = i' ∧ o = o') ∧ ptrElem P t = true then some true else none
  | x, y => if ptrFits P t x && ptrFits P t y then ptrEq x y else none

def bin (P : Program) (op : BinOp) (t : TypeId) (x y : AV) : Option AV :=
  match op, x, y with
  | .shl, .int k a, .int _ b => shiftBin .shl k a b
  | .shr, .int k a, .int _ b => shiftBin .shr k a b
  | op, .int k a, .int k' b => if k = k' then intBin op k a b else none
  | op, .str a, .str b => strBin op a b
  | .eql, x, y => (eqBin P t x y).map .bool
  | .neq, x, y => (eqBin P t x y).map fun b => .bool (!b)
  | _, _, _ => none

def un (op : UnOp) (x : AV) : Option AV :=
  match op, x with
  | .neg, .int k n => some (.int k (k.wrap (0 - n)))
  | .not, .bool b => some (.bool (!b))
  | _, _ => none

/-- A field's place. -/
def fieldOff (P : Program) (s : TypeId) (f : Nat) : Option (TypeId × Nat) :=
  match P.underlying s with
  | some (.struct fs) => (fs[f]?).map fun x => (x.type, x.offset)
  | _ => none

/-- A field's value out of a struct's cells. -/
def partV (P : Program) (t : TypeId) (cs : List AV) (off : Nat) : Option AV :=
  match aggT P t, sizeT P t with
  | some true, some n => some (.agg ((cs.drop off).take n))
  | some false, _ => cs[off]?
  | _, _ => none

def fieldAt (P : Program) (s : TypeId) (x : AV) (f : Nat) : Option AV :=
  match fieldOff P s f with
  | some (t, off) => if sizeT P t = some 0 ∨ sizeT P t = none then none else match x with
    | .ptr n i o => some (.ptr n i (o + off))
    | .pel cs => if off ≤ cs.length then some (.pel (cs.drop off)) else none
    | _ => none
  | none => none

def asI : AV → Option Int
  | .int _ n => some n
  | _ => none

def indexAt (P : Program) (t : TypeId) (x ix : AV) : Option AV :=
  match P.underlying t, asI ix with
  | some (.array len e), some i => match sizeT P e with
    | some z => if 0 ≤ i ∧ i < len then match x with
      | .ptr n j o => some (.ptr n j (o + i.toNat * z))
      | .pel cs => if i.toNat * z ≤ cs.length then some (.pel (cs.drop (i.toNat * z))) else none
      | _ => none
      else none
    | none => none
  | some (.slice e), some i => match elemT P e with
    | some z => match x with
      | .sl y n j len _ => if 0 ≤ i ∧ i < len ∧ y = z then some (.ptr n (j + i.toNat) 0) else none
      | .isl w es => if 0 ≤ i ∧ w = z then (es[i.toNat]?).map .pel else none
      | _ => none
    | none => none
  | _, _ => none

def indexV (P : Program) (t : TypeId) (x ix : AV) : Option AV :=
  match P.underlying t, x, asI ix with
  | some (.array len e), .agg cs, some i => match sizeT P e with
    | some z => if 0 ≤ i ∧ i < len then partV P e cs (i.toNat * z) else none
    | none => none
  | some .string, .str s, some i => if 0 ≤ i then (s[i.toNat]?).map fun b => .int .u8 b.toNat else none
  | _, _, _ => none

/-- Bounds of a piece: from, up to, room. -/
def bounds (len cap : Nat) (lo hi mx : Option AV) : Option (Nat × Nat × Nat) :=
  let m : Option Nat := match mx with
    | none => some cap
    | some v => (asI v).bind fun i => if 0 ≤ i ∧ i ≤ cap then some i.toNat else none
  m.bind fun m =>
    let h : Option Nat := match hi with
      | none => if mx.isSome then none else some len
      | some v => (asI v).bind fun i => if 0 ≤ i ∧ i ≤ m then some i.toNat else none
    h.bind fun h =>
      let l : Option Nat := match lo with
        | none => some 0
        | some v => (asI v).bind fun i => if 0 ≤ i ∧ i ≤ h then some i.toNat else none
      l.map fun l => (l, h, m)

def sliceV (P : Program) (t : TypeId) (x : AV) (lo hi mx : Option AV) : Option AV :=
  match P.underlying t, x with
  | some .string, .str s => if mx.isSome then none else
    (bounds s.length s.length lo hi none).map fun (l, h, _) => .str ((s.drop l).take (h - l))
  | some (.slice e), .sl y n j len cap => if elemT P e = some y then match mx with
    | none => (bounds len cap lo hi none).map fun (l, h, _) => if cap - l = 0 ∧ l ≠ 0 then .isl y [] else .sl y n (j + l) (h - l) (cap - l)
    | some _ => (bounds len cap lo hi mx).map fun (l, _, m) => if m = l then .zsl else .any
    else none
  | some (.slice e), .isl w es => if elemT P e = some w then match mx with
    | none => (bounds es.length es.length lo hi none).map fun (l, h, _) => .isl w ((es.drop l).take (h - l))
    | some _ => (bounds es.length es.length lo hi mx).map fun (l, _, m) => if m = l then .zsl else .any
    else none
  | some (.slice e), .nils => if (sizeT P e).isSome then (bounds 0 0 lo hi mx).map fun _ => .nils else none
  | some (.slice e), .zsl => if (sizeT P e).isSome then (bounds 0 0 lo hi mx).map fun _ => .zsl else none
  | _, _ => none

def M.orFail {α : Type} (c : Bool) (m : M X α) : M X α := if c then m else M.fail

/-- Elements of a row that is made. -/
def fillEls (z : Nat) (es : List (List AV)) : List (Nat × AV) → Option (List (List AV))
  | [] => some es
  | (i, v) :: rest => if v.cells.length = z ∧ i < es.length ∧ oneAll v.cells = true then fillEls z (es.set i v.cells) rest else none

def fillCells (place : Nat → Option (Nat × Nat)) (cs : List AV) : List (Nat × AV) → Option (List AV)
  | [] => some cs
  | (i, v) :: rest => match place i with
    | none => none
    | some (off, size) => if v.cells.length = size ∧ off + v.cells.length ≤ cs.length ∧ oneAll v.cells = true then fillCells place (splice cs off v.cells) rest else none

def envs (ρ : Env) : List (Nat × Operand) → Option (List (Nat × AV))
  | [] => some []
  | (i, x) :: r => match ρ x, envs ρ r with
    | some v, some vs => some ((i, v) :: vs)
    | _, _ => none

def envL (ρ : Env) : List Operand → Option (List AV)
  | [] => some []
  | x :: r => match ρ x, envL ρ r with
    | some v, some vs => some (v :: vs)
    | _, _ => none

def structPlaces (P : Program) (fs : List Field) : Nat → Option (Nat × Nat) := fun i => (fs[i]?).bind fun f => (sizeT P f.type).map fun n => (f.offset, n)

def buildV (P : Program) (t : TypeId) (parts : List (Nat × AV)) : Option AV :=
  match zeroT P t, P.underlying t with
  | some z, some (.struct fs) => if fs.toList.all fun f => (sizeT P f.type).isSome then (fillCells (structPlaces P fs.toList) z parts).map .agg else none
  | some z, some (.array _ e) => match sizeT P e with
    | some n => (fillCells (fun i => some (i * n, n)) z parts).map .agg
    | none => none
  | _, _ => none

/-- The cells behind an address. -/
def loadP (P : Program) (t : TypeId) (a : AV) : M X AV :=
  match aggT P t, sizeT P t with
  | some g, some z =>
    let k := if g then z else 1
    match a with
    | .ptr n i o => (M.rdC n i o k).bind fun cs => M.lift (mkV g cs)
    | .pel cs => if k ≤ cs.length then M.lift (mkV g (cs.take k)) else M.fail
    | _ => M.fail
  | _, _ => M.fail

def storeP (P : Program) (t : TypeId) (a v : AV) : M X AV :=
  match sizeT P t with
  | some z => if v.cells.length = z ∧ oneAll v.cells = true then match a with
    | .ptr n i o => (M.wrC n i o v.cells).bind fun _ => M.pure .undef
    | _ => M.fail
    else M.fail
  | none => M.fail

def convV (P : Program) (src dst : TypeId) (x : Option AV) : Option AV :=
  match P.underlying src, P.underlying dst, x with
  | some _, some (.int k), some (.int _ n) => some (.int k (k.wrap n))
  | some _, some .string, some (.str s) => some (.str s)
  | _, _, _ => none

def optE (ρ : Env) : Option Operand → Option (Option AV)
  | none => some none
  | some x => (ρ x).map some

/-- The operations that neither call nor append. -/
def plainOp (P : Program) (ρ : Env) (op : Op) : M X AV :=
  match op with
  | .move x | .assign x => M.lift (ρ x)
  | .pick c a b => match ρ c with
    | some (.bool t) => M.lift (if t then ρ a else ρ b)
    | _ => M.fail
  | .alloc e => match zeroT P e with
    | some z => (M.new (.arr e [z])).bind fun n => M.pure (.ptr n 0 0)
    | none => M.fail
  | .box e x => match ρ x with
    | some v => if oneAll v.cells then (M.new (.arr e [v.cells])).bind fun n => M.pure (.ptr n 0 0) else M.fail
    | none => M.fail
  | .build t ps => match envs ρ ps.toList with
    | some ps => M.lift (buildV P t ps)
    | none => M.fail
  | .buildSlice t len ps => match P.underlying t, envs ρ ps.toList with
    | some (.slice e), some ps => match elemT P e, zeroT P e with
      | some z, some zs => if zs.length = z.z ∧ 0 < z.z ∧ len * z.z ≤ 16777216 ∧ len * z.by_ ≤ 281474976710656 then match fillEls z.z (List.replicate len zs) ps with
        | some es => if oneAll es.flatten then (M.new (.arr e es)).bind fun n => M.pure (.sl z n 0 len len) else M.fail
        | none => M.fail
        else M.fail
      | _, _ => M.fail
    | _, _ => M.fail
  | .load t a => match ρ a with
    | some a => loadP P t a
    | none => M.fail
  | .store t a v => match ρ a, ρ v with
    | some a, some v => storeP P t a v
    | _, _ => M.fail
  | .nilCheck x => match ρ x with
    | some (.ptr n i o) => M.pure (.ptr n i o)
    | some (.pel cs) => M.pure (.pel cs)
    | _ => M.fail
  | .binOp op t x y _ => match ρ x, ρ y with
    | some a, some b => M.lift (bin P op t a b)
    | _, _ => M.fail
  | .unOp op _ x => match ρ x with
    | some a => M.lift (un op a)
    | none => M.fail
  | .convert src dst x => M.lift (convV P src dst (ρ x))
  | .makeFunc f as bs => match envL ρ as.toList, envL ρ bs.toList with
    | some as, some bs => M.pure (.fn f as bs)
    | _, _ => M.fail
  | .makeMap _ none => (M.new (.map [])).bind fun n => M.pure (.map n)
  | .slice t x lo hi mx => M.lift (match ρ x, optE ρ lo, optE ρ hi, optE ρ mx with
    | some a, some lo, some hi, some mx => sliceV P t a lo hi mx
    | _, _, _, _ => none)
  | .fieldAddr s x f => match ρ x with
    | some a => M.lift (fieldAt P s a f)
    | none => M.fail
  | .field t x f => M.lift (match ρ x, fieldOff P t f with
    | some (.agg cs), some (ft, off) => partV P ft cs off
    | _, _ => none)
  | .indexAddr t x ix => match ρ x, ρ ix with
    | some a, some i => M.lift (indexAt P t a i)
    | _, _ => M.fail
  | .index t x ix => match ρ x, ρ ix with
    | some a, some i => M.lift (indexV P t a i)
    | _, _ => M.fail
  | .extract x i => match ρ x with
    | some (.tup vs) => M.lift vs[i]?
    | _ => M.fail
  | _ => M.fail

end Go.Abs
