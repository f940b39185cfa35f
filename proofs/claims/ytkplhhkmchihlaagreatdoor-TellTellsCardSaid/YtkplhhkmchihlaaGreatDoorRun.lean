/- The abstract run of the model's code. -/
import Derived.Test.YtkplhhkmchihlaaGreatDoorMore2
import Derived.Orders
namespace Go.Abs
variable {X : Type}

/-- A function's places. -/
abbrev Slots := T AV

def evalA (G : Nat → Option AV) (s : Slots) : Operand → Option AV
  | .tmp t => s.get t
  | .const v => ofVal v
  | .global g => G g
  | .func f => some (.fn (.func f) [] [])

def putA (s : Slots) : Option Tmp → AV → Slots
  | some d, v => match s.get d with
    | some _ => s.set d v
    | none => s
  | none, _ => s

def lenP (P : Program) (t : TypeId) (x : AV) : M X AV :=
  match P.underlying t, x with
  | some .string, .str s => M.pure (goI s.length)
  | some (.slice _), .sl _ _ _ len _ => M.pure (goI len)
  | some (.slice _), .isl _ es => M.pure (goI es.length)
  | some (.slice _), .nils => M.pure (goI 0)
  | some (.slice _), .zsl => M.pure (goI 0)
  | some (.array n _), _ => M.pure (goI n)
  | some (.map _ _), .nilm => M.pure (goI 0)
  | some (.map _ _), .map n => (M.rdO n).bind fun o => M.lift (match o with
    | .map es => some (goI es.length)
    | _ => none)
  | _, _ => M.fail

def maxL : AV → List AV → Option AV
  | x, [] => some x
  | .int k x, .int _ y :: r => maxL (.int k (if y > x then y else x)) r
  | _, _ => none
def minL : AV → List AV → Option AV
  | x, [] => some x
  | .int k x, .int _ y :: r => minL (.int k (if y < x then y else x)) r
  | _, _ => none

def clearP (P : Program) (t : TypeId) (x : AV) : M X AV :=
  match P.underlying t with
  | some (.slice e) => match elemT P e, zeroT P e with
    | some z, some zs => match x with
      | .nils => M.pure .undef
      | .zsl => M.pure .undef
      | .isl _ [] => M.pure .undef
      | .sl y n j len _ => if len = 0 then M.pure .undef else if y = z ∧ zs.length = z.z ∧ 0 < z.z ∧ oneAll (List.replicate len zs).flatten = true then (M.rdO n).bind fun (o : AObj X) => match o with
          | .arr t' es => if j + len ≤ es.length then (M.wrO n (.arr t' (splice es j (List.replicate len zs)))).bind fun _ => M.pure .undef else M.fail
          | _ => M.fail
        else M.fail
      | _ => M.fail
    | _, _ => M.fail
  | _ => M.fail

def builtinP (P : Program) (b : Builtin) (ts : List TypeId) (xs : List AV) : M X AV :=
  match b, ts, xs with
  | .len, t :: _, x :: _ => lenP P t x
  | .append, [t, u], [s, x] => appendP P t u s x
  | .clear, t :: _, [x] => clearP P t x
  | .delete, t :: _, [m, k] => (deleteP P t m k)
  | .copy, [t, u], [d, s] => copyP P t u d s
  | .unsafeSliceData, _, [x] => M.lift (dataP x)
  | .unsafeString, [t, _], [p, l] => unsafeStrP P t p l
  | .max, _, x :: r => M.lift (maxL x r)
  | .min, _, x :: r => M.lift (minL x r)
  | _, _, _ => M.fail

inductive XE where
  | normal
  | exit (id : Nat)
  | ret

def XE.out : XE → Exit
  | .normal => .normal
  | .exit i => .exit i
  | .ret => .ret

/-- Did the operation yield true or false? -/
def yieldA (ops : Array Oper) (s : Slots) (j : Nat) : Option (Option Bool) :=
  match (ops[j]?).bind (·.dst) with
  | none => some none
  | some d => match s.get d with
    | some (.bool b) => some (some b)
    | some .any => none
    | some _ => some none
    | none => none

def wantA (ops : Array Oper) (s : Slots) (o : Oper) : Option Bool :=
  match o.guard with
  | none => some true
  | some (j, want) => (yieldA ops s j).map (· == some want)

/-- What a run is about: the program, what is known of its variables, how often a loop may go round. -/
structure Cfg where
  P : Program
  G : Nat → Option AV
  fuel : Nat
  raw : Nat → Option (Array Value) := fun _ => none

/-- One operation. -/
def operA (E : Cfg) (call : AV → List AV → M X AV) (o : Oper) (ρ : Env) : M X AV :=
  match o.op with
  | .call c => match envL ρ c.args.toList with
    | none => M.fail
    | some xs => match c.callee with
      | .builtin b => builtinP E.P b c.argTypes.toList xs
      | .value f => match ρ f with
        | some g => call g xs
        | none => M.fail
      | .invoke .. => M.fail
  | .lookup t m k ok => match ρ m, ρ k with
    | some m, some k => lookupP E.P t m k ok
    | _, _ => M.fail
  | .mapUpdate t m k x => match ρ m, ρ k, ρ x with
    | some m, some k, some x => updateP E.P t m k x
    | _, _, _ => M.fail
  | .convert src dst x => match ρ x with
    | some a => convertP E.P src dst a
    | none => M.fail
  | .makeSlice t l c => match ρ l, ρ c with
    | some l, some c => makeP E.P t l c
    | _, _ => M.fail
  | op => plainOp E.P ρ op

/-- The operations in the order of the text. -/
def opsA (E : Cfg) (call : AV → List AV → M X AV) (ops : Array Oper) : List Oper → Slots → M X Slots
  | [], s => M.pure s
  | o :: r, s => match wantA ops s o with
    | none => M.fail
    | some false => opsA E call ops r (putA s o.dst .undef)
    | some true => (operA E call o (evalA E.G s)).bind fun v => opsA E call ops r (putA s o.dst v)

/-- Likewise, with what each of them did. -/
def drawA (E : Cfg) (call : AV → List AV → M X AV) (ops : Array Oper) : List Oper → Slots → Heap X → Nat → Option (Slots × Heap X × Nat × List (List (Act X)))
  | [], s, H, c => some (s, H, c, [])
  | o :: r, s, H, c => match wantA ops s o with
    | none => none
    | some false => match drawA E call ops r (putA s o.dst .undef) H c with
      | none => none
      | some (s', H', c', ls) => some (s', H', c', [] :: ls)
    | some true => match operA E call o (evalA E.G s) true H c with
      | none => none
      | some (v, H1, c1, l1) => match drawA E call ops r (putA s o.dst v) H1 c1 with
        | none => none
        | some (s', H', c', ls) => some (s', H', c', l1 :: ls)

/-- Is `b` never ahead of the operation of number `i`? -/
def behind (i : Nat) (b : Oper) : Bool := b.after.any fun e => e.on == i && Region.binds .any e

/-- May an operation and those behind it change places, where nothing bids their order? -/
def freeOf (ops : Array Oper) (i : Nat) (a : Oper) (l : List (Act X)) : List Oper → List (List (Act X)) → Bool
  | b :: bs, k :: ks => (behind i b || (a.apart ops b && indepL l k)) && freeOf ops i a l bs ks
  | _, _ => true

def freeAll (ops : Array Oper) : Nat → List Oper → List (List (Act X)) → Bool
  | i, a :: as, l :: ls => (a.after.all fun e => !Region.binds .any e || decide (e.on < i)) && (freeOf ops i a l as ls && freeAll ops (i + 1) as ls)
  | _, _, _ => true

/-- A region whose order is drawn. -/
def drawnA (E : Cfg) (call : AV → List AV → M X AV) (ops : Array Oper) (s : Slots) : M X Slots := fun b H c =>
  match drawA E call ops ops.toList s H c with
  | none => none
  | some (s', H', c', ls) => if freeAll ops 0 ops.toList ls then some (s', H', c', if b then ls.flatten else []) else none

/-- A frame: its places, and the marks among its deferred calls. -/
structure Fr where
  s : Slots
  ds : List Nat

def loopA (f : Fr → M X (XE × Fr)) : Nat → Fr → M X (XE × Fr)
  | 0, _ => M.fail
  | n + 1, s => (f s).bind fun r => match r.1 with
    | .normal => loopA f n r.2
    | e => M.pure (e, r.2)

/-- All places of a frame. -/
def allSlots (s : Slots) (n : Nat) : List AV := (List.range n).map fun i => (s.get i).getD .any

/-- The block for a loop's deferred calls, and its mark. -/
def blockA (ro : Option Nat) : M X (Nat × List Nat) :=
  match ro with
  | some l => (M.rdO l).bind fun (o : AObj X) => M.lift (match o with
    | AObj.loop r => some (r.defers, [])
    | _ => none)
  | none => (M.new .defs).bind fun d => M.pure (d, [d])

def jumpE : Option Code → Option XE
  | none => some .normal
  | some .ret => some .ret
  | some (.exit i) => some (.exit i)
  | _ => none

def rangeA (call : AV → List AV → M X AV) (fn : FuncId) (ro : Option Nat) (nt : Nat) (g : AV) (ps : Array Tmp) (asg body : Code) (s : Fr) : M X (XE × Fr) :=
  (blockA ro).bind fun d =>
  (M.new (.loop { state := .ready, pending := none, fn := fn, tmps := allSlots s.s nt, params := ps, assign := asg, body := body, defers := d.1 })).bind fun l =>
  (call g [.fn (.yield l) [] []]).bind fun _ =>
  (M.rdO l).bind fun (o : AObj X) => match o with
    | .loop r => if r.state == LoopState.busy then M.fail else (M.wrO l (.loop { r with state := .exhausted })).bind fun _ => M.lift ((jumpE r.pending).map fun e => (e, ⟨s.s, d.2 ++ s.ds⟩))
    | _ => M.fail

def codeA (E : Cfg) (call : AV → List AV → M X AV) (fn : FuncId) (ro : Option Nat) (nt : Nat) : Code → Fr → M X (XE × Fr)
  | .skip, s => M.pure (.normal, s)
  | .label _, s => M.pure (.normal, s)
  | .region _ ops draw, s => (if draw then drawnA E call ops s.s else opsA E call ops ops.toList s.s).bind fun s' => M.pure (.normal, ⟨s', s.ds⟩)
  | .seq a b, s => (codeA E call fn ro nt a s).bind fun r => match r.1 with
    | .normal => codeA E call fn ro nt b r.2
    | e => M.pure (e, r.2)
  | .cond c a b, s => match evalA E.G s.s c with
    | some (.bool true) => codeA E call fn ro nt a s
    | some (.bool false) => codeA E call fn ro nt b s
    | _ => M.fail
  | .block id c, s => (codeA E call fn ro nt c s).bind fun r => match r.1 with
    | .exit i => M.pure (if i = id then .normal else .exit i, r.2)
    | e => M.pure (e, r.2)
  | .loop c, s => loopA (codeA E call fn ro nt c) E.fuel s
  | .exit id, s => M.pure (.exit id, s)
  | .ret, s => M.pure (.ret, s)
  | .scope c, s => codeA E call fn ro nt c s
  | .rangeFunc _ _ _ _, _ => M.fail
  | .goto _, _ => M.fail
  | .refuse _, _ => M.fail

def fillS : List AV → Nat → Slots → Slots
  | [], _, s => s
  | v :: vs, i, s => fillS vs (i + 1) (s.set i v)

def slotsOf (xs : List AV) (n : Nat) : Slots := fillS (xs ++ List.replicate (n - xs.length) AV.undef) 0 .leaf

def resultA (P : Program) (s : Slots) : ResultVar → M X AV
  | .tmp t => M.lift (s.get t)
  | .cell a t => match s.get a with
    | some p => loadP P t p
    | none => M.fail

def resultsA (P : Program) (s : Slots) : List ResultVar → M X (List AV)
  | [] => M.pure []
  | r :: rs => (resultA P s r).bind fun v => (resultsA P s rs).bind fun vs => M.pure (v :: vs)

def packA : List AV → AV
  | [v] => v
  | vs => .tup vs

/-- The marks are taken. -/
def marksA : List Nat → M X Unit
  | [] => M.pure ()
  | d :: ds => (M.rdO d).bind fun (o : AObj X) => match o with
    | .defs => (M.del d).bind fun _ => marksA ds
    | _ => M.fail

/-- A function's body. -/
def bodyA (E : Cfg) (call : AV → List AV → M X AV) (f : FuncId) (args : List AV) : M X AV :=
  match E.P.funcs[f]? with
  | none => M.fail
  | some fn => match fn.body with
    | none => M.fail
    | some body => if args.length ≤ fn.ntmps then (codeA E call f none fn.ntmps body ⟨slotsOf args fn.ntmps, []⟩).bind fun r => match r.1 with
      | .exit _ => M.fail
      | _ => match r.2.ds with
        | [] => (resultsA E.P r.2.s fn.results.toList).bind fun vs => M.pure (packA vs)
        | _ => M.fail
      else M.fail

def setParams : List Tmp → List AV → Slots → Slots
  | t :: ts, v :: vs, s => setParams ts vs (s.set t v)
  | _, _, s => s

/-- What is done to a round's record. -/
def setRound (l : Nat) (f : ALoop → Option ALoop) : M X Unit :=
  (M.rdO l).bind fun (o : AObj X) => match o with
    | .loop r => match f r with
      | some r' => M.wrO l (.loop r')
      | none => M.fail
    | _ => M.fail

def toBusy (r : ALoop) : Option ALoop := if r.state == LoopState.ready then some { r with state := .busy } else none

/-- One round of a range over a function. -/
def roundA (E : Cfg) (call : AV → List AV → M X AV) (l : Nat) (args : List AV) : M X AV :=
  (M.rdO l).bind fun (o : AObj X) => match o with
    | .loop r => if args.length == r.params.size then
      (codeA E call r.fn (some l) r.tmps.length r.assign ⟨setParams r.params.toList args (fillS r.tmps 0 .leaf), []⟩).bind fun q => match q.1 with
      | .normal => (setRound l toBusy).bind fun _ =>
          (codeA E call r.fn (some l) r.tmps.length r.body q.2).bind fun q => match q.1 with
            | .normal => (setRound l fun r => some { r with state := .ready, pending := none }).bind fun _ => M.pure (.bool true)
            | .ret => (setRound l fun r => some { r with state := .done, pending := some .ret }).bind fun _ => M.pure (.bool false)
            | .exit i => (setRound l fun r => some { r with state := .done, pending := some (.exit i) }).bind fun _ => M.pure (.bool false)
      | _ => M.fail
      else M.fail
    | _ => M.fail

/-- A call: what is known of the function, or its body. -/
def callA (E : Cfg) (O : FuncId → Option (List AV → M X AV)) : Nat → AV → List AV → M X AV
  | 0, _, _ => M.fail
  | d + 1, .fn (.func f) first cap, xs => match O f with
    | some m => m (first ++ xs ++ cap)
    | none => bodyA E (callA E O d) f (first ++ xs ++ cap)
  | _ + 1, _, _ => M.fail

end Go.Abs
