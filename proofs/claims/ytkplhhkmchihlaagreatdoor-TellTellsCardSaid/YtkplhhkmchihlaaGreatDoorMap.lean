/- Maps, in the abstract run. -/
import Derived.Test.YtkplhhkmchihlaaGreatDoorApp3
namespace Go.Abs
variable {X : Type} {R : Rep X} {P : Program} {φ : Names} {F S : Nat → Prop} {H : Heap X}

def zeroV (P : Program) (t : TypeId) : Option AV := ((P.info? t).bind (·.zero)).bind ofVal

def scalarT (P : Program) (t : TypeId) : Bool :=
  match P.underlying t with
  | some .bool | some (.int _) | some .string => true
  | _ => false

/-- May it be a key? (a scalar, or a struct of such) -/
def keyOk (P : Program) (t : TypeId) (k : AV) : Bool :=
  match P.underlying t, k with
  | some .bool, .bool _ | some (.int _), .int _ _ | some .string, .str _ => true
  | some (.struct fs), .agg cs => fs.toList.all fun f => f.name ≠ "_" && scalarT P f.type && (cs[f.offset]?).isSome
  | _, _ => false

/-- Where a key is. -/
def findK (P : Program) (t : TypeId) (k : AV) : List (AV × AV) → Nat → Option (Option (Nat × AV))
  | [], _ => some none
  | e :: es, i => match eqIn P 10000 t k e.1 with
    | some true => some (some (i, e.2))
    | some false => findK P t k es (i + 1)
    | none => none

def lookupP (P : Program) (t : TypeId) (m k : AV) (ok : Bool) : M X AV :=
  match P.underlying t with
  | some (.map kt et) => match zeroV P et with
    | some z => if keyOk P kt k then match m with
      | .nilm => M.pure (if ok then .tup [z, .bool false] else z)
      | .map n => (M.rdO n).bind fun o => M.lift (match o with
        | .map es => match findK P kt k es 0 with
          | some (some (_, v)) => some (if ok then .tup [v, .bool true] else v)
          | some none => some (if ok then .tup [z, .bool false] else z)
          | none => none
        | _ => none)
      | _ => M.fail
      else M.fail
    | none => M.fail
  | _ => M.fail

/-- Are two plain values the same bit for bit? -/
def sameK1 : AV → AV → Bool
  | .bool x, .bool y => x == y
  | .int j x, .int k y => j == k && x == y
  | .str x, .str y => x == y
  | _, _ => false

/-- Are two keys that are alike the same bit for bit? -/
def sameK : AV → AV → Bool
  | .agg a, .agg b => a.length == b.length && (a.zip b).all fun p => sameK1 p.1 p.2
  | a, b => sameK1 a b

def updateP (P : Program) (t : TypeId) (m k v : AV) : M X AV :=
  match P.underlying t with
  | some (.map kt _) => if keyOk P kt k then match m with
    | .map n => (M.rdO n).bind fun o => match o with
      | .map es => match findK P kt k es 0 with
        | some (some (i, _)) => match es[i]? with
          | some e => if sameK e.1 k then (M.wrO n (.map (es.set i (k, v)))).bind fun _ => M.pure .undef else M.fail
          | none => M.fail
        | some none => (M.wrO n (.map (es ++ [(k, v)]))).bind fun _ => M.pure .undef
        | none => M.fail
      | _ => M.fail
    | _ => M.fail
    else M.fail
  | _ => M.fail

def deleteP (P : Program) (t : TypeId) (m k : AV) : M X AV :=
  match P.underlying t with
  | some (.map kt _) => if keyOk P kt k then match m with
    | .nilm => M.pure .undef
    | .map n => (M.rdO n).bind fun o => match o with
      | .map es => match findK P kt k es 0 with
        | some (some (i, _)) => (M.wrO n (.map (es.eraseIdx i))).bind fun _ => M.pure .undef
        | some none => (M.wrO n (.map es)).bind fun _ => M.pure .undef
        | none => M.fail
      | _ => M.fail
    | _ => M.fail
    else M.fail
  | _ => M.fail

/-! ### Met -/

theorem zeroV_ok {t : TypeId} {z : AV} (w : World) (h : zeroV P t = some z) : ∃ v, (zeroValue t).run P w = .ok v w ∧ ∀ (φ : Names) (S : Nat → Prop) (hp : Array Obj), VRel φ S hp z v := by
  unfold zeroV at h
  cases hi : P.info? t with
  | none => simp [hi] at h
  | some i =>
    cases hz : i.zero with
    | none => simp [hi, hz] at h
    | some v =>
      simp [hi, hz] at h
      exact ⟨v, by simp [zeroValue, run_info w hi, hz], fun φ S hp => ofVal_rel h⟩

theorem checkKey_scalar {d : Nat} {t : TypeId} {v : Value} (w : World) (h : scalarT P t = true) (e : Bool) : (Instr.checkKey e (d + 1) t v).run P w = .ok () w := by
  unfold scalarT at h
  cases hq : P.underlying t with
  | none => simp [hq] at h
  | some d => cases d <;> simp [hq] at h <;> cases v <;> simp [Instr.checkKey, run_und w hq]

theorem checkKey_any {d : Nat} {h : Array Obj} {t : TypeId} {k : AV} {vk : Value} (w : World) (hk : keyOk P t k = true) (hv : VRel φ S h k vk) (e : Bool) : (Instr.checkKey e (d + 2) t vk).run P w = .ok () w := by
  unfold keyOk at hk
  cases hu : P.underlying t with
  | none => simp [hu] at hk
  | some dd =>
    cases dd with
    | bool => exact checkKey_scalar w (by simp [scalarT, hu]) e
    | int q => exact checkKey_scalar w (by simp [scalarT, hu]) e
    | string => exact checkKey_scalar w (by simp [scalarT, hu]) e
    | struct fs =>
      cases hv with
      | agg hvs =>
        rename_i cs vs
        simp only [hu, List.all_eq_true, Bool.and_eq_true, decide_eq_true_eq] at hk
        rw [Instr.checkKey]
        simp only [Sem.run_bind, run_und w hu, Result.andThen_ok]
        rw [← Array.forIn_toList]
        generalize fs.toList = l at hk
        induction l with
        | nil => simp
        | cons f l ih =>
          have hf := hk f (by simp)
          obtain ⟨⟨h1, h2⟩, h3⟩ := hf
          obtain ⟨u, hu3⟩ := Option.isSome_iff_exists.1 h3
          have hagg : aggT P f.type = some false := by
            unfold scalarT at h2
            unfold aggT
            cases hq : P.underlying f.type with
            | none => simp [hq] at h2
            | some d => cases d <;> simp [hq] at h2 ⊢
          obtain ⟨v', p1, p2⟩ := part_ok (P := P) w (t := f.type) (cs := cs) (off := f.offset) (v := u) (by simp [partV, hagg, hu3]) hvs
          have hchk : (Instr.checkKey e (d + 1) f.type v').run P w = .ok () w := checkKey_scalar w h2 e
          simp only [List.forIn_cons, Sem.run_bind]
          rw [if_pos h1]
          simp only [Sem.run_bind, p1, Result.andThen_ok, hchk, Sem.run_pure]
          exact ih fun g hg => hk g (by simp [hg])
      | _ => simp [hu] at hk
    | _ => simp [hu] at hk

theorem keyOk_ok {h : Array Obj} {t : TypeId} {k : AV} {vk : Value} (w : World) (hk : keyOk P t k = true) (hv : VRel φ S h k vk) (e : Bool) : (Instr.checkKey e 10000 t vk).run P w = .ok () w :=
  checkKey_any (d := 9998) w hk hv e

theorem sameNow_ok {d : Nat} {h : Array Obj} {t : TypeId} {dd : TypeDesc} (hu : P.underlying t = some dd) (hd : scalarT P t = true) {k x : AV} {vk vx : Value} (hk : VRel φ S h k vk) (hx : VRel φ S h x vx) {b : Bool}
    (hb : eqIn P (d + 1) t k x = some b) : Instr.sameNow dd vk vx = some b := by
  simp only [eqIn, hu] at hb
  unfold scalarT at hd
  rw [hu] at hd
  cases dd with
  | bool =>
    cases hk <;> cases hx <;> simp at hb
    simpa [Instr.sameNow] using hb
  | int q =>
    cases hk <;> cases hx <;> simp at hb
    obtain ⟨h1, h2⟩ := hb
    subst h1
    simpa [Instr.sameNow] using h2
  | string =>
    cases hk <;> cases hx <;> simp at hb
    rename_i a c
    simp only [Instr.sameNow, Option.some.injEq]
    rw [beq_toListBytes, ByteArray.toList_eq, ByteArray.toList_eq]
    simpa using hb
  | _ => simp at hd

theorem entries_cons {h : Array Obj} {e : AV × AV} {es : List (AV × AV)} {es' : List MapEntry} (hr : VRels φ S h (flatPairs (e :: es)) (flatEntries es')) :
    ∃ m ms, es' = m :: ms ∧ VRel φ S h e.1 m.key ∧ VRel φ S h e.2 m.val ∧ VRels φ S h (flatPairs es) (flatEntries ms) := by
  cases es' with
  | nil => simp [flatPairs, flatEntries] at hr; cases hr
  | cons m ms =>
    simp only [flatPairs, flatEntries, List.flatMap_cons, List.cons_append, List.nil_append] at hr
    cases hr with
    | cons h1 hr => cases hr with
      | cons h2 hr => exact ⟨m, ms, rfl, h1, h2, hr⟩

theorem entries_nil {h : Array Obj} {es' : List MapEntry} (hr : VRels φ S h (flatPairs []) (flatEntries es')) : es' = [] := by
  cases es' with
  | nil => rfl
  | cons m ms => simp [flatPairs, flatEntries] at hr; cases hr

def FoundRel (P : Program) (φ : Names) (S : Nat → Prop) (h : Array Obj) (t : TypeId) (k : AV) (es : List (AV × AV)) (es' : List MapEntry) (i : Nat) : Option (Nat × AV) → Option (Nat × Value) → Prop
  | none, none => True
  | some (a, x), some (b, y) => a = b ∧ VRel φ S h x y ∧ i ≤ a ∧ a < i + es.length ∧ ∃ e e', es[a - i]? = some e ∧ es'[a - i]? = some e' ∧ eqIn P 10000 t k e.1 = some true
  | _, _ => False

theorem findAsking_ok {h : Array Obj} {t : TypeId} {k : AV} {vk : Value} (w : World) (hk : VRel φ S h k vk) : ∀ {es : List (AV × AV)} {es' : List MapEntry} {i : Nat} {r : Option (Nat × AV)}, findK P t k es i = some r → VRels φ S h (flatPairs es) (flatEntries es') →
    ∃ r', (Instr.findAsking t vk es' i).run P w = .ok r' w ∧ FoundRel P φ S h t k es es' i r r'
  | [], es', i, r, hf, hr => by
    have := entries_nil hr; subst this
    simp [findK] at hf; subst hf
    exact ⟨none, by simp [Instr.findAsking], trivial⟩
  | e :: es, es', i, r, hf, hr => by
    obtain ⟨m, ms, rfl, h1, h2, h3⟩ := entries_cons hr
    simp only [findK] at hf
    split at hf
    · rename_i he
      simp at hf; subst hf
      have := eqIn_ok (P := P) 10000 w he hk h1
      exact ⟨some (i, m.val), by simp [Instr.findAsking, Op.equal, Op.maxDepth, this], rfl, h2, Nat.le_refl _, by simp, e, m, by simp, by simp, he⟩
    · rename_i he
      have := eqIn_ok (P := P) 10000 w he hk h1
      obtain ⟨r', p1, p2⟩ := findAsking_ok w hk hf h3
      refine ⟨r', by simp [Instr.findAsking, Op.equal, Op.maxDepth, this, p1], ?_⟩
      cases r with
      | none => cases r' <;> exact p2
      | some q =>
        obtain ⟨a, x⟩ := q
        cases r' with
        | none => exact p2
        | some q' =>
          obtain ⟨b, y⟩ := q'
          obtain ⟨g1, g2, g3, g4, e0, e1, g5, g6, g7⟩ := p2
          refine ⟨g1, g2, by omega, by simp; omega, e0, e1, ?_, ?_, g7⟩
          · rw [show a - i = (a - (i + 1)) + 1 by omega]; simpa using g5
          · rw [show a - i = (a - (i + 1)) + 1 by omega]; simpa using g6
    · cases hf

theorem findNow_ok {h : Array Obj} {t : TypeId} {d : TypeDesc} (hu : P.underlying t = some d) (hd : scalarT P t = true) {k : AV} {vk : Value} (hk : VRel φ S h k vk) (w : World) : ∀ {es : List (AV × AV)} {es' : List MapEntry} {i : Nat} {r : Option (Nat × AV)}, findK P t k es i = some r → VRels φ S h (flatPairs es) (flatEntries es') →
    ∃ r', Instr.findNow d vk es' i = some r' ∧ (Instr.findAsking t vk es' i).run P w = .ok r' w
  | [], es', i, r, hf, hr => by
    have := entries_nil hr; subst this
    exact ⟨none, by simp [Instr.findNow], by simp [Instr.findAsking]⟩
  | e :: es, es', i, r, hf, hr => by
    obtain ⟨m, ms, rfl, h1, h2, h3⟩ := entries_cons hr
    simp only [findK] at hf
    have hsame : ∀ b, eqIn P 10000 t k e.1 = some b → Instr.sameNow d vk m.key = some b := fun b hb => sameNow_ok (d := 9999) hu hd hk h1 hb
    split at hf
    · rename_i he
      have := eqIn_ok (P := P) 10000 w he hk h1
      exact ⟨some (i, m.val), by simp [Instr.findNow, hsame _ he], by simp [Instr.findAsking, Op.equal, Op.maxDepth, this]⟩
    · rename_i he
      have := eqIn_ok (P := P) 10000 w he hk h1
      obtain ⟨r', p1, p2⟩ := findNow_ok hu hd hk w hf h3
      exact ⟨r', by simp [Instr.findNow, hsame _ he, p1], by simp [Instr.findAsking, Op.equal, Op.maxDepth, this, p2]⟩
    · cases hf

/-- The key found, met. -/
theorem findKey_ok {h : Array Obj} {t : TypeId} {k : AV} {vk : Value} (w : World) (hkey : keyOk P t k = true) (hk : VRel φ S h k vk) {es : List (AV × AV)} {es' : List MapEntry} {r : Option (Nat × AV)} (hf : findK P t k es 0 = some r)
    (hr : VRels φ S h (flatPairs es) (flatEntries es')) :
    ∃ r', (Instr.findKey t vk es').run P w = .ok r' w ∧ FoundRel P φ S h t k es es' 0 r r' := by
  obtain ⟨r', p1, p2⟩ := findAsking_ok (P := P) w hk hf hr
  refine ⟨r', ?_, p2⟩
  unfold keyOk at hkey
  cases hu : P.underlying t with
  | none => simp [hu] at hkey
  | some d =>
    simp only [Instr.findKey, Sem.run_bind, run_und w hu, Result.andThen_ok]
    by_cases hsc : scalarT P t = true
    · obtain ⟨r2, q1, q2⟩ := findNow_ok (P := P) hu hsc hk w hf hr
      rw [p1] at q2
      have : r' = r2 := by injection q2
      subst this
      simp [q1]
    · have hstr : ∃ fs, d = .struct fs := by
        unfold scalarT at hsc
        cases d <;> simp [hu] at hsc hkey ⊢
      obtain ⟨fs, rfl⟩ := hstr
      have hnow : Instr.findNow (.struct fs) vk es' 0 = (if es' = [] then some none else none) := by
        cases es' <;> simp [Instr.findNow, Instr.sameNow]
      rw [hnow]
      by_cases he : es' = []
      · subst he
        simp [Instr.findAsking] at p1
        simp [← p1]
      · simp [he, p1]

end Go.Abs
