/- The plain operations are met: what the abstract run says, the model does. -/
import Derived.Test.YtkplhhkmchihlaaGreatDoorOp
import Derived.Laws.Cells
import Derived.KernelRfl
namespace Go.Abs
variable {X : Type} {R : Rep X} {P : Program} {φ : Names} {F S : Nat → Prop} {H : Heap X}

/-- A piece of the model's semantics comes to what the abstract run says. -/
def SemOK (R : Rep X) (P : Program) (φ : Names) (F S : Nat → Prop) (w : World) (c c' : Nat) (s : Sem Value) (v : AV) (H' : Heap X) : Prop :=
  ∃ v' φ' F' S' w', s.run P w = .ok v' w' ∧ VRel φ' S' w'.heap v v' ∧ HRel R φ' F' S' H' w'.heap ∧ WStep φ F S w φ' F' S' w' ∧ ∀ n, ¬ (c ≤ n ∧ n < c') → φ' n = φ n

theorem SemOK.pure {w : World} {c : Nat} {s : Sem Value} {v : AV} {v' : Value} (hr : HRel R φ F S H w.heap) (h : s.run P w = .ok v' w) (hv : VRel φ S w.heap v v') : SemOK R P φ F S w c c s v H :=
  ⟨v', φ, F, S, w, h, hv, hr, WStep.refl, fun _ _ => rfl⟩

section types
theorem run_und {t : TypeId} {d : TypeDesc} (w : World) (h : P.underlying t = some d) : (underlying t).run P w = .ok d w := run_underlying h w

theorem run_info {t : TypeId} {i : TypeInfo} (w : World) (h : P.info? t = some i) : (typeInfo t).run P w = .ok i w := by simp [typeInfo, h]

theorem run_size {t : TypeId} {n : Nat} (w : World) (h : sizeT P t = some n) : (sizeOf t).run P w = .ok n w := by
  unfold sizeT at h
  cases hi : P.info? t with
  | none => simp [hi] at h
  | some i => simp [hi] at h; subst h; simp [sizeOf, run_info w hi]

theorem elem_size {t : TypeId} {z : EZ} (h : elemT P t = some z) : sizeT P t = some z.z := by
  unfold elemT at h
  unfold sizeT
  cases hi : P.info? t with
  | none => simp [hi] at h
  | some i => simp [hi] at h; subst h; rfl

theorem run_agg {t : TypeId} {b : Bool} (w : World) (h : aggT P t = some b) : (isAgg t).run P w = .ok b w := by
  unfold aggT at h
  cases hu : P.underlying t with
  | none => simp [hu] at h
  | some d =>
    simp only [hu, Option.map_some, Option.some.injEq] at h
    unfold isAgg
    rw [Sem.run_bind, run_und w hu]
    cases d <;> simp_all

theorem ofCell_rel {h : Array Obj} {v : Value} {a : AV} (k : ofCell v = some a) : VRel φ S h a v := by
  unfold ofCell at k
  split at k <;> simp at k <;> subst k
  · exact .bool _
  · exact .int _ _
  · exact .str _
  · exact .nilp
  · exact .nils
  · exact .nilm
  · exact .nilf
  · exact .nili

theorem ofCells_rel {h : Array Obj} : ∀ {vs : List Value} {as : List AV}, ofCells vs = some as → VRels φ S h as vs
  | [], as, k => by simp [ofCells] at k; subst k; exact .nil
  | v :: vs, as, k => by
    simp only [ofCells] at k
    split at k
    · rename_i a as' h1 h2
      simp at k; subst k
      exact .cons (ofCell_rel h1) (ofCells_rel h2)
    · cases k

theorem ofVal_rel {h : Array Obj} {v : Value} {a : AV} (k : ofVal v = some a) : VRel φ S h a v := by
  unfold ofVal at k
  split at k
  · rename_i cs
    cases hc : ofCells cs.toList with
    | none => simp [hc] at k
    | some as =>
      simp [hc] at k; subst k
      have := VRel.agg (ofCells_rel (φ := φ) (S := S) (h := h) hc)
      simpa using this
  · rename_i cs
    cases hc : ofCells cs.toList with
    | none => simp [hc] at k
    | some as =>
      simp [hc] at k; subst k
      have := VRel.tup (ofCells_rel (φ := φ) (S := S) (h := h) hc)
      simpa using this
  · rename_i f as bs
    split at k
    · rename_i hsz
      simp at k; subst k
      have e1 : as = #[] := Array.eq_empty_of_size_eq_zero hsz.1
      have e2 : bs = #[] := Array.eq_empty_of_size_eq_zero hsz.2
      subst e1; subst e2
      exact .fn .nil .nil
    · cases k
  · exact ofCell_rel k

theorem run_zero {t : TypeId} {z : List AV} (w : World) (h : zeroT P t = some z) : ∃ v, (zeroValue t).run P w = .ok v w ∧ ∀ (φ : Names) (S : Nat → Prop) (hp : Array Obj), VRels φ S hp z v.cells.toList := by
  unfold zeroT at h
  cases hi : P.info? t with
  | none => simp [hi] at h
  | some i =>
    cases hz : i.zero with
    | none => simp [hi, hz] at h
    | some v =>
      simp [hi, hz] at h
      exact ⟨v, by simp [zeroValue, run_info w hi, hz], fun φ S hp => ofCells_rel h⟩

end types

theorem AV.cells_rel {h : Array Obj} {a : AV} {v : Value} (k : VRel φ S h a v) (hone : oneAll a.cells = true) : VRels φ S h a.cells v.cells.toList := by
  cases k with
  | agg hv => simpa [AV.cells, Value.cells] using hv
  | tup hv => simp [AV.cells, oneAll, AV.one] at hone
  | any => simp [AV.cells, oneAll, AV.one] at hone
  | bool b => exact VRels.one (.bool b)
  | int k n => exact VRels.one (.int k n)
  | str s => exact VRels.one (.str s)
  | ptr hn => exact VRels.one (.ptr hn)
  | pel a b c d => exact VRels.one (.pel a b c d)
  | nilp => exact VRels.one .nilp
  | sl hn hz hl => exact VRels.one (.sl hn hz hl)
  | isl a b c d e f g => exact VRels.one (.isl a b c d e f g)
  | islNil => exact VRels.one .islNil
  | nils => exact VRels.one .nils
  | zsl => exact VRels.one .zsl
  | map hn => exact VRels.one (.map hn)
  | nilm => exact VRels.one .nilm
  | fn ha hb => exact VRels.one (.fn ha hb)
  | nilf => exact VRels.one .nilf
  | nili => exact VRels.one .nili

theorem one_rel {h : Array Obj} {a : AV} {v : Value} (k : VRel φ S h a v) (hone : a.one = true) : v.oneCell' = true := by
  cases k <;> first | rfl | simp [AV.one] at hone

theorem ones_rel {h : Array Obj} : ∀ {as : List AV} {vs : List Value}, VRels φ S h as vs → oneAll as = true → ∀ v ∈ vs, v.oneCell' = true
  | _, _, .nil, _ => by simp
  | _, _, .cons hv ht, hone => by
    simp only [oneAll, List.all_cons, Bool.and_eq_true] at hone
    intro v hv'
    rcases List.mem_cons.1 hv' with e | e
    · subst e; exact one_rel hv hone.1
    · exact ones_rel ht hone.2 v e

/-- A new row. -/
theorem newRow_ok {w : World} (hr : HRel R φ F S H w.heap) {c : Nat} (hfree : φ c = none) {t : TypeId} {es : List (List AV)} {z : EZ} {vs : List Value} {cells : Array Value} (ex : Nat)
    (hz : ∀ e ∈ es, e.length = z.z) (hv : VRels φ S w.heap es.flatten vs) (hs : Seg cells 0 vs) (hl : (es.length + ex) * z.z ≤ cells.size) (hrm : es.length * z.by_ ≤ 281474976710656) :
    ∃ φ', Ext φ φ' ∧ φ' c = some ⟨w.heap.size, 0, z, es.length, ex⟩ ∧ (∀ n, n ≠ c → φ' n = φ n) ∧
      HRel R φ' (fun b => F b ∨ b = w.heap.size) S (H.set c (.arr t es)) (w.heap.push (.cells cells t)) ∧
      Step φ F S w.heap φ' (fun b => F b ∨ b = w.heap.size) S (w.heap.push (.cells cells t)) := by
  refine ⟨fun n => if n = c then some ⟨w.heap.size, 0, z, es.length, ex⟩ else φ n, ?_, by simp, fun n hn => by simp [hn], ?_, ?_⟩
  · intro n pl hn
    by_cases e : n = c
    · subst e; rw [hfree] at hn; cases hn
    · simp [e, hn]
  · have hext : Ext φ (fun n => if n = c then some ⟨w.heap.size, 0, z, es.length, ex⟩ else φ n) := by
      intro n pl hn
      by_cases e : n = c
      · subst e; rw [hfree] at hn; cases hn
      · simp [e, hn]
    have hold : ∀ b, b < w.heap.size → (w.heap.push (.cells cells t))[b]? = w.heap[b]? := fun b hb => by
      rw [Array.getElem?_push]; simp [Nat.ne_of_lt hb]
    have hsl : Sealed S w.heap (w.heap.push (.cells cells t)) := fun b hb => hold b (by obtain ⟨fp, r⟩ := hr; exact r.liveS b hb)
    refine hr.put (n := c) (pl := ⟨w.heap.size, 0, z, es.length, ex⟩) (fun b => b = w.heap.size) hext (by simp) ?_ (fun b hb _ => hold b hb) (by simp) (by intro b hb; subst hb; simp) ?_ ?_
    · rintro b rfl m o' hm _ fp r hf
      exact absurd (r.liveF _ (r.inF m o' _ hm hf)) (by omega)
    · rintro b rfl hS
      obtain ⟨fp, r⟩ := hr
      exact absurd (r.liveS _ hS) (by omega)
    · refine ⟨rfl, fun b hb => hb, ⟨rfl, hz, ⟨hrm, Nat.zero_mod _⟩, cells, (0, 0), vs, by simp, hv.mono hext (fun _ h => h) hsl, by simpa using hs, by simpa using hl, ?_⟩⟩
      intro off _ _
      simp
  · refine ⟨?_, by simp, fun b hb _ => by rw [Array.getElem?_push]; simp [Nat.ne_of_lt hb], fun b hb => hb.imp id (fun e => by omega), fun b hb => .inl hb, fun b hb => hb⟩
    intro n pl hn
    by_cases e : n = c
    · subst e; rw [hfree] at hn; cases hn
    · simp [e, hn]

theorem Seg.zero (vs : List Value) : Seg vs.toArray 0 vs := fun j hj => by simp

/-- 'storeCells' on a row whose cells are there and not frozen. -/
theorem run_storeCells {b off : Nat} {t : TypeId} {fr : Nat × Nat} : ∀ (vs : List Value) (i : Nat) (c : Array Value) (w : World), w.heap[b]? = some (.cells c t fr) → off + i + vs.length ≤ c.size →
    (∀ j, j < vs.length → (decide (fr.1 ≤ off + i + j) && decide (off + i + j < fr.2)) = false) → (∀ v ∈ vs, v.oneCell' = true) →
    (storeCells ⟨b, off, none⟩ vs i).run P w = .ok () { w with heap := w.heap.setIfInBounds b (.cells (over c (off + i) vs) t fr) }
  | [], i, c, w, hb, _, _, _ => by
    have : w.heap.setIfInBounds b (.cells c t fr) = w.heap := by
      apply Array.ext'
      simp
      obtain ⟨hlt, he⟩ := Array.getElem?_eq_some_iff.1 hb
      rw [← he]
      apply List.ext_getElem?
      intro k
      by_cases e : b = k
      · subst e; simp [hlt]
      · simp [List.getElem?_set_ne e]
    simp [storeCells, over, this]
  | v :: vs, i, c, w, hb, hl, hf, ho => by
    have hv := ho v (by simp)
    have hadd : (⟨b, off, none⟩ : Addr).add i = ⟨b, off + i, none⟩ := by unfold Addr.add; split <;> simp_all
    simp only [List.length_cons] at hl
    have hlt : off + i < c.size := by omega
    have hcell : w.cell? ⟨b, off + i, none⟩ = some c[off + i] := by simp [World.cell?, hb, hlt]
    have hfr : w.frozen? ⟨b, off + i, none⟩ = false := by
      have := hf 0 (by simp)
      simpa [World.frozen?, hb] using this
    have hset : w.setCell ⟨b, off + i, none⟩ v = { w with heap := w.heap.setIfInBounds b (.cells (c.setIfInBounds (off + i) v) t fr) } := by
      unfold World.setCell
      congr 1
      apply Array.ext_getElem?
      intro k
      obtain ⟨hbl, he⟩ := Array.getElem?_eq_some_iff.1 hb
      by_cases e : b = k
      · subst e
        rw [Array.getElem?_modify]
        simp [hbl, he]
      · rw [Array.getElem?_modify]; simp [e, Array.getElem?_setIfInBounds_ne e]
    have hstore : (store ((⟨b, off, none⟩ : Addr).add i) v).run P w = .ok () (w.setCell ⟨b, off + i, none⟩ v) := by
      rw [hadd, run_store P w _ v .plain hv]
      simp [hcell, hfr]
    have ih := run_storeCells (b := b) (off := off) (t := t) (fr := fr) vs (i + 1) (c.setIfInBounds (off + i) v) (w.setCell ⟨b, off + i, none⟩ v) (by
        rw [hset]
        obtain ⟨hbl, _⟩ := Array.getElem?_eq_some_iff.1 hb
        simp [hbl]) (by simp; omega) (fun j hj => by
        have := hf (j + 1) (by simp; omega)
        rwa [show off + (i + 1) + j = off + i + (j + 1) by omega]) (fun u hu => ho u (by simp [hu]))
    simp only [storeCells, Sem.run_bind]
    rw [hstore]
    simp only [Result.andThen_ok]
    rw [ih]
    congr 1
    rw [hset]
    simp only [over]
    congr 1
    simp [Nat.add_assoc]

end Go.Abs
