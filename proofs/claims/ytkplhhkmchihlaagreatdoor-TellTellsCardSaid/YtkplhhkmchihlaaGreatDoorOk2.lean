/- Loads and stores are met. -/
import Derived.Test.YtkplhhkmchihlaaGreatDoorOk
namespace Go.Abs
variable {X : Type} {R : Rep X} {P : Program} {φ : Names} {F S : Nat → Prop} {H : Heap X}

theorem add_plain (b off j : Nat) : (⟨b, off, none⟩ : Addr).add j = ⟨b, off + j, none⟩ := by unfold Addr.add; split <;> simp_all

theorem seg_cell {w : World} {b off : Nat} {c : Array Value} {t : TypeId} {fr : Nat × Nat} {vs : List Value} (hb : w.heap[b]? = some (.cells c t fr)) (hs : Seg c off vs) (j : Nat) (v : Value) (hj : vs[j]? = some v) :
    w.cell? ((⟨b, off, none⟩ : Addr).add j) = some v := by
  obtain ⟨hlt, _⟩ := List.getElem?_eq_some_iff.1 hj
  rw [add_plain]
  simp [World.cell?, hb, hs j hlt, hj]

theorem run_loadCells_seg {w : World} {b off : Nat} {c : Array Value} {t : TypeId} {fr : Nat × Nat} {vs : List Value} (hb : w.heap[b]? = some (.cells c t fr)) (hs : Seg c off vs) :
    (loadCells ⟨b, off, none⟩ vs.length).run P w = .ok vs.toArray w :=
  run_loadCells_list w _ vs fun j v hj => seg_cell hb hs j v hj

/-- A variable that lies in cells, loaded. -/
theorem run_loadVar_seg {w : World} {t : TypeId} {g : Bool} {z : Nat} (hg : aggT P t = some g) (hz : sizeT P t = some z) {b off : Nat} {c : Array Value} {t' : TypeId} {fr : Nat × Nat} {cs : List AV} {vs : List Value} {v : AV}
    (hb : w.heap[b]? = some (.cells c t' fr)) (hs : Seg c off vs) (hv : VRels φ S w.heap cs vs) (hl : vs.length = (if g then z else 1)) (hm : mkV g cs = some v) :
    ∃ v', (loadVar t ⟨b, off, none⟩).run P w = .ok v' w ∧ VRel φ S w.heap v v' := by
  unfold loadVar
  rw [Sem.run_bind, run_agg w hg]
  simp only [Result.andThen_ok]
  cases g with
  | true =>
    simp only [mkV, if_true, Option.some.injEq] at hm hl ⊢
    subst hm
    rw [Sem.run_bind, run_size w hz]
    simp only [Result.andThen_ok]
    rw [Sem.run_bind, ← hl, run_loadCells_seg hb hs]
    exact ⟨_, rfl, .agg hv⟩
  | false =>
    simp only [Bool.false_eq_true, if_false] at hl ⊢
    simp only [mkV, Bool.false_eq_true, if_false] at hm
    cases hv with
    | nil => simp at hl
    | cons hv0 ht =>
      rename_i a v0 as vs0
      simp only [List.length_cons, Nat.add_eq_right] at hl
      have : vs0 = [] := List.length_eq_zero_iff.1 (by omega)
      subst this
      cases ht
      simp at hm; subst hm
      have := seg_cell hb hs 0 v0 (by simp)
      rw [add_plain, Nat.add_zero] at this
      exact ⟨v0, by simp [run_load, this], hv0⟩

theorem loadP_at {t : TypeId} {a v : AV} {va : Value} {w : World} (hr : HRel R φ F S H w.heap) (ha : VRel φ S w.heap a va) {b : Bool} {H' : Heap X} {c c' : Nat} {l : List (Act X)}
    (h : loadP P t a b H c = some (v, H', c', l)) : H' = H ∧ c' = c ∧ ∃ u, (Instr.loadAt t va).run P w = .ok u w ∧ VRel φ S w.heap v u := by
  unfold loadP at h
  cases hg : aggT P t with
  | none => simp [hg, M.fail] at h
  | some g =>
  cases hz : sizeT P t with
  | none => simp [hg, hz, M.fail] at h
  | some z =>
    simp only [hg, hz] at h
    cases ha with
    | ptr hn =>
      rename_i n i o pl
      simp only [M.bind, M.rdC] at h
      cases hrd : readC H n i o (if g = true then z else 1) with
      | none => simp [hrd] at h
      | some cs =>
        simp only [hrd] at h
        cases hm : mkV g cs with
        | none => simp [hm, M.lift, M.fail] at h
        | some v0 =>
          simp only [hm, M.lift, M.pure, Option.some.injEq, Prod.mk.injEq] at h
          obtain ⟨rfl, rfl, rfl, _⟩ := h
          obtain ⟨t', es, e, hget, he, hle, hcs⟩ := readC_some.1 hrd
          obtain ⟨pl', hpl, hat, _, _⟩ := hr.arrAt hget
          rw [hn] at hpl; cases hpl
          obtain ⟨cc, fr, vs, h1, h2, h3, h4, _⟩ := hat.read he o _ hle
          rw [hcs] at h2
          obtain ⟨v', hrun, hv'⟩ := run_loadVar_seg (φ := φ) (S := S) hg hz h1 h3 h2 h4 hm
          exact ⟨rfl, rfl, v', by simp [Instr.loadAt, Instr.sureAddr, hrun], hv'⟩
    | pel hS hh hs hv =>
      rename_i cs vs b0 off cc t' fr
      by_cases hk : (if g = true then z else 1) ≤ cs.length
      · simp only [if_pos hk] at h
        cases hm : mkV g (cs.take (if g = true then z else 1)) with
        | none => simp [hm, M.lift, M.fail] at h
        | some v0 =>
          simp only [hm, M.lift, M.pure, Option.some.injEq, Prod.mk.injEq] at h
          obtain ⟨rfl, rfl, rfl, _⟩ := h
          have hl := hv.length
          obtain ⟨v', hrun, hv'⟩ := run_loadVar_seg (φ := φ) (S := S) hg hz hh (hs.take _) (hv.take _) (by rw [List.length_take]; omega) hm
          exact ⟨rfl, rfl, v', by simp [Instr.loadAt, Instr.sureAddr, hrun], hv'⟩
      · simp only [if_neg hk] at h; simp [M.fail] at h
    | _ => simp [M.fail] at h

theorem loadP_ok {t : TypeId} {a v : AV} {va : Value} {w : World} (hr : HRel R φ F S H w.heap) (ha : VRel φ S w.heap a va) {b : Bool} {H' : Heap X} {c c' : Nat} {l : List (Act X)}
    (h : loadP P t a b H c = some (v, H', c', l)) : H' = H ∧ c' = c ∧ SemOK R P φ F S w c c' (Instr.loadAt t va) v H' := by
  obtain ⟨rfl, rfl, u, h1, h2⟩ := loadP_at hr ha h
  exact ⟨rfl, rfl, SemOK.pure hr h1 h2⟩

/-- A row's cells written: what becomes of the heap. -/
theorem setCells_ok {w : World} (hr : HRel R φ F S H w.heap) {n i o : Nat} {t : TypeId} {es : List (List AV)} {e xs : List AV} {us : List Value} {pl : Place} (hn : φ n = some pl) (hget : H.get n = some (.arr t es)) (he : es[i]? = some e)
    (hle : o + xs.length ≤ e.length) (hx : VRels φ S w.heap xs us) (hone : oneAll xs = true) :
    ∃ h', (storeCells ⟨pl.blk, pl.shift + i * pl.esz + o, none⟩ us).run P w = .ok () { w with heap := h' } ∧ HRel R φ F S (H.set n (.arr t (es.set i (splice e o xs)))) h' ∧ Step φ F S w.heap φ F S h' := by
  obtain ⟨pl', hpl, hat, hF, hlt⟩ := hr.arrAt hget
  rw [hn] at hpl; cases hpl
  obtain ⟨c, fr, h1, h2, h3, h4⟩ := hat.write he hle hx
  have hrun := run_storeCells (P := P) (b := pl.blk) (off := pl.shift + i * pl.esz + o) (t := t) (fr := fr) us 0 c w h1 (by simpa using h2) (by simpa using h3) (ones_rel hx hone)
  refine ⟨_, hrun, ?_, ?_⟩
  · have hother : ∀ b, b ≠ pl.blk → (w.heap.setIfInBounds pl.blk (.cells (over c (pl.shift + i * pl.esz + o + 0) us) t fr))[b]? = w.heap[b]? := fun b hb => Array.getElem?_setIfInBounds_ne (Ne.symm hb)
    have hself : (w.heap.setIfInBounds pl.blk (.cells (over c (pl.shift + i * pl.esz + o + 0) us) t fr))[pl.blk]? = some (.cells (over c (pl.shift + i * pl.esz + o) us) t fr) := by simp [hlt]
    have hnS : ¬ S pl.blk := fun hs => by obtain ⟨fp, r⟩ := hr; exact r.disj _ hF hs
    have hsl : Sealed S w.heap (w.heap.setIfInBounds pl.blk (.cells (over c (pl.shift + i * pl.esz + o + 0) us) t fr)) := fun b hb => hother b (fun e => hnS (e ▸ hb))
    have hput := hr.put (n := n) (o := .arr t (es.set i (splice e o xs))) (pl := pl) (φ' := φ) (h' := w.heap.setIfInBounds pl.blk (.cells (over c (pl.shift + i * pl.esz + o + 0) us) t fr)) (fun b => b = pl.blk) (Ext.refl _) hn
      (by
        rintro b rfl m o' hm hne fp r hf
        obtain ⟨p, hp, ho⟩ := r.obj n _ hget
        rw [hn] at hp; cases hp
        exact r.apart m n o' _ hm hget hne _ hf ho.1)
      (fun b _ hb => hother b hb) (by simp) (by rintro b rfl; simpa using hlt) (by rintro b rfl; exact hnS) ⟨rfl, fun b hb => hb, h4 _ hself hsl⟩
    have hFeq : (fun b => F b ∨ b = pl.blk) = F := by
      funext b; apply propext; constructor
      · rintro (h | rfl)
        · exact h
        · exact hF
      · exact .inl
    rw [hFeq] at hput
    exact hput
  · refine ⟨Ext.refl _, by simp, fun b _ hb => Array.getElem?_setIfInBounds_ne (fun e => hb (by rw [← e]; exact hF)), fun b hb => .inl hb, fun b hb => .inl hb, fun b hb => hb⟩

theorem storeP_ok {t : TypeId} {a x v : AV} {va vx : Value} {w : World} (hr : HRel R φ F S H w.heap) (ha : VRel φ S w.heap a va) (hx : VRel φ S w.heap x vx) {b : Bool} {H' : Heap X} {c c' : Nat} {l : List (Act X)}
    (h : storeP P t a x b H c = some (v, H', c', l)) : c' = c ∧ v = .undef ∧ ∃ h', (Instr.storeAt t va vx).run P w = .ok () { w with heap := h' } ∧ HRel R φ F S H' h' ∧ Step φ F S w.heap φ F S h' := by
  unfold storeP at h
  cases hz : sizeT P t with
  | none => simp [hz, M.fail] at h
  | some z =>
    simp only [hz] at h
    by_cases hc : x.cells.length = z ∧ oneAll x.cells = true
    · rw [if_pos hc] at h
      obtain ⟨hc1, hc2⟩ := hc
      cases ha with
      | ptr hn =>
        rename_i n i o pl
        simp only [M.bind, M.wrC] at h
        cases hw : writeC H n i o x.cells with
        | none => simp [hw] at h
        | some H1 =>
          simp only [hw, M.pure, Option.some.injEq, Prod.mk.injEq] at h
          obtain ⟨rfl, rfl, rfl, _⟩ := h
          obtain ⟨t', es, e, hget, he, hle, rfl⟩ := writeC_some.1 hw
          have hcr := AV.cells_rel hx hc2
          obtain ⟨h', hrun, h1, h2⟩ := setCells_ok (P := P) hr hn hget he hle hcr hc2
          refine ⟨rfl, rfl, h', ?_, h1, h2⟩
          have hsz : vx.cells.size = z := by rw [← hc1, hcr.length]; simp
          simp [Instr.storeAt, Instr.sureAddr, storeVar, run_size w hz, hsz, hrun]
      | _ => simp [M.fail] at h
    · rw [if_neg hc] at h; simp [M.fail] at h

end Go.Abs
