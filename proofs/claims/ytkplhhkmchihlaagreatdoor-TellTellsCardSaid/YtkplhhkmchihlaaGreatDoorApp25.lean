/- Elements written into a row, and a row that is prolonged where it lies. -/
import Derived.Test.YtkplhhkmchihlaaGreatDoorApp2
namespace Go.Abs
variable {X : Type} {R : Rep X} {P : Program} {φ : Names} {F S : Nat → Prop} {H : Heap X}

theorem set_other {w : World} {b : Nat} {o : Obj} {c : Nat} (h : c ≠ b) : (w.heap.setIfInBounds b o)[c]? = w.heap[c]? := Array.getElem?_setIfInBounds_ne (Ne.symm h)

/-- Elements of a row written: what becomes of the heap. -/
theorem setEls_ok {w : World} (hr : HRel R φ F S H w.heap) {n j : Nat} {t : TypeId} {es els : List (List AV)} {us : List Value} {pl : Place} (hn : φ n = some pl) (hget : H.get n = some (.arr t es))
    (hle : j + els.length ≤ es.length) (hw : ∀ e ∈ els, e.length = pl.esz) (hx : VRels φ S w.heap els.flatten us) (hone : oneAll els.flatten = true) :
    ∃ h', (storeCells ⟨pl.blk, pl.shift + j * pl.esz, none⟩ us).run P w = .ok () { w with heap := h' } ∧ HRel R φ F S (H.set n (.arr t (splice es j els))) h' ∧ Step φ F S w.heap φ F S h' := by
  obtain ⟨pl', hpl, hat, hF, hlt⟩ := hr.arrAt hget
  rw [hn] at hpl; cases hpl
  obtain ⟨c, fr, h1, h2, h3, h4⟩ := hat.writeEls hle hw hx
  have hrun := run_storeCells (P := P) (b := pl.blk) (off := pl.shift + j * pl.esz) (t := t) (fr := fr) us 0 c w h1 (by simpa using h2) (by simpa using h3) (ones_rel hx hone)
  refine ⟨_, hrun, ?_, ?_⟩
  · have hself : (w.heap.setIfInBounds pl.blk (.cells (over c (pl.shift + j * pl.esz + 0) us) t fr))[pl.blk]? = some (.cells (over c (pl.shift + j * pl.esz) us) t fr) := by simp [hlt]
    have hnS : ¬ S pl.blk := fun hs => by obtain ⟨fp, r⟩ := hr; exact r.disj _ hF hs
    have hsl : Sealed S w.heap (w.heap.setIfInBounds pl.blk (.cells (over c (pl.shift + j * pl.esz + 0) us) t fr)) := fun b hb => set_other (fun e => hnS (e ▸ hb))
    have hput := hr.put (n := n) (o := .arr t (splice es j els)) (pl := pl) (φ' := φ) (h' := w.heap.setIfInBounds pl.blk (.cells (over c (pl.shift + j * pl.esz + 0) us) t fr)) (fun b => b = pl.blk) (Ext.refl _) hn
      (by
        rintro b rfl m o' hm hne fp r hf
        obtain ⟨p, hp, ho⟩ := r.obj n _ hget
        rw [hn] at hp; cases hp
        exact r.apart m n o' _ hm hget hne _ hf ho.1)
      (fun b _ hb => set_other hb) (by simp) (by rintro b rfl; simpa using hlt) (by rintro b rfl; exact hnS) ⟨rfl, fun b hb => hb, h4 _ hself hsl⟩
    exact hput.congrF fun b => ⟨fun h => h.elim id (fun e => e ▸ hF), .inl⟩
  · exact ⟨Ext.refl _, by simp, fun b _ hb => set_other (fun e => hb (by rw [e]; exact hF)), fun b hb => .inl hb, fun b hb => .inl hb, fun b hb => hb⟩

/-- A row whose last elements are prolonged into its spare room: it goes on under a new name. -/
theorem prolong_ok {w : World} (hr : HRel R φ F S H w.heap) {n i len cap : Nat} {t e : TypeId} {es els : List (List AV)} {news : List Value} {pl : Place} {c : Nat} (hn : φ n = some pl) (hget : H.get n = some (.arr t es)) (hc : φ c = none)
    (hend : i + cap = es.length) (hlc : len ≤ cap) (hroom : len + els.length ≤ cap + pl.extra) (hw : ∀ x ∈ els, x.length = pl.esz) (hx : VRels φ S w.heap els.flatten news) (hone : oneAll els.flatten = true) (hte : t = e) (hby : (len + els.length) * pl.ez.by_ ≤ 281474976710656) :
    ∃ φ' h', (storeCells ⟨pl.blk, pl.shift + i * pl.esz + len * pl.esz, none⟩ news).run P w = .ok () { w with heap := h' } ∧ (∀ m, m ≠ c → φ' m = φ m) ∧
      VRel φ' S h' (.sl pl.ez c 0 (len + els.length) (len + els.length)) (.slice (some ⟨pl.blk, pl.shift + i * pl.esz, none⟩) (len + els.length) (cap + pl.extra)) ∧
      HRel R φ' F S ((H.del n).set c (.arr e ((es.drop i).take len ++ els))) h' ∧ Step φ F S w.heap φ' F S h' := by
  subst hte
  obtain ⟨pl', hpl, hat, hF, hlt⟩ := hr.arrAt hget
  rw [hn] at hpl; cases hpl
  have hnS : ¬ S pl.blk := fun hs => by obtain ⟨fp, r⟩ := hr; exact r.disj _ hF hs
  have hat0 := hat
  obtain ⟨cc, fr, pv, p1, p2, p3, p4, p5⟩ := hat.piece (i := i) (n := len) (by omega)
  obtain ⟨hl, hwd, hrm, c0, fr0, vs0, q1, q2, q3, q4, q5⟩ := hat0
  rw [p1] at q1; cases q1
  have hnl := hx.length
  rw [flatten_length hw] at hnl
  have htot : i * pl.esz + len * pl.esz + els.length * pl.esz ≤ (pl.cnt + pl.extra) * pl.esz := by
    rw [← Nat.add_mul, ← Nat.add_mul]; exact Nat.mul_le_mul_right _ (by omega)
  have hrun := run_storeCells (P := P) (b := pl.blk) (off := pl.shift + i * pl.esz + len * pl.esz) (t := t) (fr := fr) news 0 cc w p1 (by omega) (fun j hj => q5 _ (by omega) (by omega)) (ones_rel hx hone)
  have hext : Ext φ (fun m => if m = c then some ⟨pl.blk, pl.shift + i * pl.esz, pl.ez, len + els.length, cap + pl.extra - (len + els.length)⟩ else φ m) := by
    intro m p hm
    by_cases e : m = c
    · subst e; rw [hc] at hm; cases hm
    · simp [e, hm]
  have hslF : Sealed S w.heap (w.heap.setIfInBounds pl.blk (.cells (over cc (pl.shift + i * pl.esz + len * pl.esz + 0) news) t fr)) := fun b hb => set_other (fun e => hnS (e ▸ hb))
  have hself : (w.heap.setIfInBounds pl.blk (.cells (over cc (pl.shift + i * pl.esz + len * pl.esz + 0) news) t fr))[pl.blk]? = some (.cells (over cc (pl.shift + i * pl.esz + len * pl.esz) news) t fr) := by simp [hlt]
  have hplen : ((es.drop i).take len).length = len := by simp; omega
  refine ⟨fun m => if m = c then some ⟨pl.blk, pl.shift + i * pl.esz, pl.ez, len + els.length, cap + pl.extra - (len + els.length)⟩ else φ m, _, hrun, fun m hm => by simp [hm], ?_, ?_, ?_⟩
  · refine VRel.sl' (pl := ⟨pl.blk, pl.shift + i * pl.esz, pl.ez, len + els.length, cap + pl.extra - (len + els.length)⟩) (by simp) rfl (Nat.le_refl _) (by simp) ?_
    simp [capOf]; omega
  · obtain ⟨fp, r⟩ := hr
    obtain ⟨p, hp, ho⟩ := r.obj n _ hget
    rw [hn] at hp; cases hp
    have r2 := r.weaken (H' := H.del n) (fun m o' hm => by rw [T.get_del] at hm; split at hm; cases hm; exact hm)
    have hput := r2.put (n := c) (o := .arr t ((es.drop i).take len ++ els)) (pl := ⟨pl.blk, pl.shift + i * pl.esz, pl.ez, len + els.length, cap + pl.extra - (len + els.length)⟩)
      (h' := w.heap.setIfInBounds pl.blk (.cells (over cc (pl.shift + i * pl.esz + len * pl.esz + 0) news) t fr)) (fun b => b = pl.blk) hext (by simp)
      (by
        rintro b rfl m o' hm hne hf
        rw [T.get_del] at hm
        split at hm
        · cases hm
        · rename_i hmn
          exact r.apart m n o' _ hm hget hmn _ hf ho.1)
      (fun b _ hb => set_other hb) (by simp) (by rintro b rfl; simpa using hlt) (by rintro b rfl; exact hnS)
      ⟨rfl, fun b hb => hb, by
        refine ⟨by simp [hplen], ?_, ?_, ?_⟩
        · intro x hx'
          rcases List.mem_append.1 hx' with h | h
          · exact hwd x (List.mem_of_mem_drop (List.mem_of_mem_take h))
          · exact hw x h
        · refine ⟨?_, ?_⟩
          · exact hby
          · show (pl.shift + i * pl.ez.z) % pl.ez.z = 0
            rw [Nat.add_mul_mod_self_right]; exact hrm.2
        · refine ⟨_, fr, pv ++ news, hself, ?_, ?_, ?_, ?_⟩
          · rw [List.flatten_append]
            exact (p2.mono hext (fun _ h => h) hslF).append (hx.mono hext (fun _ h => h) hslF)
          · intro j hj
            simp only [List.length_append] at hj
            show (over cc (pl.shift + i * pl.esz + len * pl.esz) news)[pl.shift + i * pl.esz + j]? = _
            rw [over_get _ _ _ _ (by omega)]
            by_cases hj1 : j < len * pl.esz
            · rw [if_neg (by omega), p3 j (by omega), List.getElem?_append_left (by omega)]
            · rw [if_pos (by omega), List.getElem?_append_right (by omega)]
              congr 1; omega
          · show pl.shift + i * pl.esz + (len + els.length + (cap + pl.extra - (len + els.length))) * pl.ez.z ≤ _
            rw [over_size]
            have e1 : len + els.length + (cap + pl.extra - (len + els.length)) = cap + pl.extra := by omega
            have e2 : i * pl.esz + (cap + pl.extra) * pl.ez.z = (pl.cnt + pl.extra) * pl.esz := by
              show i * pl.ez.z + (cap + pl.extra) * pl.ez.z = (pl.cnt + pl.extra) * pl.ez.z
              rw [← Nat.add_mul]; congr 1; omega
            rw [e1, Nat.add_assoc, e2]; exact q4
          · intro off h1 h2
            have e1 : len + els.length + (cap + pl.extra - (len + els.length)) = cap + pl.extra := by omega
            have e2 : i * pl.esz + (cap + pl.extra) * pl.ez.z = (pl.cnt + pl.extra) * pl.esz := by
              show i * pl.ez.z + (cap + pl.extra) * pl.ez.z = (pl.cnt + pl.extra) * pl.ez.z
              rw [← Nat.add_mul]; congr 1; omega
            change off < pl.shift + i * pl.esz + (len + els.length + (cap + pl.extra - (len + els.length))) * pl.ez.z at h2
            rw [e1, Nat.add_assoc, e2] at h2
            exact q5 off (by change pl.shift + i * pl.esz ≤ off at h1; omega) h2⟩
    exact HRel.congrF ⟨_, hput⟩ fun b => ⟨fun h => h.elim id (fun e => e ▸ hF), .inl⟩
  · exact ⟨hext, by simp, fun b _ hb => set_other (fun e => hb (by rw [e]; exact hF)), fun b hb => .inl hb, fun b hb => .inl hb, fun b hb => hb⟩

end Go.Abs
