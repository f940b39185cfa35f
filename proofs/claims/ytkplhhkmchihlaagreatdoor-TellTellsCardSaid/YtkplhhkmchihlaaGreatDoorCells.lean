/- Reading and writing pieces of rows, on both sides. -/
import Derived.Test.YtkplhhkmchihlaaGreatDoorHeap
namespace Go.Abs

def splice {α : Type} (l : List α) (k : Nat) (xs : List α) : List α := l.take k ++ (xs ++ l.drop (k + xs.length))

theorem splice_length {α : Type} {l : List α} {k : Nat} {xs : List α} (h : k + xs.length ≤ l.length) : (splice l k xs).length = l.length := by
  simp [splice]; omega

theorem splice_get {α : Type} {l : List α} {k : Nat} {xs : List α} (h : k + xs.length ≤ l.length) (j : Nat) :
    (splice l k xs)[j]? = if k ≤ j ∧ j < k + xs.length then xs[j - k]? else l[j]? := by
  unfold splice
  by_cases h1 : j < k
  · rw [List.getElem?_append_left (by simp; omega), if_neg (by omega), List.getElem?_take, if_pos h1]
  · rw [List.getElem?_append_right (by simp; omega)]
    have : (l.take k).length = k := by simp; omega
    rw [this]
    by_cases h2 : j < k + xs.length
    · rw [List.getElem?_append_left (by omega), if_pos (by omega)]
    · rw [List.getElem?_append_right (by omega), if_neg (by omega), List.getElem?_drop]
      congr 1; omega

/-- Cells overwritten from a place on. -/
def over (c : Array Value) (off : Nat) : List Value → Array Value
  | [] => c
  | v :: vs => over (c.setIfInBounds off v) (off + 1) vs

@[simp] theorem over_size (vs : List Value) : ∀ (c : Array Value) (off : Nat), (over c off vs).size = c.size := by
  induction vs with
  | nil => intro c off; rfl
  | cons v vs ih => intro c off; simp [over, ih]

theorem over_get (vs : List Value) : ∀ (c : Array Value) (off k : Nat), off + vs.length ≤ c.size → (over c off vs)[k]? = if off ≤ k ∧ k < off + vs.length then vs[k - off]? else c[k]? := by
  induction vs with
  | nil => intro c off k _; simp [over]; omega
  | cons v vs ih =>
    intro c off k h
    simp only [List.length_cons] at h
    simp only [over]
    rw [ih _ _ _ (by simp; omega)]
    by_cases e : k = off
    · subst e
      rw [if_neg (by omega), if_pos (by simp)]
      simp [show k < c.size by omega]
    · by_cases h1 : off + 1 ≤ k ∧ k < off + 1 + vs.length
      · rw [if_pos h1, if_pos (by simp; omega)]
        obtain ⟨d, rfl⟩ : ∃ d, k = off + 1 + d := ⟨k - (off + 1), by omega⟩
        simp [show off + 1 + d - off = d + 1 by omega]
      · rw [if_neg h1, if_neg (by simp; omega), Array.getElem?_setIfInBounds_ne (by omega)]

theorem Seg.over {c : Array Value} {off : Nat} {vs us : List Value} {k : Nat} (h : Seg c off vs) (hk : k + us.length ≤ vs.length) (hc : off + vs.length ≤ c.size) :
    Seg (over c (off + k) us) off (splice vs k us) := by
  intro j hj
  rw [splice_length hk] at hj
  rw [over_get _ _ _ _ (by omega), splice_get hk]
  by_cases h1 : k ≤ j ∧ j < k + us.length
  · rw [if_pos (by omega), if_pos h1]; congr 1; omega
  · rw [if_neg (by omega), if_neg h1]; exact h j hj

variable {φ : Names} {S : Nat → Prop} {h : Array Obj}

theorem VRels.splice {as bs : List AV} {vs us : List Value} (ha : VRels φ S h as vs) (hb : VRels φ S h bs us) (k : Nat) : VRels φ S h (splice as k bs) (splice vs k us) := by
  unfold Abs.splice
  rw [hb.length]
  exact (ha.take k).append (hb.append (ha.drop _))

theorem flatten_length {es : List (List AV)} {z : Nat} (hz : ∀ e ∈ es, e.length = z) : es.flatten.length = es.length * z := by
  induction es with
  | nil => simp
  | cons e es ih =>
    simp only [List.flatten_cons, List.length_append, List.length_cons]
    rw [hz e (by simp), ih fun e he => hz e (by simp [he]), Nat.succ_mul, Nat.add_comm]

theorem flatten_drop {es : List (List AV)} {z : Nat} (hz : ∀ e ∈ es, e.length = z) : ∀ i, es.flatten.drop (i * z) = (es.drop i).flatten := by
  induction es with
  | nil => intro i; simp
  | cons e es ih =>
    intro i
    have he : e.length = z := hz e (by simp)
    cases i with
    | zero => simp
    | succ i =>
      rw [List.flatten_cons, List.drop_succ_cons, ← ih (fun e he => hz e (by simp [he])) i, Nat.succ_mul, List.drop_append]
      rw [show i * z + z - e.length = i * z by omega, List.drop_of_length_le (by omega)]
      simp

theorem flatten_take {es : List (List AV)} {z : Nat} (hz : ∀ e ∈ es, e.length = z) : ∀ i, es.flatten.take (i * z) = (es.take i).flatten := by
  induction es with
  | nil => intro i; simp
  | cons e es ih =>
    intro i
    have he : e.length = z := hz e (by simp)
    cases i with
    | zero => simp
    | succ i =>
      rw [List.flatten_cons, List.take_succ_cons, List.flatten_cons, ← ih (fun e he => hz e (by simp [he])) i, Nat.succ_mul, List.take_append]
      rw [show i * z + z - e.length = i * z by omega, List.take_of_length_le (by omega)]

theorem flatten_elem {es : List (List AV)} {z i : Nat} {e : List AV} (hz : ∀ e ∈ es, e.length = z) (hi : es[i]? = some e) : (es.flatten.drop (i * z)).take z = e := by
  rw [flatten_drop hz i]
  obtain ⟨hlt, he⟩ := List.getElem?_eq_some_iff.1 hi
  rw [List.drop_eq_getElem_cons hlt, List.flatten_cons, he]
  have : e.length = z := hz e (List.mem_of_getElem? hi)
  rw [List.take_append_of_le_length (by omega), List.take_of_length_le (by omega)]

theorem flatten_set {es : List (List AV)} {z : Nat} : ∀ (i : Nat) {e xs : List AV} (o : Nat), (∀ e ∈ es, e.length = z) → es[i]? = some e → o + xs.length ≤ z →
    (es.set i (splice e o xs)).flatten = splice es.flatten (i * z + o) xs := by
  induction es with
  | nil => intro i e xs o _ hi; simp at hi
  | cons a es ih =>
    intro i e xs o hz hi ho
    have ha : a.length = z := hz a (by simp)
    cases i with
    | zero =>
      simp only [List.getElem?_cons_zero, Option.some.injEq] at hi
      subst hi
      simp only [List.set_cons_zero, List.flatten_cons, splice, Nat.zero_mul, Nat.zero_add]
      rw [List.take_append_of_le_length (by omega), List.drop_append_of_le_length (by omega)]
      simp
    | succ i =>
      simp only [List.getElem?_cons_succ] at hi
      simp only [List.set_cons_succ, List.flatten_cons]
      rw [ih i o (fun e he => hz e (by simp [he])) hi ho]
      unfold splice
      rw [Nat.succ_mul, List.take_append, List.drop_append, List.take_of_length_le (l := a) (by omega), List.drop_of_length_le (l := a) (by omega)]
      rw [show i * z + z + o - a.length = i * z + o by omega, show i * z + z + o + xs.length - a.length = i * z + o + xs.length by omega]
      simp

/-- What an element's piece reads as. -/
theorem ArrAt.read {t : TypeId} {es : List (List AV)} {pl : Place} (k : ArrAt φ S h t es pl) {i : Nat} {e : List AV} (hi : es[i]? = some e) (o n : Nat) (hn : o + n ≤ e.length) :
    ∃ c fr vs, h[pl.blk]? = some (.cells c t fr) ∧ VRels φ S h ((e.drop o).take n) vs ∧ Seg c (pl.shift + i * pl.esz + o) vs ∧ vs.length = n ∧ pl.shift + i * pl.esz + o + n ≤ c.size := by
  obtain ⟨hl, hw, hrm, c, fr, vs, h1, h2, h3, h4, h5⟩ := k
  have he : e.length = pl.esz := hw e (List.mem_of_getElem? hi)
  obtain ⟨hlt, _⟩ := List.getElem?_eq_some_iff.1 hi
  have hfl := flatten_length hw
  have hvl := h2.length
  have hm : i * pl.esz + pl.esz ≤ es.length * pl.esz := by
    have := Nat.mul_le_mul_right pl.esz (show i + 1 ≤ es.length by omega)
    rwa [Nat.succ_mul] at this
  have hr := ((h2.drop (i * pl.esz + o)).take n)
  have e1 : (es.flatten.drop (i * pl.esz + o)).take n = (e.drop o).take n := by
    conv => rhs; rw [← flatten_elem hw hi]
    rw [List.drop_take, List.drop_drop, List.take_take, Nat.min_eq_left (by omega)]
  rw [e1] at hr
  refine ⟨c, fr, _, h1, hr, ?_, by simp; omega, ?_⟩
  · rw [Nat.add_assoc]; exact (h3.drop (i * pl.esz + o) (by omega)).take n
  · have hm2 : es.length * pl.esz ≤ (pl.cnt + pl.extra) * pl.esz := Nat.mul_le_mul_right _ (by omega)
    omega

/-- An element's piece written. -/
theorem ArrAt.write {t : TypeId} {es : List (List AV)} {pl : Place} (k : ArrAt φ S h t es pl) {i : Nat} {e : List AV} (hi : es[i]? = some e) {o : Nat} {xs : List AV} {us : List Value}
    (hn : o + xs.length ≤ e.length) (hx : VRels φ S h xs us) : ∃ c fr, h[pl.blk]? = some (.cells c t fr) ∧ pl.shift + i * pl.esz + o + us.length ≤ c.size ∧
      (∀ j, j < us.length → (decide (fr.1 ≤ pl.shift + i * pl.esz + o + j) && decide (pl.shift + i * pl.esz + o + j < fr.2)) = false) ∧
      ∀ h', h'[pl.blk]? = some (.cells (over c (pl.shift + i * pl.esz + o) us) t fr) → Sealed S h h' → ArrAt φ S h' t (es.set i (splice e o xs)) pl := by
  obtain ⟨hl, hw, hrm, c, fr, vs, h1, h2, h3, h4, h5⟩ := k
  have he : e.length = pl.esz := hw e (List.mem_of_getElem? hi)
  obtain ⟨hlt, _⟩ := List.getElem?_eq_some_iff.1 hi
  have hfl := flatten_length hw
  have hvl := h2.length
  have hxl := hx.length
  have hm : i * pl.esz + pl.esz ≤ es.length * pl.esz := by
    have := Nat.mul_le_mul_right pl.esz (show i + 1 ≤ es.length by omega)
    rwa [Nat.succ_mul] at this
  have hm2 : es.length * pl.esz ≤ (pl.cnt + pl.extra) * pl.esz := Nat.mul_le_mul_right _ (by omega)
  refine ⟨c, fr, h1, by omega, fun j hj => h5 _ (by omega) (by omega), fun h' hh' hs => ⟨by simpa using hl, ?_, hrm, ?_⟩⟩
  · intro a ha
    rcases List.mem_or_eq_of_mem_set ha with ha | ha
    · exact hw a ha
    · rw [ha, splice_length hn, he]
  · refine ⟨_, fr, splice vs (i * pl.esz + o) us, hh', ?_, ?_, by simpa using h4, h5⟩
    · rw [flatten_set i o hw hi (by omega)]
      exact (h2.mono (Ext.refl _) (fun _ h => h) hs).splice (hx.mono (Ext.refl _) (fun _ h => h) hs) _
    · rw [Nat.add_assoc]
      exact h3.over (by omega) (by omega)

end Go.Abs
namespace Go.Abs
variable {φ : Names} {S : Nat → Prop} {h : Array Obj}

theorem flatten_splice {es els : List (List AV)} {z j : Nat} (hz : ∀ e ∈ es, e.length = z) (hw : ∀ e ∈ els, e.length = z) : (splice es j els).flatten = splice es.flatten (j * z) els.flatten := by
  unfold splice
  rw [List.flatten_append, List.flatten_append, flatten_take hz, flatten_length hw, ← Nat.add_mul, flatten_drop hz]

/-- Elements of a row written. -/
theorem ArrAt.writeEls {t : TypeId} {es els : List (List AV)} {pl : Place} (k : ArrAt φ S h t es pl) {j : Nat} {us : List Value} (hle : j + els.length ≤ es.length) (hw : ∀ e ∈ els, e.length = pl.esz) (hx : VRels φ S h els.flatten us) :
    ∃ c fr, h[pl.blk]? = some (.cells c t fr) ∧ pl.shift + j * pl.esz + us.length ≤ c.size ∧
      (∀ q, q < us.length → (decide (fr.1 ≤ pl.shift + j * pl.esz + q) && decide (pl.shift + j * pl.esz + q < fr.2)) = false) ∧
      ∀ h', h'[pl.blk]? = some (.cells (over c (pl.shift + j * pl.esz) us) t fr) → Sealed S h h' → ArrAt φ S h' t (splice es j els) pl := by
  obtain ⟨hl, hwd, hrm, c, fr, vs, h1, h2, h3, h4, h5⟩ := k
  have hfl := flatten_length hwd
  have hvl := h2.length
  have hxl := hx.length
  rw [flatten_length hw] at hxl
  have hm : j * pl.esz + els.length * pl.esz ≤ es.length * pl.esz := by rw [← Nat.add_mul]; exact Nat.mul_le_mul_right _ hle
  have hm2 : es.length * pl.esz ≤ (pl.cnt + pl.extra) * pl.esz := Nat.mul_le_mul_right _ (by omega)
  refine ⟨c, fr, h1, by omega, fun q hq => h5 _ (by omega) (by omega), fun h' hh' hs => ⟨by rw [splice_length hle]; exact hl, ?_, hrm, ?_⟩⟩
  · intro a ha
    simp only [splice, List.mem_append] at ha
    rcases ha with ha | ha | ha
    · exact hwd a (List.mem_of_mem_take ha)
    · exact hw a ha
    · exact hwd a (List.mem_of_mem_drop ha)
  · refine ⟨_, fr, splice vs (j * pl.esz) us, hh', ?_, ?_, by simpa using h4, h5⟩
    · rw [flatten_splice hwd hw]
      exact (h2.mono (Ext.refl _) (fun _ h => h) hs).splice (hx.mono (Ext.refl _) (fun _ h => h) hs) _
    · exact h3.over (by omega) (by omega)
end Go.Abs
