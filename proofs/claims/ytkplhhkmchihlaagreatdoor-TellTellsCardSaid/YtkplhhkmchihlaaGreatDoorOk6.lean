/- Structs and rows that are made: met. -/
import Derived.Test.YtkplhhkmchihlaaGreatDoorOk5
namespace Go.Abs
variable {X : Type} {R : Rep X} {P : Program} {φ : Names} {S : Nat → Prop} {h : Array Obj}

inductive Parts (φ : Names) (S : Nat → Prop) (h : Array Obj) : List (Nat × AV) → List (Nat × Value) → Prop
  | nil : Parts φ S h [] []
  | cons {i : Nat} {a : AV} {v : Value} {as : List (Nat × AV)} {vs : List (Nat × Value)} (hv : VRel φ S h a v) (ht : Parts φ S h as vs) : Parts φ S h ((i, a) :: as) ((i, v) :: vs)

theorem foldl_splice : ∀ (xs : List Value) (off k : Nat) (c : Array Value), off + k + xs.length ≤ c.size →
    (xs.zipIdx k).foldl (fun cs (p : Value × Nat) => cs.setIfInBounds (off + p.2) p.1) c = over c (off + k) xs := by
  intro xs
  induction xs with
  | nil => intro off k c _; rfl
  | cons x xs ih =>
    intro off k c hc
    simp only [List.length_cons] at hc
    simp only [List.zipIdx_cons, List.foldl_cons, over]
    rw [ih off (k + 1) _ (by simp; omega)]
    rfl

theorem over_list {c : Array Value} {off : Nat} {xs : List Value} (hc : off + xs.length ≤ c.size) : (over c off xs).toList = splice c.toList off xs := by
  apply List.ext_getElem?
  intro j
  rw [splice_get (by simpa using hc)]
  have := over_get xs c off j hc
  rw [← Array.getElem?_toList] at this
  rw [this]
  simp

theorem cells_rel_of {a : AV} {v : Value} (k : VRel φ S h a v) (hone : oneAll a.cells = true) : VRels φ S h a.cells v.cells.toList := AV.cells_rel k hone

theorem fill_ok {place : Nat → Option (Nat × Nat)} : ∀ {ps : List (Nat × AV)} {qs : List (Nat × Value)} {cs r : List AV} {c : Array Value}, Parts φ S h ps qs → fillCells place cs ps = some r → VRels φ S h cs c.toList →
    ∃ d, Instr.fill place c qs = some d ∧ VRels φ S h r d.toList
  | _, _, cs, r, c, .nil, hf, hv => by simp [fillCells] at hf; subst hf; exact ⟨c, rfl, hv⟩
  | _, _, cs, r, c, .cons (i := i) (a := a) (v := v) hv0 ht, hf, hv => by
    simp only [fillCells] at hf
    simp only [Instr.fill]
    cases hp : place i with
    | none => simp [hp] at hf
    | some q =>
      obtain ⟨off, size⟩ := q
      simp only [hp] at hf
      split at hf
      · rename_i hn
        obtain ⟨hn1, hn2, hn3⟩ := hn
        have hc := AV.cells_rel hv0 hn3
        have hlen : a.cells.length = v.cells.size := by rw [hc.length]; simp
        have hcl : cs.length = c.size := by rw [hv.length]; simp
        rw [hlen] at hn1 hn2
        rw [hcl] at hn2
        have hfold : (v.cells.zipIdx.foldl (fun cs (x : Value × Nat) => cs.setIfInBounds (off + x.2) x.1) c) = over c off v.cells.toList := by
          rw [← Array.foldl_toList, Array.toList_zipIdx]
          have := foldl_splice v.cells.toList off 0 c (by simpa using hn2)
          simpa using this
        have hnext := fill_ok (c := over c off v.cells.toList) ht hf (by rw [over_list (by simpa using hn2)]; exact hv.splice hc off)
        obtain ⟨d, h1, h2⟩ := hnext
        refine ⟨d, ?_, h2⟩
        simp only []
        rw [if_neg (by simp [hn1]; omega)]
        rw [← h1]
        congr 1
      · cases hf

theorem splice_full {α : Type} (l : List α) : splice l 0 [] = l := by simp [splice]

/-- Rows filled element by element. -/
theorem fillEls_ok {z : Nat} : ∀ {ps : List (Nat × AV)} {qs : List (Nat × Value)} {es r : List (List AV)} {c : Array Value}, Parts φ S h ps qs → fillEls z es ps = some r → (∀ e ∈ es, e.length = z) → VRels φ S h es.flatten c.toList →
    ∃ d, Instr.fill (fun i => some (i * z, z)) c qs = some d ∧ VRels φ S h r.flatten d.toList ∧ (∀ e ∈ r, e.length = z) ∧ r.length = es.length
  | _, _, es, r, c, .nil, hf, hz, hv => by simp [fillEls] at hf; subst hf; exact ⟨c, rfl, hv, hz, rfl⟩
  | _, _, es, r, c, .cons (i := i) (a := a) (v := v) hv0 ht, hf, hz, hv => by
    simp only [fillEls] at hf
    simp only [Instr.fill]
    split at hf
    · rename_i hn
      obtain ⟨hn1, hn2, hn3⟩ := hn
      have hc := AV.cells_rel hv0 hn3
      have hlen : a.cells.length = v.cells.size := by rw [hc.length]; simp
      have hcl := hv.length
      have hfl := flatten_length hz
      have hm : i * z + z ≤ es.length * z := by
        have := Nat.mul_le_mul_right z (show i + 1 ≤ es.length by omega)
        rwa [Nat.succ_mul] at this
      simp only [Array.length_toList] at hcl
      have hn2' : i * z + v.cells.size ≤ c.size := by omega
      have hget : es[i]? = some es[i] := List.getElem?_eq_getElem hn2
      have hset : (es.set i a.cells).flatten = splice es.flatten (i * z) a.cells := by
        have h0 := flatten_set i (e := es[i]) (xs := a.cells) 0 hz hget (by omega)
        have h1 : splice es[i] 0 a.cells = a.cells := by
          have : es[i].length = z := hz _ (List.getElem_mem _)
          simp [splice, List.drop_of_length_le (show es[i].length ≤ a.cells.length by omega)]
        rw [h1] at h0
        simpa using h0
      have hfold : (v.cells.zipIdx.foldl (fun cs (x : Value × Nat) => cs.setIfInBounds (i * z + x.2) x.1) c) = over c (i * z) v.cells.toList := by
        rw [← Array.foldl_toList, Array.toList_zipIdx]
        have := foldl_splice v.cells.toList (i * z) 0 c (by simpa using hn2')
        simpa using this
      obtain ⟨d, h1, h2, h3, h4⟩ := fillEls_ok (c := over c (i * z) v.cells.toList) ht hf
        (by
          intro e he
          rcases List.mem_or_eq_of_mem_set he with he | he
          · exact hz e he
          · rw [he, hn1])
        (by rw [over_list (by simpa using hn2'), hset]; exact hv.splice hc _)
      refine ⟨d, ?_, h2, h3, by simpa using h4⟩
      rw [if_neg (by simp [← hlen, hn1]; omega)]
      rw [← h1]
      congr 1
    · cases hf

theorem range_mod {α : Type} (f : Nat → α) (z : Nat) : ∀ n, (List.range (n * z)).map (fun k => f (k % z)) = (List.replicate n ((List.range z).map f)).flatten
  | 0 => by simp
  | n + 1 => by
    rw [List.replicate_succ, List.flatten_cons, ← range_mod f z n, Nat.succ_mul, Nat.add_comm, List.range_add, List.map_append, List.map_map]
    congr 1
    · apply List.map_congr_left
      intro k hk
      rw [Nat.mod_eq_of_lt (List.mem_range.1 hk)]
    · apply List.map_congr_left
      intro k _
      simp

theorem range_get (l : List Value) : (List.range l.length).map (fun k => l.toArray[k]!) = l := by
  apply List.ext_getElem?
  intro j
  by_cases hj : j < l.length
  · simp [hj]
  · simp [hj]

theorem VRels.rep {as : List AV} {vs : List Value} (hv : VRels φ S h as vs) : ∀ n, VRels φ S h (List.replicate n as).flatten (List.replicate n vs).flatten
  | 0 => by simp; exact .nil
  | n + 1 => by rw [List.replicate_succ, List.replicate_succ, List.flatten_cons, List.flatten_cons]; exact hv.append (hv.rep n)

/-- The zeros of a new row. -/
theorem zeros_eq (v : Value) (n z : Nat) (hz : v.cells.size = z) : ((Array.range (n * z)).map fun k => v.cells[k % v.cells.size]!).toList = (List.replicate n v.cells.toList).flatten := by
  have := range_mod (fun k => v.cells[k]!) z n
  rw [Array.toList_map, Array.toList_range, hz, this]
  congr 2
  have := range_get v.cells.toList
  simpa [hz] using this

end Go.Abs
