/- Slicing, and making of values and rows: met. -/
import Derived.Test.YtkplhhkmchihlaaGreatDoorOk4
namespace Go.Abs
variable {X : Type} {R : Rep X} {P : Program} {φ : Names} {S : Nat → Prop} {h : Array Obj}

inductive OptRel (φ : Names) (S : Nat → Prop) (h : Array Obj) : Option AV → Option Value → Prop
  | none : OptRel φ S h none none
  | some {a : AV} {v : Value} (hv : VRel φ S h a v) : OptRel φ S h (some a) (some v)

theorem sliceBound_ok {a : AV} {v : Value} {i : Int} {y y' : Nat} (w : World) (ha : asI a = some i) (hv : VRel φ S h a v) (h0 : 0 ≤ i) (hi : i ≤ y) (hy : y ≤ y') (code : BoundsCode) :
    (Instr.sliceBound v y' code).run P w = .ok i.toNat w := by
  obtain ⟨k, rfl⟩ := asI_rel ha hv
  have : 0 ≤ i ∧ i ≤ (y' : Int) := ⟨h0, by omega⟩
  simp [Instr.sliceBound, asIntOf, this]

theorem bounds_ok {len cap cap' : Nat} {lo hi mx : Option AV} {lo' hi' mx' : Option Value} {l k m : Nat} (isS : Bool) (w : World) (hb : bounds len cap lo hi mx = some (l, k, m)) (hle : cap ≤ cap') (hlc : len ≤ cap)
    (r1 : OptRel φ S h lo lo') (r2 : OptRel φ S h hi hi') (r3 : OptRel φ S h mx mx') :
    (Instr.sliceBounds isS len cap' lo' hi' mx').run P w = .ok (l, k, if mx.isSome then m else cap') w ∧ l ≤ k ∧ k ≤ m ∧ m ≤ cap ∧ (mx = none → m = cap) := by
  unfold bounds at hb
  cases r3 with
  | none =>
    simp only [Option.bind_some] at hb
    cases r2 with
    | none =>
      simp only [Option.isSome_none, Bool.false_eq_true, if_false, Option.bind_some] at hb
      cases r1 with
      | none =>
        simp at hb; obtain ⟨rfl, rfl, rfl⟩ := hb
        simp [Instr.sliceBounds, hlc]
      | some hv =>
        rename_i a v
        cases ha : asI a with
        | none => simp [ha] at hb
        | some i =>
          simp only [ha, Option.bind_some] at hb
          split at hb
          · rename_i hin
            simp at hb; obtain ⟨rfl, rfl, rfl⟩ := hb
            have hrun := fun code => sliceBound_ok (P := P) (y := len) (y' := len) w ha hv hin.1 hin.2 (Nat.le_refl _) code
            refine ⟨?_, by omega, hlc, Nat.le_refl _, fun _ => rfl⟩
            simp [Instr.sliceBounds, hrun]
          · simp at hb
    | some hv2 =>
      rename_i a2 v2
      cases ha2 : asI a2 with
      | none => simp [ha2] at hb
      | some i2 =>
        simp only [ha2, Option.bind_some] at hb
        split at hb
        · rename_i hin2
          simp only [Option.bind_some] at hb
          have hrun2 := fun code => sliceBound_ok (P := P) (y := cap) (y' := cap') w ha2 hv2 hin2.1 hin2.2 hle code
          cases r1 with
          | none =>
            simp at hb; obtain ⟨rfl, rfl, rfl⟩ := hb
            refine ⟨?_, Nat.zero_le _, by omega, Nat.le_refl _, fun _ => rfl⟩
            simp [Instr.sliceBounds, hrun2]
          | some hv =>
            rename_i a v
            cases ha : asI a with
            | none => simp [ha] at hb
            | some i =>
              simp only [ha, Option.bind_some] at hb
              split at hb
              · rename_i hin
                simp at hb; obtain ⟨rfl, rfl, rfl⟩ := hb
                have hrun := fun code => sliceBound_ok (P := P) (y := i2.toNat) (y' := i2.toNat) w ha hv hin.1 hin.2 (Nat.le_refl _) code
                refine ⟨?_, by omega, by omega, Nat.le_refl _, fun _ => rfl⟩
                simp [Instr.sliceBounds, hrun2, hrun]
              · simp at hb
        · simp at hb
  | some hv3 =>
    rename_i a3 v3
    cases ha3 : asI a3 with
    | none => simp [ha3] at hb
    | some i3 =>
      simp only [ha3, Option.bind_some] at hb
      split at hb
      · rename_i hin3
        simp only [Option.bind_some] at hb
        have hrun3 := fun code => sliceBound_ok (P := P) (y := cap) (y' := cap') w ha3 hv3 hin3.1 hin3.2 hle code
        cases r2 with
        | none => simp at hb
        | some hv2 =>
          rename_i a2 v2
          cases ha2 : asI a2 with
          | none => simp [ha2] at hb
          | some i2 =>
            simp only [ha2, Option.bind_some] at hb
            split at hb
            · rename_i hin2
              simp only [Option.bind_some] at hb
              have hrun2 := fun code => sliceBound_ok (P := P) (y := i3.toNat) (y' := i3.toNat) w ha2 hv2 hin2.1 hin2.2 (Nat.le_refl _) code
              cases r1 with
              | none =>
                simp at hb; obtain ⟨rfl, rfl, rfl⟩ := hb
                refine ⟨?_, Nat.zero_le _, by omega, by omega, fun h => by cases h⟩
                simp [Instr.sliceBounds, hrun3, hrun2]
              | some hv =>
                rename_i a v
                cases ha : asI a with
                | none => simp [ha] at hb
                | some i =>
                  simp only [ha, Option.bind_some] at hb
                  split at hb
                  · rename_i hin
                    simp at hb; obtain ⟨rfl, rfl, rfl⟩ := hb
                    have hrun := fun code => sliceBound_ok (P := P) (y := i2.toNat) (y' := i2.toNat) w ha hv hin.1 hin.2 (Nat.le_refl _) code
                    refine ⟨?_, by omega, by omega, by omega, fun h => by cases h⟩
                    simp [Instr.sliceBounds, hrun3, hrun2, hrun]
                  · simp at hb
            · simp at hb
      · simp at hb

theorem sliceV_ok {t : TypeId} {x v : AV} {vx : Value} {lo hi mx : Option AV} {lo' hi' mx' : Option Value} (w : World) (hv : sliceV P t x lo hi mx = some v) (hx : VRel φ S h x vx)
    (r1 : OptRel φ S h lo lo') (r2 : OptRel φ S h hi hi') (r3 : OptRel φ S h mx mx') :
    ∃ v', (Instr.sliceAt t vx lo' hi' mx').run P w = .ok v' w ∧ VRel φ S h v v' := by
  unfold sliceV at hv
  split at hv
  · rename_i s hu
    split at hv
    · cases hv
    · rename_i hm
      have hmn : mx = none := by cases mx <;> simp at hm ⊢
      subst hmn
      cases r3
      cases hb : bounds s.length s.length lo hi none with
      | none => simp [hb] at hv
      | some r =>
        obtain ⟨l, k, m⟩ := r
        simp [hb] at hv; subst hv
        cases hx with
        | str s =>
          obtain ⟨hrun, h1, h2, h3, h4⟩ := bounds_ok (P := P) (cap' := s.data.toList.length) false w hb (Nat.le_refl _) (Nat.le_refl _) r1 r2 .none
          have hsz : s.data.toList.length = s.size := by rw [Array.length_toList]; rfl
          rw [hsz] at hrun
          refine ⟨.string (s.extract l k), ?_, ?_⟩
          · simp [Instr.sliceAt, run_und w hu, Instr.slice, hrun]
          · have : (s.extract l k).data.toList = (s.data.toList.drop l).take (k - l) := by
              simp [ByteArray.data_extract, List.take_drop]
            rw [← this]; exact .str _
  · rename_i e y n j len cap hu
    split at hv
    · rename_i hz
      cases hx with
      | sl hn hy hlc =>
        rename_i pl
        have hcc : cap ≤ capOf pl j cap := by unfold capOf; split <;> omega
        cases r3 with
        | none =>
          simp only at hv
          cases hb : bounds len cap lo hi none with
          | none => simp [hb] at hv
          | some r =>
            obtain ⟨l, k, m⟩ := r
            simp only [hb, Option.map_some, Option.some.injEq] at hv
            obtain ⟨hrun, h1, h2, h3, h4⟩ := bounds_ok (P := P) true w hb hcc hlc r1 r2 .none
            have hm := h4 rfl
            subst hm
            simp only [Option.isSome_none, Bool.false_eq_true, if_false] at hrun
            have hall : (Instr.sliceAt t (.slice (some ⟨pl.blk, pl.shift + j * pl.esz, none⟩) len (capOf pl j m)) lo' hi' none).run P w =
                .ok (.slice (if capOf pl j m = l then some ⟨pl.blk, pl.shift + j * pl.esz, none⟩ else some ⟨pl.blk, pl.shift + j * pl.esz + l * y.z, none⟩) (k - l) (capOf pl j m - l)) w := by
              simp [Instr.sliceAt, run_und w hu, Instr.slice, hrun, run_size w (elem_size hz), add_plain]
            refine ⟨_, hall, ?_⟩
            split at hv
            · rename_i hc0
              subst hv
              have : k - l = 0 := by omega
              rw [this]
              exact .islNil
            · rename_i hc0
              subst hv
              refine (?_ : VRel φ S h _ (Value.slice (some ⟨pl.blk, if capOf pl j m = l then pl.shift + j * pl.esz else pl.shift + j * pl.esz + l * y.z, none⟩) (k - l) (capOf pl j m - l))) |> fun q => by
                split <;> simpa [*] using q
              refine .sl' hn hy (by omega) ?_ ?_
              · split
                · rename_i hcl
                  have hl0 : l = 0 := by omega
                  rw [hl0, ← hy, Nat.add_zero]
                · rw [← hy, Nat.add_mul]; simp only [Place.esz]; omega
              · unfold capOf
                by_cases he : j + m = pl.cnt
                · rw [if_pos he, if_pos (by omega)]; omega
                · rw [if_neg he, if_neg (by omega)]
        | some hv3 =>
          simp only at hv
          rename_i a3 v3
          cases hb : bounds len cap lo hi (some a3) with
          | none => simp [hb] at hv
          | some r =>
            obtain ⟨l, k, m⟩ := r
            simp only [hb, Option.map_some, Option.some.injEq] at hv
            obtain ⟨hrun, h1, h2, h3, h4⟩ := bounds_ok (P := P) true w hb hcc hlc r1 r2 (.some hv3)
            simp only [Option.isSome_some, if_true] at hrun
            have hall : (Instr.sliceAt t (.slice (some ⟨pl.blk, pl.shift + j * pl.esz, none⟩) len (capOf pl j cap)) lo' hi' (some v3)).run P w =
                .ok (.slice (if m = l then some ⟨pl.blk, pl.shift + j * pl.esz, none⟩ else some ⟨pl.blk, pl.shift + j * pl.esz + l * y.z, none⟩) (k - l) (m - l)) w := by
              simp [Instr.sliceAt, run_und w hu, Instr.slice, hrun, run_size w (elem_size hz), add_plain]
            refine ⟨_, hall, ?_⟩
            split at hv
            · subst hv
              have e1 : k - l = 0 := by omega
              have e2 : m - l = 0 := by omega
              rw [e1, e2]; exact .zsl
            · subst hv; exact .any _
    · cases hv
  · rename_i e wd es hu
    split at hv
    · rename_i hz
      cases r3 with
      | none =>
        simp only at hv
        cases hb : bounds es.length es.length lo hi none with
        | none => simp [hb] at hv
        | some r =>
          obtain ⟨l, k, m⟩ := r
          simp only [hb, Option.map_some, Option.some.injEq] at hv
          subst hv
          cases hx with
          | isl hS hh hs hz' hc hby hvs =>
            rename_i vs b off cap c t' fr
            obtain ⟨hrun, h1, h2, h3, h4⟩ := bounds_ok (P := P) true w hb hc (Nat.le_refl _) r1 r2 .none
            have hm := h4 rfl
            simp only [Option.isSome_none, Bool.false_eq_true, if_false] at hrun
            have hall : (Instr.sliceAt t (.slice (some ⟨b, off, none⟩) es.length cap) lo' hi' none).run P w =
                .ok (.slice (if cap = l then some ⟨b, off, none⟩ else some ⟨b, off + l * wd.z, none⟩) (k - l) (cap - l)) w := by
              simp [Instr.sliceAt, run_und w hu, Instr.slice, hrun, run_size w (elem_size hz), add_plain]
            refine ⟨_, hall, ?_⟩
            by_cases hk : k - l = 0
            · have : (es.drop l).take (k - l) = [] := by rw [hk]; rfl
              rw [this, hk]; exact .islNil
            · rw [if_neg (by omega)]
              have hlen : ((es.drop l).take (k - l)).length = k - l := by simp; omega
              have hfl := flatten_length hz'
              have hvl := hvs.length
              have hsub : ∀ x ∈ (es.drop l).take (k - l), x.length = wd.z := fun x hx => hz' x (List.mem_of_mem_drop (List.mem_of_mem_take hx))
              have hlw : l * wd.z ≤ es.length * wd.z := Nat.mul_le_mul_right _ (by omega)
              have hs2 := (hs.drop (l * wd.z) (by omega)).take ((k - l) * wd.z)
              have hv2 := (hvs.drop (l * wd.z)).take ((k - l) * wd.z)
              rw [flatten_drop hz', flatten_take (fun x hx => hz' x (List.mem_of_mem_drop hx))] at hv2
              have hfin := VRel.isl hS hh hs2 hsub (cap := cap - l) (by rw [hlen]; omega) (by rw [hlen]; exact Nat.le_trans (Nat.mul_le_mul_right _ (by omega)) hby) hv2
              rw [hlen] at hfin
              exact hfin
          | islNil =>
            rename_i cap a
            simp at hb
            obtain ⟨hrun, h1, h2, h3, h4⟩ := bounds_ok (P := P) (cap' := cap) true w hb (Nat.zero_le _) (Nat.le_refl _) r1 r2 .none
            have hm := h4 rfl
            have : k - l = 0 := by omega
            simp only [Option.isSome_none, Bool.false_eq_true, if_false] at hrun
            refine ⟨.slice (if cap = l then a else a.map (·.add (l * wd.z))) (k - l) (cap - l), by simp [Instr.sliceAt, run_und w hu, Instr.slice, hrun, run_size w (elem_size hz)], ?_⟩
            rw [this]; exact .islNil
      | some hv3 =>
        simp only at hv
        rename_i a3 v3
        cases hb : bounds es.length es.length lo hi (some a3) with
        | none => simp [hb] at hv
        | some r =>
          obtain ⟨l, k, m⟩ := r
          simp only [hb, Option.map_some, Option.some.injEq] at hv
          have fin : ∀ {a : Option Addr} {cap : Nat}, (Instr.sliceBounds true es.length cap lo' hi' (some v3)).run P w = .ok (l, k, m) w → l ≤ k → k ≤ m →
              ∃ v', (Instr.sliceAt t (.slice a es.length cap) lo' hi' (some v3)).run P w = .ok v' w ∧ VRel φ S h v v' := by
            intro a cap hrun h1 h2
            refine ⟨.slice (if m = l then a else a.map (·.add (l * wd.z))) (k - l) (m - l), by simp [Instr.sliceAt, run_und w hu, Instr.slice, hrun, run_size w (elem_size hz)], ?_⟩
            split at hv
            · subst hv
              have e1 : k - l = 0 := by omega
              have e2 : m - l = 0 := by omega
              rw [e1, e2]; exact .zsl
            · subst hv; exact .any _
          cases hx with
          | isl hS hh hs hz' hc hby hvs =>
            obtain ⟨hrun, h1, h2, h3, h4⟩ := bounds_ok (P := P) true w hb hc (Nat.le_refl _) r1 r2 (.some hv3)
            exact fin (by simpa using hrun) h1 h2
          | islNil =>
            rename_i cap a
            obtain ⟨hrun, h1, h2, h3, h4⟩ := bounds_ok (P := P) (cap' := cap) true w hb (by simp) (Nat.le_refl _) r1 r2 (.some hv3)
            exact fin (by simpa using hrun) h1 h2
    · cases hv
  · rename_i e hu
    split at hv
    · rename_i hz
      obtain ⟨z, hz⟩ := Option.isSome_iff_exists.1 hz
      cases hb : bounds 0 0 lo hi mx with
      | none => simp [hb] at hv
      | some r =>
        obtain ⟨l, k, m⟩ := r
        simp [hb] at hv; subst hv
        cases hx
        obtain ⟨hrun, h1, h2, h3, h4⟩ := bounds_ok (P := P) (cap' := 0) true w hb (Nat.le_refl _) (Nat.le_refl _) r1 r2 r3
        have hm : (if mx.isSome = true then m else 0) = 0 := by split <;> omega
        rw [hm] at hrun
        have hl : l = 0 := by omega
        have hk : k = 0 := by omega
        subst hl; subst hk
        exact ⟨.slice none 0 0, by simp [Instr.sliceAt, Instr.slice, run_und w hu, hrun, run_size w hz], .nils⟩
    · cases hv
  · rename_i e hu
    split at hv
    · rename_i hz
      obtain ⟨z, hz⟩ := Option.isSome_iff_exists.1 hz
      cases hb : bounds 0 0 lo hi mx with
      | none => simp [hb] at hv
      | some r =>
        obtain ⟨l, k, m⟩ := r
        simp [hb] at hv; subst hv
        cases hx
        rename_i a
        obtain ⟨hrun, h1, h2, h3, h4⟩ := bounds_ok (P := P) (cap' := 0) true w hb (Nat.le_refl _) (Nat.le_refl _) r1 r2 r3
        have hm : (if mx.isSome = true then m else 0) = 0 := by split <;> omega
        rw [hm] at hrun
        have hl : l = 0 := by omega
        have hk : k = 0 := by omega
        subst hl; subst hk
        exact ⟨.slice a 0 0, by simp [Instr.sliceAt, Instr.slice, run_und w hu, hrun, run_size w hz], .zsl⟩
    · cases hv
  · cases hv

end Go.Abs
