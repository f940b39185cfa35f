/- Places and pieces: met. -/
import Derived.Test.YtkplhhkmchihlaaGreatDoorOk3
namespace Go.Abs
variable {X : Type} {R : Rep X} {P : Program} {φ : Names} {S : Nat → Prop} {h : Array Obj}

theorem VRel.ptr' {n i o a : Nat} {pl : Place} (hn : φ n = some pl) (ha : a = pl.shift + i * pl.esz + o) : VRel φ S h (.ptr n i o) (.pointer (some ⟨pl.blk, a, none⟩)) := by subst ha; exact .ptr hn

theorem VRel.sl' {z : EZ} {n i len cap a c : Nat} {pl : Place} (hn : φ n = some pl) (hz : pl.ez = z) (hl : len ≤ cap) (ha : a = pl.shift + i * z.z) (hc : c = capOf pl i cap) : VRel φ S h (.sl z n i len cap) (.slice (some ⟨pl.blk, a, none⟩) len c) := by subst hz; subst ha; subst hc; exact .sl hn rfl hl

theorem fieldAt_ok {s : TypeId} {x v : AV} {f : Nat} {vx : Value} (w : World) (hv : fieldAt P s x f = some v) (hx : VRel φ S h x vx) : ∃ v', (Instr.fieldAt s vx f).run P w = .ok v' w ∧ VRel φ S h v v' := by
  unfold fieldAt at hv
  split at hv
  · rename_i t off hf
    split at hv
    · cases hv
    · rename_i hz
      cases hs : sizeT P t with
      | none => simp [hs] at hz
      | some z =>
        have hz0 : z ≠ 0 := fun e => hz (.inl (by rw [hs, e]))
        unfold fieldOff at hf
        cases hu : P.underlying s with
        | none => simp [hu] at hf
        | some d =>
          cases d with
          | struct fs =>
            simp only [hu] at hf
            cases hg : fs[f]? with
            | none => simp [hg] at hf
            | some fd =>
              simp [hg] at hf
              obtain ⟨rfl, rfl⟩ := hf
              have hplace : ∀ b o, (Instr.fieldAt s (.pointer (some ⟨b, o, none⟩)) f).run P w = .ok (.pointer (some ⟨b, o + fd.offset, none⟩)) w := by
                intro b o
                simp [Instr.fieldAt, run_und w hu, hg, Instr.sureAddr, fieldPlace, run_size w hs, hz0, add_plain]
              split at hv
              · rename_i n i o
                simp at hv; subst hv
                cases hx with
                | ptr hn => exact ⟨_, hplace _ _, .ptr' hn (by omega)⟩
              · rename_i cs
                split at hv
                · rename_i hle
                  simp at hv; subst hv
                  cases hx with
                  | pel hS hh hs' hvs => exact ⟨_, hplace _ _, .pel hS hh (hs'.drop _ (by rw [← hvs.length]; exact hle)) (hvs.drop _)⟩
                · cases hv
              · cases hv
          | _ => simp [hu] at hf
  · cases hv

theorem asI_rel {a : AV} {i : Int} {v : Value} (ha : asI a = some i) (hv : VRel φ S h a v) : ∃ k, v = .int k i := by
  cases hv <;> simp [asI] at ha
  subst ha; exact ⟨_, rfl⟩

theorem indexAt_ok {t : TypeId} {x ix v : AV} {vx vi : Value} (w : World) (hv : indexAt P t x ix = some v) (hx : VRel φ S h x vx) (hi : VRel φ S h ix vi) : ∃ v', (Instr.indexAt t vx vi).run P w = .ok v' w ∧ VRel φ S h v v' := by
  unfold indexAt at hv
  split at hv
  · rename_i len e i hu ha
    obtain ⟨k, rfl⟩ := asI_rel ha hi
    split at hv
    · rename_i z hz
      split at hv
      · rename_i hin
        split at hv
        · rename_i n j o
          simp at hv; subst hv
          cases hx with
          | ptr hn =>
            refine ⟨_, ?_, .ptr' hn rfl⟩
            simp [Instr.indexAt, asIntOf, run_und w hu, Instr.sureAddr, hin, run_size w hz, add_plain, Nat.add_assoc]
        · rename_i cs
          split at hv
          · rename_i hle
            simp at hv; subst hv
            cases hx with
            | pel hS hh hs' hvs =>
              refine ⟨_, ?_, .pel hS hh (hs'.drop _ (by rw [← hvs.length]; exact hle)) (hvs.drop _)⟩
              simp [Instr.indexAt, asIntOf, run_und w hu, Instr.sureAddr, hin, run_size w hz, add_plain]
          · cases hv
        · cases hv
      · cases hv
    · cases hv
  · rename_i e i hu ha
    obtain ⟨k, rfl⟩ := asI_rel ha hi
    split at hv
    · rename_i z hz
      split at hv
      · rename_i y n j len cap
        split at hv
        · rename_i hin
          obtain ⟨h0, h1, rfl⟩ := hin
          simp at hv; subst hv
          cases hx with
          | sl hn hz' hl =>
            refine ⟨_, ?_, .ptr' hn rfl⟩
            simp [Instr.indexAt, asIntOf, run_und w hu, run_size w (elem_size hz), h0, h1, add_plain, Nat.add_assoc, Nat.add_mul, Place.esz, hz']
        · cases hv
      · rename_i wd es
        split at hv
        · rename_i hin
          obtain ⟨h0, rfl⟩ := hin
          cases hg : es[i.toNat]? with
          | none => simp [hg] at hv
          | some el =>
            simp [hg] at hv; subst hv
            obtain ⟨hlt, _⟩ := List.getElem?_eq_some_iff.1 hg
            cases hx with
            | isl hS hh hs hz' hc hby hvs =>
              have hfl := flatten_length hz'
              have he : el.length = wd.z := hz' el (List.mem_of_getElem? hg)
              have hm : i.toNat * wd.z + wd.z ≤ es.length * wd.z := by
                have := Nat.mul_le_mul_right wd.z (show i.toNat + 1 ≤ es.length by omega)
                rwa [Nat.succ_mul] at this
              have hvl := hvs.length
              have hs2 := (hs.drop (i.toNat * wd.z) (by omega)).take wd.z
              have hv2 := (hvs.drop (i.toNat * wd.z)).take wd.z
              rw [flatten_elem hz' hg] at hv2
              refine ⟨_, ?_, .pel hS hh hs2 hv2⟩
              simp [Instr.indexAt, asIntOf, run_und w hu, run_size w (elem_size hz), add_plain]
              intro hbad
              exact absurd (hbad h0) (by omega)
            | islNil => simp at hlt
        · cases hv
      · cases hv
    · cases hv
  · cases hv

theorem indexV_ok {t : TypeId} {x ix v : AV} {vx vi : Value} (w : World) (hv : indexV P t x ix = some v) (hx : VRel φ S h x vx) (hi : VRel φ S h ix vi) : ∃ v', (Instr.index t vx vi).run P w = .ok v' w ∧ VRel φ S h v v' := by
  unfold indexV at hv
  split at hv
  · rename_i len e cs i hu ha
    obtain ⟨k, rfl⟩ := asI_rel ha hi
    split at hv
    · rename_i z hz
      split at hv
      · rename_i hin
        cases hx with
        | agg hvs =>
          obtain ⟨v', h1, h2⟩ := part_ok w hv hvs
          refine ⟨v', ?_, h2⟩
          simp [Instr.index, asIntOf, run_und w hu, hin, run_size w hz, h1]
      · cases hv
    · cases hv
  · rename_i s i hu ha
    obtain ⟨k, rfl⟩ := asI_rel ha hi
    split at hv
    · rename_i h0
      cases hx with
      | str s =>
        cases hg : s.data.toList[i.toNat]? with
        | none => simp [hg] at hv
        | some b =>
          simp [hg] at hv; subst hv
          have hb : s[i.toNat]? = some b := by
            obtain ⟨hlt, he⟩ := List.getElem?_eq_some_iff.1 hg
            have hlt' : i.toNat < s.size := by rw [Array.length_toList] at hlt; exact hlt
            rw [getElem?_pos s i.toNat hlt']
            simp at he
            rw [← he]; rfl
          refine ⟨_, ?_, .int .u8 _⟩
          simp [Instr.index, asIntOf, run_und w hu, h0, hb]
    · cases hv
  · cases hv

end Go.Abs
