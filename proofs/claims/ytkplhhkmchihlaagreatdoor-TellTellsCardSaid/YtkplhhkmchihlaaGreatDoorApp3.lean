/- Append is met, or the memory is too small. -/
import Derived.Test.YtkplhhkmchihlaaGreatDoorApp25
namespace Go.Abs
variable {X : Type} {R : Rep X} {P : Program} {φ : Names} {F S : Nat → Prop} {H : Heap X}

theorem growBy_le (newLen : Nat) : ∀ (r c : Nat), Builtin.growBy newLen r c ≤ max c (newLen + (newLen + 768) / 4)
  | 0, c => Nat.le_max_left _ _
  | r + 1, c => by
    unfold Builtin.growBy
    split
    · exact Nat.le_max_left _ _
    · have := growBy_le newLen r (c + (c + 768) / 4)
      omega

theorem nextslicecap_le {need cap : Nat} (h : cap < need) : Builtin.nextslicecap need cap ≤ need + need / 4 + 1024 := by
  unfold Builtin.nextslicecap
  split
  · omega
  · split
    · omega
    · have := growBy_le need 4 cap
      omega

/-- What a new row of append's leaves. -/
theorem grown_row {w : World} (hr : HRel R φ F S H w.heap) {c : Nat} (hfree : φ c = none) {e : TypeId} {z : EZ} {zs : List Value} {els : List (List AV)} {vs : List Value} {k : Nat}
    (hz : ∀ x ∈ els, x.length = z.z) (hv : VRels φ S w.heap els.flatten vs) (hk : els.length ≤ k) (hzs : zs.length = z.z) (hroom : els.length * z.by_ ≤ 281474976710656) (arr : Array Value)
    (harr : arr = vs.toArray ++ Builtin.zeroCells zs.toArray (k - els.length)) :
    ∃ φ', Ext φ φ' ∧ φ' c = some ⟨w.heap.size, 0, z, els.length, k - els.length⟩ ∧ (∀ n, n ≠ c → φ' n = φ n) ∧
      HRel R φ' (fun b => F b ∨ b = w.heap.size) S (H.set c (.arr e els)) (w.heap.push (.cells arr e)) ∧
      Step φ F S w.heap φ' (fun b => F b ∨ b = w.heap.size) S (w.heap.push (.cells arr e)) ∧
      VRel φ' S (w.heap.push (.cells arr e)) (.sl z c 0 els.length els.length) (.slice (some ⟨w.heap.size, 0, none⟩) els.length k) := by
  have hvl := hv.length
  rw [flatten_length hz] at hvl
  obtain ⟨φ', h1, h2, h3, h4, h5⟩ := newRow_ok (R := R) hr hfree (t := e) (es := els) (z := z) (vs := vs) (cells := arr) (k - els.length) hz hv
    (by
      intro j hj
      subst harr
      rw [Nat.zero_add, Array.getElem?_append_left (by simpa using hj)]
      simp)
    (by
      subst harr
      rw [show els.length + (k - els.length) = k by omega]
      have : k * z.z = els.length * z.z + (k - els.length) * z.z := by rw [← Nat.add_mul]; congr 1; omega
      simp [Builtin.zeroCells, hzs]
      omega)
    hroom
  refine ⟨φ', h1, h2, h3, h4, h5, ?_⟩
  refine .sl' h2 rfl (Nat.le_refl _) (by simp) ?_
  simp [capOf]
  omega

set_option maxHeartbeats 1000000 in
theorem appendP_ok {t xt : TypeId} {s x v : AV} {vs vx : Value} {w : World} (hr : HRel R φ F S H w.heap) (hs : VRel φ S w.heap s vs) (hx : VRel φ S w.heap x vx) {b : Bool} {H' : Heap X} {c c' : Nat} {l : List (Act X)}
    (h : appendP P t xt s x b H c = some (v, H', c', l)) (hfree : ∀ n, c ≤ n → n < c' → φ n = none) (ty : TypeId) :
    SemOK R P φ F S w c c' (Builtin.append_ #[t, xt] ty #[vs, vx]) v H' := by
  unfold appendP at h
  cases hu : P.underlying t with
  | none => simp [hu, M.fail] at h
  | some d0 =>
  cases d0 with
  | slice e =>
    simp only [hu] at h
    cases hz : elemT P e with
    | none => simp [hz, M.fail] at h
    | some z =>
    cases hzt : zeroT P e with
    | none => simp [hz, hzt, M.fail] at h
    | some zs =>
      simp only [hz, hzt] at h
      by_cases hcond : zs.length = z.z ∧ 0 < z.z ∧ z.by_ ≠ 0 ∧ notIntT P xt = true
      · rw [if_pos hcond] at h
        obtain ⟨g1, g2, g3, g4⟩ := hcond
        obtain ⟨els, H1, c1, l1, l2, hsrc, hk⟩ := bind_some h
        obtain ⟨rfl, rfl⟩ := srcP_run hsrc
        obtain ⟨news, hS, hnv, hnz, hnl, hnb, hnew⟩ := srcP_ok (P := P) hr hx hsrc xt g4 g2
        by_cases hone : oneAll els.flatten = true
        · rw [if_pos hone] at hk
          -- the element's own row of the table
          obtain ⟨i, hi, hi1, hi2⟩ : ∃ i, P.info? e = some i ∧ i.size = z.z ∧ i.bytes = z.by_ := by
            unfold elemT at hz
            cases hi : P.info? e with
            | none => simp [hi] at hz
            | some i => simp [hi] at hz; subst hz; exact ⟨i, rfl, rfl, rfl⟩
          obtain ⟨zv, hzv, hzc⟩ : ∃ zv, i.zero = some zv ∧ ofCells zv.cells.toList = some zs := by
            unfold zeroT at hzt
            rw [hi] at hzt
            cases hzz : i.zero with
            | none => simp [hzz] at hzt
            | some zv => simp [hzz] at hzt; exact ⟨zv, rfl, hzt⟩
          have hzvl : zv.cells.toList.length = z.z := by
            have := (ofCells_rel (φ := φ) (S := S) (h := w.heap) hzc).length
            rw [← this]; exact g1
          have hS' : Src P i.size xt vx els.length news w := by rw [hi1]; exact hS
          have hb0 : i.bytes ≠ 0 := by rw [hi2]; exact g3
          obtain ⟨d, hd, hnd⟩ := hS'.typ
          have hb1 : 0 < z.by_ := Nat.pos_of_ne_zero g3
          -- a new row: onto elements that are there already
          have anew : ∀ (base : Option Addr) (len cap : Nat) (old : List (List AV)) (olds : List Value) (H2 : Heap X), HRel R φ F S H2 w.heap → vs = .slice base len cap → old.length = len → (∀ x ∈ old, x.length = z.z) → VRels φ S w.heap old.flatten olds →
              (∀ w' : World, w'.heap = w.heap → (Builtin.firstCells i.size len (.slice base len cap)).run P w' = .ok olds.toArray w') → cap < len + els.length →
              fitsE z (len + els.length) = true →
              ∀ (cc : Nat), φ cc = none →
              SemOK R P φ F S w cc (cc + 1) (Builtin.append_ #[t, xt] ty #[vs, vx]) (.sl z cc 0 (len + els.length) (len + els.length)) (H2.set cc (.arr e (old ++ els))) := by
            intro base len cap old olds H2 hr2 hvs hol hoz hov hfirst hlt hfits cc hcc
            subst hvs
            have hfits' : (len + els.length + (len + els.length) / 4 + 1024) * i.bytes ≤ 281474976710656 := by rw [hi2]; simpa [fitsE] using hfits
            have hnear : Builtin.nextslicecap (len + els.length) cap * i.bytes ≤ 281474976710656 :=
              Nat.le_trans (Nat.mul_le_mul_right _ (nextslicecap_le hlt)) hfits'
            have hby : (len + els.length) * z.by_ ≤ 281474976710656 := by
              rw [hi2] at hfits'
              exact Nat.le_trans (Nat.mul_le_mul_right _ (by omega)) hfits'
            have hrun := run_append_re (ty := ty) w hu hi hzv hb0 hS' base len cap olds hfirst hlt hnear
            have hk1 : (old ++ els).length ≤ grownCap w (len + els.length) cap e := by
              rw [List.length_append, hol]; exact grownCap_ge w _ _ e
            have hflat : (old ++ els).flatten = old.flatten ++ els.flatten := by simp
            have hlen : (old ++ els).length = len + els.length := by rw [List.length_append, hol]
            obtain ⟨φ', q1, q2, q3, q4, q5, q6⟩ := grown_row (R := R) hr2 hcc (e := e) (z := z) (zs := zv.cells.toList) (els := old ++ els) (vs := olds ++ news) (k := grownCap w (len + els.length) cap e)
              (by
                intro x hx
                rcases List.mem_append.1 hx with h | h
                · exact hoz x h
                · exact hnz x h)
              (by rw [hflat]; exact hov.append hnv) hk1 hzvl (by rw [hlen]; exact hby) _ rfl
            simp only [hlen] at q4 q5 q6
            have hheap : (w.drew.alloc (.cells (olds.toArray ++ news.toArray ++ Builtin.zeroCells zv.cells (grownCap w (len + els.length) cap e - (len + els.length))) e)).heap =
                w.heap.push (.cells ((olds ++ news).toArray ++ Builtin.zeroCells zv.cells.toList.toArray (grownCap w (len + els.length) cap e - (len + els.length))) e) := by
              show w.heap.push _ = _
              congr 2
              simp
            rw [← hheap] at q4 q5 q6
            exact ⟨_, φ', (fun b => F b ∨ b = w.heap.size), S, _, hrun, q6, q4, ⟨q5, rfl, rfl⟩, fun n hn => q3 n (by omega)⟩
          have first0 : ∀ (a : Option Addr) (w' : World), (Builtin.firstCells i.size 0 (.slice a 0 0)).run P w' = .ok ([] : List Value).toArray w' := fun a w' => by
            cases a <;> simp [Builtin.firstCells, loadCells, loadCellsFrom]
          cases hs with
          | nils =>
            simp only at hk
            by_cases h0 : els.length = 0
            · rw [if_pos h0] at hk
              obtain ⟨rfl, rfl, rfl⟩ := pure_some hk
              refine SemOK.pure hr (v' := .slice none 0 0) ?_ .nils
              rw [run_append_in w hu hi hS' none 0 0 (by omega)]
              simp [h0]
            · rw [if_neg h0] at hk
              by_cases hfits : fitsE z els.length = true
              · rw [if_pos hfits] at hk
                obtain ⟨l', hk2⟩ := new_some hk
                obtain ⟨rfl, rfl, rfl⟩ := pure_some hk2
                have hfin := anew none 0 0 [] [] H1 hr rfl rfl (by simp) (by simpa using VRels.nil) (fun w' _ => first0 none w') (by omega) (by simpa using hfits) c1 (hfree _ (Nat.le_refl _) (by omega))
                simpa using hfin
              · rw [if_neg hfits] at hk; simp [M.fail] at hk
          | zsl =>
            rename_i a
            simp only at hk
            by_cases h0 : els.length = 0
            · rw [if_pos h0] at hk
              obtain ⟨rfl, rfl, rfl⟩ := pure_some hk
              refine SemOK.pure hr (v' := .slice a 0 0) ?_ .zsl
              rw [run_append_in w hu hi hS' a 0 0 (by omega)]
              have hn0 : news = [] := by apply List.length_eq_zero_iff.1; rw [hnl, h0]; simp
              cases a <;> simp [h0, hn0, storeCells]
            · rw [if_neg h0] at hk
              by_cases hfits : fitsE z els.length = true
              · rw [if_pos hfits] at hk
                obtain ⟨l', hk2⟩ := new_some hk
                obtain ⟨rfl, rfl, rfl⟩ := pure_some hk2
                have hfin := anew a 0 0 [] [] H1 hr rfl rfl (by simp) (by simpa using VRels.nil) (fun w' _ => first0 a w') (by omega) (by simpa using hfits) c1 (hfree _ (Nat.le_refl _) (by omega))
                simpa using hfin
              · rw [if_neg hfits] at hk; simp [M.fail] at hk
          | sl hn hy hlc =>
            rename_i y n i0 len cap pl
            simp only at hk
            by_cases h0 : els.length = 0
            · rw [if_pos h0] at hk
              obtain ⟨rfl, rfl, rfl⟩ := pure_some hk
              refine SemOK.pure hr (v' := .slice (some ⟨pl.blk, pl.shift + i0 * pl.esz, none⟩) len (capOf pl i0 cap)) ?_ (.sl hn hy hlc)
              have hcc : cap ≤ capOf pl i0 cap := by unfold capOf; split <;> omega
              rw [run_append_in w hu hi hS' _ _ _ (by omega)]
              have hn0 : news = [] := by apply List.length_eq_zero_iff.1; rw [hnl, h0]; simp
              simp [h0, hn0, storeCells]
            · rw [if_neg h0] at hk
              obtain ⟨o, H2, c2, l3, l4, hrd, hk3⟩ := bind_some hk
              obtain ⟨hg, rfl, rfl⟩ := rdO_some hrd
              cases o with
              | arr t' es =>
                simp only at hk3
                by_cases hc1 : y = z ∧ i0 + cap ≤ es.length
                · rw [if_pos hc1] at hk3
                  obtain ⟨rfl, hle1⟩ := hc1
                  obtain ⟨pl', hpl, hat, hF, hlt⟩ := hr.arrAt hg
                  rw [hn] at hpl; cases hpl
                  have hesz : i.size = pl.esz := by rw [hi1, ← hy]
                  have hnz' : ∀ x ∈ els, x.length = pl.esz := fun x hx => by rw [hnz x hx, ← hy]
                  by_cases hfit : len + els.length ≤ cap
                  · -- in place, among the elements that are known
                    rw [if_pos hfit] at hk3
                    obtain ⟨_, H3, c3, l5, l6, hwr, hk4⟩ := bind_some hk3
                    obtain ⟨_, rfl, rfl⟩ := wrO_some hwr
                    obtain ⟨rfl, rfl, rfl⟩ := pure_some hk4
                    obtain ⟨h', r1, r2, r3⟩ := setEls_ok (P := P) hr hn hg (j := i0 + len) (els := els) (us := news) (by omega) hnz' hnv hone
                    have hcc : cap ≤ capOf pl i0 cap := by unfold capOf; split <;> omega
                    refine ⟨.slice (some ⟨pl.blk, pl.shift + i0 * pl.esz, none⟩) (len + els.length) (capOf pl i0 cap), φ, F, S, { w with heap := h' }, ?_, .sl hn hy hfit, r2, r3.here, fun _ _ => rfl⟩
                    rw [run_append_in w hu hi hS' _ _ _ (by omega)]
                    have haddr : (⟨pl.blk, pl.shift + i0 * pl.esz, none⟩ : Addr).add (len * i.size) = ⟨pl.blk, pl.shift + (i0 + len) * pl.esz, none⟩ := by
                      rw [add_plain, hesz, Nat.add_mul, Nat.add_assoc]
                    simp only [haddr, r1, Result.andThen_ok]
                  · rw [if_neg hfit] at hk3
                    by_cases hfits : fitsE y (len + els.length) = true
                    · rw [if_pos hfits] at hk3
                      obtain ⟨cc, fr, pv, p1, p2, p3, p4, p5⟩ := hat.piece (i := i0) (n := len) (by omega)
                      have hfirst : ∀ (capv : Nat) (w' : World), w'.heap = w.heap → (Builtin.firstCells i.size len (.slice (some ⟨pl.blk, pl.shift + i0 * pl.esz, none⟩) len capv)).run P w' = .ok pv.toArray w' := by
                        intro capv w' hw'
                        simp only [Builtin.firstCells]
                        exact loadCells_any p1 p3 (by rw [hesz]; exact p4) w' hw'
                      have hplen : ((es.drop i0).take len).length = len := by simp; omega
                      have hpz : ∀ x ∈ (es.drop i0).take len, x.length = y.z := fun x hx => by
                        have := hat.wide x (List.mem_of_mem_drop (List.mem_of_mem_take hx))
                        rw [this, ← hy]
                      by_cases hend : i0 + cap = es.length
                      · rw [if_pos hend] at hk3
                        by_cases hte : t' ≠ e
                        · rw [if_pos hte] at hk3; simp [M.fail] at hk3
                        · rw [if_neg hte] at hk3
                          have hte' : t' = e := Classical.not_not.1 hte
                          obtain ⟨_, H3, c3, l5, l6, hdl, hk4⟩ := bind_some hk3
                          obtain ⟨_, rfl, rfl⟩ := del_some hdl
                          obtain ⟨l', hk5⟩ := new_some hk4
                          obtain ⟨rfl, rfl, rfl⟩ := pure_some hk5
                          have hcap : capOf pl i0 cap = cap + pl.extra := by unfold capOf; rw [if_pos (by rw [hend, hat.len])]
                          by_cases hroom : len + els.length ≤ cap + pl.extra
                          · obtain ⟨φ', h', r1, r2, r3, r4, r5⟩ := prolong_ok (P := P) hr hn hg (hfree _ (Nat.le_refl _) (by omega)) hend hlc hroom hnz' hnv hone hte' (by
                              rw [hy]
                              simp only [fitsE, decide_eq_true_eq] at hfits
                              exact Nat.le_trans (Nat.mul_le_mul_right _ (by omega)) hfits)
                            refine ⟨.slice (some ⟨pl.blk, pl.shift + i0 * pl.esz, none⟩) (len + els.length) (cap + pl.extra), φ', F, S, { w with heap := h' }, ?_, by rw [← hy]; exact r3, r4, r5.here, fun m hm => r2 m (by omega)⟩
                            rw [hcap, run_append_in w hu hi hS' _ _ _ hroom]
                            have haddr : (⟨pl.blk, pl.shift + i0 * pl.esz, none⟩ : Addr).add (len * i.size) = ⟨pl.blk, pl.shift + i0 * pl.esz + len * pl.esz, none⟩ := by
                              rw [add_plain, hesz]
                            simp only [haddr, r1, Result.andThen_ok]
                          · have hr2 : HRel R φ F S (H2.del n) w.heap := hr.weaken fun m o hm => by rw [T.get_del] at hm; split at hm; cases hm; exact hm
                            exact anew _ len (capOf pl i0 cap) _ pv _ hr2 rfl hplen hpz p2 (hfirst _) (by omega) hfits _ (hfree _ (Nat.le_refl _) (by omega))
                      · rw [if_neg hend] at hk3
                        obtain ⟨l', hk5⟩ := new_some hk3
                        obtain ⟨rfl, rfl, rfl⟩ := pure_some hk5
                        have hcap : capOf pl i0 cap = cap := by unfold capOf; rw [if_neg (by rw [← hat.len]; exact hend)]
                        exact anew _ len (capOf pl i0 cap) _ pv _ hr rfl hplen hpz p2 (hfirst _) (by omega) hfits _ (hfree _ (Nat.le_refl _) (by omega))
                    · rw [if_neg hfits] at hk3; simp [M.fail] at hk3
                · rw [if_neg hc1] at hk3; simp [M.fail] at hk3
              | _ => simp [M.fail] at hk3
          | _ => simp [M.fail] at hk
        · rw [if_neg hone] at hk; simp [M.fail] at hk
      · rw [if_neg hcond] at h; simp [M.fail] at h
  | _ => simp [hu, M.fail] at h

end Go.Abs
