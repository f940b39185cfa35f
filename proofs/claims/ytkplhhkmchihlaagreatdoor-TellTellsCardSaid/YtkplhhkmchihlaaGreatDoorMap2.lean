/- Maps: met. -/
import Derived.Test.YtkplhhkmchihlaaGreatDoorMap
namespace Go.Abs
variable {X : Type} {R : Rep X} {P : Program} {φ : Names} {F S : Nat → Prop} {H : Heap X}


theorem mapAt {h : Array Obj} (hr : HRel R φ F S H h) {n : Nat} {es : List (AV × AV)} (hn : H.get n = some (.map es)) :
    ∃ pl es' clk, φ n = some pl ∧ h[pl.blk]? = some (.map es' clk) ∧ VRels φ S h (flatPairs es) (flatEntries es'.toList) ∧ (es'.toList.map (·.born)).Pairwise (· < ·) ∧ (∀ e ∈ es'.toList, e.born < clk) ∧ F pl.blk ∧ pl.blk < h.size ∧ ¬ S pl.blk := by
  obtain ⟨fp, r⟩ := hr
  obtain ⟨pl, h1, h2, h3, es', clk, h4, h5, h6, h7⟩ := r.obj n _ hn
  have hF := r.inF n _ _ hn h2
  exact ⟨pl, es', clk, h1, h4, h5, h6, h7, hF, r.liveF _ hF, r.disj _ hF⟩

theorem setMap_ok {h : Array Obj} (hr : HRel R φ F S H h) {n : Nat} {es es2 : List (AV × AV)} {pl : Place} (hn : H.get n = some (.map es)) (hpl : φ n = some pl) {es2' : Array MapEntry} {clk2 : Nat}
    (h1 : VRels φ S h (flatPairs es2) (flatEntries es2'.toList)) (h2 : (es2'.toList.map (·.born)).Pairwise (· < ·)) (h3 : ∀ e ∈ es2'.toList, e.born < clk2) :
    HRel R φ F S (H.set n (.map es2)) (h.setIfInBounds pl.blk (.map es2' clk2)) ∧ Step φ F S h φ F S (h.setIfInBounds pl.blk (.map es2' clk2)) := by
  obtain ⟨pl', es', clk, q1, q2, q3, q4, q5, hF, hlt, hnS⟩ := mapAt hr hn
  rw [hpl] at q1; cases q1
  have hother : ∀ b, b ≠ pl.blk → (h.setIfInBounds pl.blk (.map es2' clk2))[b]? = h[b]? := fun b hb => Array.getElem?_setIfInBounds_ne (Ne.symm hb)
  have hsl : Sealed S h (h.setIfInBounds pl.blk (.map es2' clk2)) := fun b hb => hother b (fun e => hnS (e ▸ hb))
  constructor
  · have hput := hr.put (n := n) (o := .map es2) (pl := pl) (φ' := φ) (h' := h.setIfInBounds pl.blk (.map es2' clk2)) (fun b => b = pl.blk) (Ext.refl _) hpl
      (by
        rintro b rfl m o' hm hne fp r hf
        obtain ⟨p, hp, ho⟩ := r.obj n _ hn
        rw [hpl] at hp; cases hp
        exact r.apart m n o' _ hm hn hne _ hf ho.1)
      (fun b _ hb => hother b hb) (by simp) (by rintro b rfl; simpa using hlt) (by rintro b rfl; exact hnS)
      ⟨rfl, fun b hb => hb, es2', clk2, by simp [hlt], h1.mono (Ext.refl _) (fun _ h => h) hsl, h2, h3⟩
    exact hput.congrF fun b => ⟨fun h => h.elim id (fun e => e ▸ hF), .inl⟩
  · exact ⟨Ext.refl _, by simp, fun b _ hb => hother b (fun e => hb (by rw [e]; exact hF)), fun b hb => .inl hb, fun b hb => .inl hb, fun b hb => hb⟩

theorem flatPairs_append (a b : List (AV × AV)) : flatPairs (a ++ b) = flatPairs a ++ flatPairs b := by simp [flatPairs]
theorem flatEntries_append (a b : List MapEntry) : flatEntries (a ++ b) = flatEntries a ++ flatEntries b := by simp [flatEntries]

theorem entries_split {h : Array Obj} : ∀ {a b : List (AV × AV)} {es' : List MapEntry}, VRels φ S h (flatPairs (a ++ b)) (flatEntries es') → ∃ a' b', es' = a' ++ b' ∧ a'.length = a.length ∧ VRels φ S h (flatPairs a) (flatEntries a') ∧ VRels φ S h (flatPairs b) (flatEntries b')
  | [], b, es', hr => ⟨[], es', rfl, rfl, .nil, hr⟩
  | e :: a, b, es', hr => by
    obtain ⟨m, ms, rfl, h1, h2, h3⟩ := entries_cons (es := a ++ b) hr
    obtain ⟨a', b', rfl, h4, h5, h6⟩ := entries_split h3
    exact ⟨m :: a', b', rfl, by simp [h4], by simpa [flatPairs, flatEntries] using VRels.cons h1 (VRels.cons h2 h5), h6⟩

theorem lookupP_ok {t : TypeId} {m k v : AV} {vm vk : Value} {w : World} (hr : HRel R φ F S H w.heap) (hm : VRel φ S w.heap m vm) (hk : VRel φ S w.heap k vk) {ok : Bool} {b : Bool} {H' : Heap X} {c c' : Nat} {l : List (Act X)}
    (h : lookupP P t m k ok b H c = some (v, H', c', l)) : SemOK R P φ F S w c c' (Instr.lookup t vm vk ok) v H' := by
  unfold lookupP at h
  cases hu : P.underlying t with
  | none => simp [hu, M.fail] at h
  | some d =>
  cases d with
  | map kt et =>
    simp only [hu] at h
    cases hz : zeroV P et with
    | none => simp [hz, M.fail] at h
    | some z =>
      simp only [hz] at h
      obtain ⟨zv, z1, z2⟩ := zeroV_ok (P := P) w hz
      by_cases hkey : keyOk P kt k = true
      · rw [if_pos hkey] at h
        cases hm with
        | nilm =>
          simp only at h
          obtain ⟨rfl, rfl, rfl⟩ := pure_some h
          refine SemOK.pure hr (v' := if ok then .tuple #[zv, .bool false] else zv) ?_ ?_
          · simp only [Instr.lookup, Sem.run_bind, run_und w hu, Result.andThen_ok, Sem.run_pure, keyOk_ok w hkey hk]
            have : (Instr.findKey kt vk []).run P w = .ok none w := by
              obtain ⟨r', p1, p2⟩ := findKey_ok (P := P) (φ := φ) (S := S) (h := w.heap) w hkey hk (es := []) (es' := []) (r := none) rfl .nil
              cases r' with
              | none => exact p1
              | some q => exact p2.elim
            rw [this]
            simp only [Result.andThen_ok, Sem.run_bind, z1, Sem.run_pure]
          · cases ok
            · exact z2 _ _ _
            · exact .tup (.cons (z2 _ _ _) (.cons (.bool _) .nil))
        | map hn =>
          rename_i n pl
          simp only at h
          obtain ⟨o, H1, c1, l1, l2, h1, h2⟩ := bind_some h
          obtain ⟨hg, rfl, rfl⟩ := rdO_some h1
          obtain ⟨h3, rfl, rfl⟩ := lift_some h2
          cases o with
          | map es =>
            simp only at h3
            obtain ⟨pl', es', clk, q1, q2, q3, q4, q5, hF, hlt, hnS⟩ := mapAt hr hg
            rw [hn] at q1; cases q1
            have hget : (getObj pl.blk).run P w = .ok (.map es' clk) w := by simp [getObj, Sem.run, q2]
            cases hf : findK P kt k es 0 with
            | none => simp [hf] at h3
            | some r =>
              obtain ⟨r', p1, p2⟩ := findKey_ok (P := P) w hkey hk hf q3
              cases r with
              | none =>
                cases r' with
                | some q => exact p2.elim
                | none =>
                  simp only [hf, Option.some.injEq] at h3
                  subst h3
                  refine SemOK.pure hr (v' := if ok then .tuple #[zv, .bool false] else zv) ?_ ?_
                  · simp only [Instr.lookup, Sem.run_bind, run_und w hu, Result.andThen_ok, Sem.run_pure, hget, keyOk_ok w hkey hk, p1, z1]
                  · cases ok
                    · exact z2 _ _ _
                    · exact .tup (.cons (z2 _ _ _) (.cons (.bool _) .nil))
              | some q =>
                obtain ⟨a, x⟩ := q
                cases r' with
                | none => exact p2.elim
                | some q' =>
                  obtain ⟨a', x'⟩ := q'
                  obtain ⟨_, hx, _⟩ := p2
                  simp only [hf, Option.some.injEq] at h3
                  subst h3
                  refine SemOK.pure hr (v' := if ok then .tuple #[x', .bool true] else x') ?_ ?_
                  · simp only [Instr.lookup, Sem.run_bind, run_und w hu, Result.andThen_ok, Sem.run_pure, hget, keyOk_ok w hkey hk, p1]
                  · cases ok
                    · exact hx
                    · exact .tup (.cons hx (.cons (.bool _) .nil))
          | _ => cases h3
        | _ => simp [M.fail] at h
      · rw [if_neg hkey] at h; simp [M.fail] at h
  | _ => simp [hu, M.fail] at h

theorem same1 {h : Array Obj} {a b : AV} {va vb : Value} (hab : sameK1 a b = true) (ha : VRel φ S h a va) (hb : VRel φ S h b vb) (d : Nat) : Instr.sameBits (d + 1) va vb = true := by
  unfold sameK1 at hab
  split at hab
  · cases ha; cases hb; simpa [Instr.sameBits] using hab
  · cases ha; cases hb; simpa [Instr.sameBits] using hab
  · cases ha; cases hb
    simp only [Instr.sameBits]
    rw [beq_toListBytes, ByteArray.toList_eq, ByteArray.toList_eq]
    simpa using hab
  · cases hab

theorem same_list {h : Array Obj} (d : Nat) : ∀ {xs ys : List AV} {vxs vys : List Value}, VRels φ S h xs vxs → VRels φ S h ys vys → xs.length = ys.length →
    ((xs.zip ys).all fun p => sameK1 p.1 p.2) = true →
    ((vxs.zip vys).all fun p => Instr.sameBits (d + 1) p.1 p.2) = true
  | [], _, _, _, .nil, _, _, _ => by simp
  | _ :: _, [], _, _, .cons _ _, .nil, hl, _ => by simp at hl
  | a :: as, b' :: bs, _, _, .cons hv ht, .cons hv2 ht2, hl, hall => by
    simp only [List.zip_cons_cons, List.all_cons, Bool.and_eq_true] at hall ⊢
    exact ⟨same1 hall.1 hv hv2 d, same_list d ht ht2 (by simpa using hl) hall.2⟩

theorem modify_mid {α : Type _} (f : α → α) (x : α) (ms : List α) : ∀ la : List α, (la ++ x :: ms).modify la.length f = la ++ f x :: ms
  | [] => by simp [List.modify]
  | y :: la => by simpa using modify_mid f x ms la

theorem sameK_ok {h : Array Obj} {a b : AV} {va vb : Value} (hab : sameK a b = true) (ha : VRel φ S h a va) (hb : VRel φ S h b vb) (d : Nat) : Instr.sameBits (d + 2) va vb = true := by
  unfold sameK at hab
  split at hab
  · cases ha with
    | agg hxs => cases hb with
      | agg hys =>
        simp only [Bool.and_eq_true, beq_iff_eq] at hab
        have e1 := hxs.length
        have e2 := hys.length
        simp only [Instr.sameBits, Bool.and_eq_true, beq_iff_eq]
        exact ⟨by simp; omega, same_list d hxs hys hab.1 hab.2⟩
  · exact same1 hab ha hb (d + 1)

theorem updateP_ok {t : TypeId} {m k x v : AV} {vm vk vx : Value} {w : World} (hr : HRel R φ F S H w.heap) (hm : VRel φ S w.heap m vm) (hk : VRel φ S w.heap k vk) (hx : VRel φ S w.heap x vx) {b : Bool} {H' : Heap X} {c c' : Nat} {l : List (Act X)}
    (h : updateP P t m k x b H c = some (v, H', c', l)) : c' = c ∧ v = .undef ∧ ∃ h', (Instr.mapUpdate t vm vk vx).run P w = .ok () { w with heap := h' } ∧ HRel R φ F S H' h' ∧ Step φ F S w.heap φ F S h' := by
  unfold updateP at h
  cases hu : P.underlying t with
  | none => simp [hu, M.fail] at h
  | some d =>
  cases d with
  | map kt et =>
    simp only [hu] at h
    by_cases hkey : keyOk P kt k = true
    · rw [if_pos hkey] at h
      cases hm with
      | map hn =>
        rename_i n pl
        simp only at h
        obtain ⟨o, H1, c1, l1, l2, h1, h2⟩ := bind_some h
        obtain ⟨hg, rfl, rfl⟩ := rdO_some h1
        cases o with
        | map es =>
          simp only at h2
          obtain ⟨pl', es', clk, q1, q2, q3, q4, q5, hF, hlt, hnS⟩ := mapAt hr hg
          rw [hn] at q1; cases q1
          have hget : (getObj pl.blk).run P w = .ok (.map es' clk) w := by simp [getObj, Sem.run, q2]
          have hset : ∀ o, (setObj pl.blk o).run P w = .ok () { w with heap := w.heap.setIfInBounds pl.blk o } := fun o => by simp [setObj, Sem.run, q2]
          cases hf : findK P kt k es 0 with
          | none => simp [hf, M.fail] at h2
          | some r =>
            obtain ⟨r', p1, p2⟩ := findKey_ok (P := P) w hkey hk hf q3
            cases r with
            | none =>
              cases r' with
              | some q => exact p2.elim
              | none =>
                simp only [hf] at h2
                obtain ⟨_, H3, c3, l5, l6, hwr, hk4⟩ := bind_some h2
                obtain ⟨_, rfl, rfl⟩ := wrO_some hwr
                obtain ⟨rfl, rfl, rfl⟩ := pure_some hk4
                have := setMap_ok hr hg hn (es2 := es ++ [(k, x)]) (es2' := es'.push { key := vk, val := vx, born := clk }) (clk2 := clk + 1)
                  (by
                    rw [flatPairs_append, Array.toList_push, flatEntries_append]
                    exact q3.append (by simpa [flatPairs, flatEntries] using VRels.cons hk (VRels.cons hx .nil)))
                  (by
                    rw [Array.toList_push, List.map_append, List.pairwise_append]
                    refine ⟨q4, by simp, ?_⟩
                    intro a ha b hb
                    simp at hb; subst hb
                    obtain ⟨e, he, rfl⟩ := List.mem_map.1 ha
                    exact q5 e he)
                  (by
                    intro e he
                    rw [Array.toList_push, List.mem_append] at he
                    rcases he with he | he
                    · have := q5 e he; omega
                    · simp at he; subst he; simp)
                refine ⟨rfl, rfl, _, ?_, this.1, this.2⟩
                simp only [Instr.mapUpdate, Sem.run_bind, run_und w hu, Result.andThen_ok, hget, keyOk_ok w hkey hk, p1, hset]
            | some q =>
              obtain ⟨a, y⟩ := q
              cases r' with
              | none => exact p2.elim
              | some q' =>
                obtain ⟨a', y'⟩ := q'
                obtain ⟨rfl, hy, _, _, e0, e1, g1, g2, g3⟩ := p2
                simp only [Nat.sub_zero] at g1 g2
                simp only [hf, g1] at h2
                by_cases hsame : sameK e0.1 k = true
                · rw [if_pos hsame] at h2
                  obtain ⟨_, H3, c3, l5, l6, hwr, hk4⟩ := bind_some h2
                  obtain ⟨_, rfl, rfl⟩ := wrO_some hwr
                  obtain ⟨rfl, rfl, rfl⟩ := pure_some hk4
                  -- the entry in the middle
                  obtain ⟨hlt1, he1⟩ := List.getElem?_eq_some_iff.1 g1
                  obtain ⟨hlt2, he2⟩ := List.getElem?_eq_some_iff.1 g2
                  have hsp : es = es.take a ++ (e0 :: es.drop (a + 1)) := by
                    rw [← he1, ← List.drop_eq_getElem_cons hlt1, List.take_append_drop]
                  rw [hsp] at q3
                  obtain ⟨la, lb, hl1, hl2, hl3, hl4⟩ := entries_split q3
                  obtain ⟨mm, ms, rfl, hm1, hm2, hm3⟩ := entries_cons hl4
                  have hla : la.length = a := by rw [hl2]; simp; omega
                  have hmm : mm = e1 := by
                    rw [hl1, List.getElem?_append_right (by omega), hla] at g2
                    simpa using g2
                  have hbits : Instr.sameBits 10000 e1.key vk = true := sameK_ok hsame (hmm ▸ hm1) hk 9998
                  have hmod : (es'.modify a fun e => { e with key := vk, val := vx }).toList = la ++ ({ e1 with key := vk, val := vx } :: ms) := by
                    rw [Array.toList_modify, hl1, ← hla]
                    subst hmm
                    exact modify_mid _ _ _ _
                  have := setMap_ok hr hg hn (es2 := es.set a (k, x)) (es2' := es'.modify a fun e => { e with key := vk, val := vx }) (clk2 := clk)
                    (by
                      rw [hmod]
                      have : es.set a (k, x) = es.take a ++ ((k, x) :: es.drop (a + 1)) := by rw [List.set_eq_take_append_cons_drop, if_pos hlt1]
                      rw [this, flatPairs_append, flatEntries_append]
                      exact hl3.append (by simpa [flatPairs, flatEntries] using VRels.cons hk (VRels.cons hx hm3)))
                    (by
                      rw [hmod]
                      rw [hl1] at q4
                      subst hmm
                      simpa using q4)
                    (by
                      rw [hmod]
                      intro e he
                      rw [hl1] at q5
                      subst hmm
                      rcases List.mem_append.1 he with he | he
                      · exact q5 e (List.mem_append_left _ he)
                      · rcases List.mem_cons.1 he with he | he
                        · subst he; exact q5 mm (List.mem_append_right _ (by simp))
                        · exact q5 e (List.mem_append_right _ (by simp [he])))
                  refine ⟨rfl, rfl, _, ?_, this.1, this.2⟩
                  have hg2 : es'[a]? = some e1 := by rw [← Array.getElem?_toList]; exact g2
                  simp only [Instr.mapUpdate, Sem.run_bind, run_und w hu, Result.andThen_ok, hget, keyOk_ok w hkey hk, p1, Instr.keyThatStays, hg2, Option.map_some, Option.getD_some, hbits, if_true, Sem.run_pure, hset]
                · rw [if_neg hsame] at h2; simp [M.fail] at h2
        | _ => simp [M.fail] at h2
      | _ => simp [M.fail] at h
    · rw [if_neg hkey] at h; simp [M.fail] at h
  | _ => simp [hu, M.fail] at h

end Go.Abs
