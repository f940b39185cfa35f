/- The builtin functions, met. -/
import Derived.Test.YtkplhhkmchihlaaGreatDoorStep
namespace Go.Abs
variable {X : Type} {R : Rep X} {P : Program} {φ : Names} {F S : Nat → Prop} {H : Heap X}

theorem lenP_ok {t ty : TypeId} {x v : AV} {vx : Value} {ts : List TypeId} {vs : List Value} {w : World} (hr : HRel R φ F S H w.heap) (hx : VRel φ S w.heap x vx) {b : Bool} {H' : Heap X} {c c' : Nat} {l : List (Act X)}
    (h : lenP P t x b H c = some (v, H', c', l)) : SemOK R P φ F S w c c' (Builtin.len_ (t :: ts).toArray ty (vx :: vs).toArray) v H' := by
  have e1 : ((t :: ts).toArray)[0]? = some t := by simp
  have e2 : ((vx :: vs).toArray)[0]? = some vx := by simp
  have val : ∀ n : Nat, (Builtin.len_ (t :: ts).toArray ty (vx :: vs).toArray).run P w = .ok (goInt n) w → SemOK R P φ F S w c c (Builtin.len_ (t :: ts).toArray ty (vx :: vs).toArray) (goI n) H := fun n hn => SemOK.pure hr hn (.int _ _)
  unfold lenP at h
  cases hu : P.underlying t with
  | none => simp [hu, M.fail] at h
  | some d =>
    cases d with
    | string =>
      cases hx with
      | str s =>
        simp only [hu] at h
        obtain ⟨rfl, rfl, rfl⟩ := pure_some h
        have := val s.size (by simp only [Builtin.len_, e1, e2, Sem.run_bind, run_und w hu, Result.andThen_ok, Sem.run_pure])
        have e : s.data.toList.length = s.size := by rw [Array.length_toList]; rfl
        rw [e]
        exact this
      | _ => simp [hu, M.fail] at h
    | slice e =>
      cases hx with
      | sl hn hz hl =>
        simp only [hu] at h
        obtain ⟨rfl, rfl, rfl⟩ := pure_some h
        exact val _ (by simp [Builtin.len_, run_und w hu])
      | isl =>
        simp only [hu] at h
        obtain ⟨rfl, rfl, rfl⟩ := pure_some h
        exact val _ (by simp [Builtin.len_, run_und w hu])
      | islNil =>
        simp only [hu] at h
        obtain ⟨rfl, rfl, rfl⟩ := pure_some h
        exact val 0 (by simp [Builtin.len_, run_und w hu])
      | nils =>
        simp only [hu] at h
        obtain ⟨rfl, rfl, rfl⟩ := pure_some h
        exact val 0 (by simp [Builtin.len_, run_und w hu])
      | zsl =>
        simp only [hu] at h
        obtain ⟨rfl, rfl, rfl⟩ := pure_some h
        exact val 0 (by simp [Builtin.len_, run_und w hu])
      | _ => simp [hu, M.fail] at h
    | array n e =>
      simp only [hu] at h
      obtain ⟨rfl, rfl, rfl⟩ := pure_some h
      exact val n (by simp [Builtin.len_, run_und w hu])
    | map kt et =>
      cases hx with
      | nilm =>
        simp only [hu] at h
        obtain ⟨rfl, rfl, rfl⟩ := pure_some h
        exact val 0 (by simp [Builtin.len_, run_und w hu])
      | map hn =>
        rename_i n pl
        simp only [hu] at h
        obtain ⟨o, H1, c1, l1, l2, h1, h2⟩ := bind_some h
        obtain ⟨hg, rfl, rfl⟩ := rdO_some h1
        obtain ⟨h3, rfl, rfl⟩ := lift_some h2
        cases o with
        | map es =>
          simp only [Option.some.injEq] at h3
          subst h3
          obtain ⟨pl', es', clk, q1, q2, q3, q4, q5, hF, hlt, hnS⟩ := mapAt hr hg
          rw [hn] at q1; cases q1
          have hget : (getObj pl.blk).run P w = .ok (.map es' clk) w := by simp [getObj, Sem.run, q2]
          have hlen : es'.size = es.length := by
            have := q3.length
            have e3 : ∀ l : List (AV × AV), (flatPairs l).length = 2 * l.length := by
              intro l; induction l with
              | nil => rfl
              | cons a l ih => simp [flatPairs] at ih ⊢; omega
            have e4 : ∀ l : List MapEntry, (flatEntries l).length = 2 * l.length := by
              intro l; induction l with
              | nil => rfl
              | cons a l ih => simp [flatEntries] at ih ⊢; omega
            rw [e3, e4] at this
            simp at this; omega
          have := val es'.size (by simp [Builtin.len_, run_und w hu, hget])
          rw [hlen] at this
          exact this
        | _ => cases h3
      | _ => simp [hu, M.fail] at h
    | _ => simp [hu, M.fail] at h

theorem maxL_ok {h : Array Obj} (w : World) : ∀ {xs : List AV} {vs : List Value} {x v : AV} {vx : Value}, maxL x xs = some v → VRel φ S h x vx → VRels φ S h xs vs →
    ∃ v', (vs.foldlM Builtin.max2 vx : Sem Value).run P w = .ok v' w ∧ VRel φ S h v v'
  | [], _, x, v, vx, hv, hx, .nil => by
    cases x <;> simp [maxL] at hv <;> subst hv <;> exact ⟨vx, by simp, hx⟩
  | y :: ys, _, x, v, vx, hv, hx, .cons hy ht => by
    cases x with
    | int k a =>
      cases y with
      | int j b =>
        cases hx; cases hy
        simp only [maxL] at hv
        obtain ⟨v', h1, h2⟩ := maxL_ok w hv (.int _ _) ht
        exact ⟨v', by simp only [List.foldlM_cons, Sem.run_bind]; simp only [Builtin.max2, Sem.run_pure, Result.andThen_ok]; exact h1, h2⟩
      | _ => simp [maxL] at hv
    | _ => simp [maxL] at hv

theorem minL_ok {h : Array Obj} (w : World) : ∀ {xs : List AV} {vs : List Value} {x v : AV} {vx : Value}, minL x xs = some v → VRel φ S h x vx → VRels φ S h xs vs →
    ∃ v', (vs.foldlM Builtin.min2 vx : Sem Value).run P w = .ok v' w ∧ VRel φ S h v v'
  | [], _, x, v, vx, hv, hx, .nil => by
    cases x <;> simp [minL] at hv <;> subst hv <;> exact ⟨vx, by simp, hx⟩
  | y :: ys, _, x, v, vx, hv, hx, .cons hy ht => by
    cases x with
    | int k a =>
      cases y with
      | int j b =>
        cases hx; cases hy
        simp only [minL] at hv
        obtain ⟨v', h1, h2⟩ := minL_ok w hv (.int _ _) ht
        exact ⟨v', by simp only [List.foldlM_cons, Sem.run_bind]; simp only [Builtin.min2, Sem.run_pure, Result.andThen_ok]; exact h1, h2⟩
      | _ => simp [minL] at hv
    | _ => simp [minL] at hv

theorem flat_erase {h : Array Obj} : ∀ {es : List (AV × AV)} {es' : List MapEntry} (i : Nat), VRels φ S h (flatPairs es) (flatEntries es') → VRels φ S h (flatPairs (es.eraseIdx i)) (flatEntries (es'.eraseIdx i))
  | [], es', i, hr => by
    cases es' with
    | nil => simpa using hr
    | cons => cases hr
  | e :: es, es', i, hr => by
    obtain ⟨m, ms, rfl, h1, h2, h3⟩ := entries_cons hr
    cases i with
    | zero => simpa using h3
    | succ i =>
      simp only [List.eraseIdx_cons_succ]
      exact VRels.cons h1 (VRels.cons h2 (flat_erase i h3))

theorem deleteP_ok {t ty : TypeId} {m k v : AV} {vm vk : Value} {ts : List TypeId} {w : World} (hr : HRel R φ F S H w.heap) (hm : VRel φ S w.heap m vm) (hk : VRel φ S w.heap k vk) {b : Bool} {H' : Heap X} {c c' : Nat} {l : List (Act X)}
    (h : deleteP P t m k b H c = some (v, H', c', l)) : SemOK R P φ F S w c c' (Builtin.delete_ (t :: ts).toArray ty [vm, vk].toArray) v H' := by
  unfold deleteP at h
  cases hu : P.underlying t with
  | none => simp [hu, M.fail] at h
  | some d =>
  cases d with
  | map kt et =>
    simp only [hu] at h
    by_cases hkey : keyOk P kt k = true
    · rw [if_pos hkey] at h
      cases hm with
      | nilm =>
        simp only at h
        obtain ⟨rfl, rfl, rfl⟩ := pure_some h
        exact SemOK.pure hr (v' := .tuple #[]) (by simp [Builtin.delete_, run_und w hu, keyOk_ok w hkey hk]) (.tup .nil)
      | map hn =>
        rename_i n pl
        simp only at h
        obtain ⟨o, H1, c1, l1, l2, h1, h2⟩ := bind_some h
        obtain ⟨hg, rfl, rfl⟩ := rdO_some h1
        cases o with
        | map es =>
          simp only at h2
          obtain ⟨pl', es', clk, q1, q2, q3, q4, q5, hF, hlt, hnS⟩ := mapAt hr hg
          rw [hn] at q1; cases q1
          have hget : (getObj pl.blk).run P w = .ok (.map es' clk) w := by simp [getObj, Sem.run, q2]
          have hset : ∀ o, (setObj pl.blk o).run P w = .ok () { w with heap := w.heap.setIfInBounds pl.blk o } := fun o => by simp [setObj, Sem.run, q2]
          cases hf : findK P kt k es 0 with
          | none => simp [hf, M.fail] at h2
          | some r =>
            obtain ⟨r', p1, p2⟩ := findKey_ok (P := P) w hkey hk hf q3
            cases r with
            | none =>
              cases r' with
              | some q => exact p2.elim
              | none =>
                simp only [hf] at h2
                obtain ⟨_, H3, c3, l5, l6, hwr, hk4⟩ := bind_some h2
                obtain ⟨_, rfl, rfl⟩ := wrO_some hwr
                obtain ⟨rfl, rfl, rfl⟩ := pure_some hk4
                have := setMap_ok hr hg hn (es2 := es) (es2' := es') (clk2 := clk) q3 q4 q5
                exact ⟨.tuple #[], φ, F, S, _, by simp [Builtin.delete_, run_und w hu, hget, keyOk_ok w hkey hk, p1, hset], .tup .nil, this.1, this.2.here, fun _ _ => rfl⟩
            | some q =>
              obtain ⟨a, y⟩ := q
              cases r' with
              | none => exact p2.elim
              | some q' =>
                obtain ⟨a', y'⟩ := q'
                obtain ⟨rfl, hy, _, _, e0, e1, g1, g2, g3⟩ := p2
                simp only [hf] at h2
                obtain ⟨_, H3, c3, l5, l6, hwr, hk4⟩ := bind_some h2
                obtain ⟨_, rfl, rfl⟩ := wrO_some hwr
                obtain ⟨rfl, rfl, rfl⟩ := pure_some hk4
                have htl : (es'.eraseIdxIfInBounds a).toList = es'.toList.eraseIdx a := by simp
                have := setMap_ok hr hg hn (es2 := es.eraseIdx a) (es2' := es'.eraseIdxIfInBounds a) (clk2 := clk)
                  (by rw [htl]; exact flat_erase a q3)
                  (by rw [htl]; exact q4.sublist ((List.eraseIdx_sublist _ _).map _))
                  (by rw [htl]; intro e he; exact q5 e ((List.eraseIdx_sublist _ _).subset he))
                exact ⟨.tuple #[], φ, F, S, _, by simp [Builtin.delete_, run_und w hu, hget, keyOk_ok w hkey hk, p1, hset], .tup .nil, this.1, this.2.here, fun _ _ => rfl⟩
        | _ => simp [M.fail] at h2
      | _ => simp [M.fail] at h
    · rw [if_neg hkey] at h; simp [M.fail] at h
  | _ => simp [hu, M.fail] at h

theorem clearP_ok {t ty : TypeId} {x v : AV} {vx : Value} {ts : List TypeId} {w : World} (hr : HRel R φ F S H w.heap) (hx : VRel φ S w.heap x vx) {b : Bool} {H' : Heap X} {c c' : Nat} {l : List (Act X)}
    (h : clearP P t x b H c = some (v, H', c', l)) : SemOK R P φ F S w c c' (Builtin.clear_ (t :: ts).toArray ty [vx].toArray) v H' := by
  unfold clearP at h
  cases hu : P.underlying t with
  | none => simp [hu, M.fail] at h
  | some d =>
  cases d with
  | slice e =>
    simp only [hu] at h
    cases hz : elemT P e with
    | none => simp [hz, M.fail] at h
    | some z =>
      cases hzs : zeroT P e with
      | none => simp [hz, hzs, M.fail] at h
      | some zs =>
        simp only [hz, hzs] at h
        cases hx with
        | nils =>
          simp only at h
          obtain ⟨rfl, rfl, rfl⟩ := pure_some h
          exact SemOK.pure hr (v' := .tuple #[]) (by simp [Builtin.clear_, run_und w hu]) (.tup .nil)
        | zsl =>
          simp only at h
          obtain ⟨rfl, rfl, rfl⟩ := pure_some h
          exact SemOK.pure hr (v' := .tuple #[]) (by rename_i a; cases a <;> simp [Builtin.clear_, run_und w hu]) (.tup .nil)
        | islNil =>
          simp only at h
          obtain ⟨rfl, rfl, rfl⟩ := pure_some h
          exact SemOK.pure hr (v' := .tuple #[]) (by rename_i a; cases a <;> simp [Builtin.clear_, run_und w hu]) (.tup .nil)
        | isl =>
          rename_i es _ _ _ _ _ _ _ _ _ _ _ _ _ _
          cases es with
          | nil =>
            simp only at h
            obtain ⟨rfl, rfl, rfl⟩ := pure_some h
            exact SemOK.pure hr (v' := .tuple #[]) (by simp [Builtin.clear_, run_und w hu]) (.tup .nil)
          | cons => simp [M.fail] at h
        | sl hn hy hl =>
          rename_i y n j len cap pl
          simp only at h
          by_cases h0 : len = 0
          · rw [if_pos h0] at h
            obtain ⟨rfl, rfl, rfl⟩ := pure_some h
            subst h0
            exact SemOK.pure hr (v' := .tuple #[]) (by simp [Builtin.clear_, run_und w hu]) (.tup .nil)
          · rw [if_neg h0] at h
            by_cases hc : y = z ∧ zs.length = z.z ∧ 0 < z.z ∧ oneAll (List.replicate len zs).flatten = true
            · rw [if_pos hc] at h
              obtain ⟨hyz, hlz, hpos, hone⟩ := hc
              obtain ⟨o, H1, c1, l1, l2, h1, h2⟩ := bind_some h
              obtain ⟨hg, rfl, rfl⟩ := rdO_some h1
              cases o with
              | arr t' es =>
                simp only at h2
                by_cases hle : j + len ≤ es.length
                · rw [if_pos hle] at h2
                  obtain ⟨_, H3, c3, l5, l6, hwr, hk4⟩ := bind_some h2
                  obtain ⟨_, rfl, rfl⟩ := wrO_some hwr
                  obtain ⟨rfl, rfl, rfl⟩ := pure_some hk4
                  subst hyz
                  obtain ⟨zv, zr, zc⟩ := run_zero (P := P) w hzs
                  have hvz : VRels φ S w.heap (List.replicate len zs).flatten (List.replicate len zv.cells.toList).flatten := (zc φ S w.heap).rep len
                  obtain ⟨h', q1, q2, q3⟩ := setEls_ok (P := P) hr hn hg (j := j) (els := List.replicate len zs) (by simpa using hle)
                    (by intro e he; rw [List.eq_of_mem_replicate he, hlz, ← hy]) hvz hone
                  have hcz : (Builtin.zeroCells zv.cells len).toList = (List.replicate len zv.cells.toList).flatten := by
                    simpa [Builtin.zeroCells] using zeros_eq zv len zv.cells.size rfl
                  refine ⟨.tuple #[], φ, F, S, { w with heap := h' }, ?_, .tup .nil, q2, q3.here, fun _ _ => rfl⟩
                  obtain ⟨m, rfl⟩ : ∃ m, len = m + 1 := ⟨len - 1, by omega⟩
                  simp only [Builtin.clear_, List.getElem?_toArray, List.getElem?_cons_zero, Sem.run_bind, run_und w hu, Result.andThen_ok, zr, hcz, q1, Sem.run_pure]
                · rw [if_neg hle] at h2; simp [M.fail] at h2
              | _ => simp [M.fail] at h2
            · rw [if_neg hc] at h; simp [M.fail] at h
        | _ => simp [M.fail] at h
  | _ => simp [hu, M.fail] at h

/-- A builtin's call is met. -/
theorem builtinP_ok {bi : Builtin} {ts : List TypeId} {ty : TypeId} {cs : Array Bool} {xs : List AV} {vs : List Value} {v : AV} {w : World} (hr : HRel R φ F S H w.heap) (hx : VRels φ S w.heap xs vs) {b : Bool} {H' : Heap X} {c c' : Nat} {l : List (Act X)}
    (h : builtinP P bi ts xs b H c = some (v, H', c', l)) (hfree : ∀ n, c ≤ n → n < c' → φ n = none) :
    NextOK R P φ F S w c c' (builtin bi ts.toArray ty cs vs.toArray) v H' := by
  unfold builtinP at h
  split at h
  · cases hx with
    | cons hx ht => exact (.of_sem (lenP_ok hr hx h))
  · cases hx with
    | cons hx ht => cases ht with
      | cons hy ht => cases ht with
        | nil =>
          exact .of_sem (appendP_ok hr hx hy h hfree ty)
  · cases hx with
    | cons hx ht => cases ht with
      | nil => exact (.of_sem (clearP_ok hr hx h))
  · cases hx with
    | cons hx ht => cases ht with
      | cons hy ht => cases ht with
        | nil => exact (.of_sem (deleteP_ok hr hx hy h))
  · cases hx with
    | cons hx ht => cases ht with
      | cons hy ht => cases ht with
        | nil => exact (.of_sem (copyP_ok hr hx hy h))
  · cases hx with
    | cons hx ht => cases ht with
      | nil =>
        obtain ⟨h1, rfl, rfl⟩ := lift_some h
        obtain ⟨v', h2, h3⟩ := dataP_ok (P := P) h1 hx
        exact (.of_sem (SemOK.pure hr (v' := v') h2 h3))
  · cases hx with
    | cons hx ht => cases ht with
      | cons hy ht => cases ht with
        | nil => exact (.of_sem (unsafeStrP_ok hr hx hy h))
  · cases hx with
    | cons hx ht =>
      obtain ⟨h1, rfl, rfl⟩ := lift_some h
      obtain ⟨v', h2, h3⟩ := maxL_ok (P := P) w h1 hx ht
      exact (.of_sem (SemOK.pure hr (v' := v') (by simpa [Builtin.max_] using h2) h3))
  · cases hx with
    | cons hx ht =>
      obtain ⟨h1, rfl, rfl⟩ := lift_some h
      obtain ⟨v', h2, h3⟩ := minL_ok (P := P) w h1 hx ht
      exact (.of_sem (SemOK.pure hr (v' := v') (by simpa [Builtin.min_] using h2) h3))
  · simp [M.fail] at h

end Go.Abs
