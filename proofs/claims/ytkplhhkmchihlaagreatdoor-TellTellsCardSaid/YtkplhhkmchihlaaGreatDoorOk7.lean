/- Every plain operation is met. -/
import Derived.Test.YtkplhhkmchihlaaGreatDoorOk6
namespace Go.Abs
variable {X : Type} {R : Rep X} {P : Program} {φ : Names} {F S : Nat → Prop} {H : Heap X}

/-- What an operation comes to: a value, or nothing. -/
def NextOK (R : Rep X) (P : Program) (φ : Names) (F S : Nat → Prop) (w : World) (c c' : Nat) (s : Sem Next) (v : AV) (H' : Heap X) : Prop :=
  ∃ r φ' F' S' w', s.run P w = .ok r w' ∧ ((∃ v', r = .value v' ∧ VRel φ' S' w'.heap v v') ∨ (r = .skip ∧ v = .undef)) ∧ HRel R φ' F' S' H' w'.heap ∧
    WStep φ F S w φ' F' S' w' ∧ ∀ n, ¬ (c ≤ n ∧ n < c') → φ' n = φ n

theorem NextOK.of_sem {w : World} {c c' : Nat} {s : Sem Value} {v : AV} {H' : Heap X} (h : SemOK R P φ F S w c c' s v H') : NextOK R P φ F S w c c' (do pure (.value (← s))) v H' := by
  obtain ⟨v', φ', F', S', w', h1, h2, h3, h4, h5⟩ := h
  exact ⟨.value v', φ', F', S', w', by simp [h1], .inl ⟨v', rfl, h2⟩, h3, h4, h5⟩

theorem NextOK.val {w : World} {c : Nat} {s : Sem Next} {v : AV} {v' : Value} (hr : HRel R φ F S H w.heap) (h : s.run P w = .ok (.value v') w) (hv : VRel φ S w.heap v v') : NextOK R P φ F S w c c s v H :=
  ⟨_, φ, F, S, w, h, .inl ⟨v', rfl, hv⟩, hr, WStep.refl, fun _ _ => rfl⟩

theorem lift_some {α : Type} {o : Option α} {b : Bool} {H H' : Heap X} {c c' : Nat} {l : List (Act X)} {v : α} (h : M.lift o b H c = some (v, H', c', l)) : o = some v ∧ H' = H ∧ c' = c := by
  cases o with
  | none => simp [M.lift, M.fail] at h
  | some a => simp [M.lift, M.pure] at h; obtain ⟨rfl, rfl, rfl, _⟩ := h; exact ⟨rfl, rfl, rfl⟩

theorem pure_some {α : Type} {a : α} {b : Bool} {H H' : Heap X} {c c' : Nat} {l : List (Act X)} {v : α} (h : (M.pure a : M X α) b H c = some (v, H', c', l)) : a = v ∧ H' = H ∧ c' = c := by
  simp [M.pure] at h; obtain ⟨rfl, rfl, rfl, _⟩ := h; exact ⟨rfl, rfl, rfl⟩

theorem envs_rel {h : Array Obj} {ρ : Env} {ρ' : Operand → Value} (hρ : ∀ x a, ρ x = some a → VRel φ S h a (ρ' x)) : ∀ {ps : List (Nat × Operand)} {qs : List (Nat × AV)}, envs ρ ps = some qs → Parts φ S h qs (ps.map fun (i, x) => (i, ρ' x))
  | [], qs, h => by simp [envs] at h; subst h; exact .nil
  | (i, x) :: ps, qs, h => by
    simp only [envs] at h
    split at h
    · rename_i v vs h1 h2
      simp at h; subst h
      exact .cons (hρ x v h1) (envs_rel hρ h2)
    · cases h

theorem envL_rel {h : Array Obj} {ρ : Env} {ρ' : Operand → Value} (hρ : ∀ x a, ρ x = some a → VRel φ S h a (ρ' x)) : ∀ {ps : List Operand} {qs : List AV}, envL ρ ps = some qs → VRels φ S h qs (ps.map ρ')
  | [], qs, h => by simp [envL] at h; subst h; exact .nil
  | x :: ps, qs, h => by
    simp only [envL] at h
    split at h
    · rename_i v vs h1 h2
      simp at h; subst h
      exact .cons (hρ x v h1) (envL_rel hρ h2)
    · cases h

theorem bind_some {α β : Type} {m : M X α} {k : α → M X β} {b : Bool} {H H' : Heap X} {c c' : Nat} {l : List (Act X)} {v : β} (h : m.bind k b H c = some (v, H', c', l)) :
    ∃ a H1 c1 l1 l2, m b H c = some (a, H1, c1, l1) ∧ k a b H1 c1 = some (v, H', c', l2) := by
  simp only [M.bind] at h
  cases hm : m b H c with
  | none => simp [hm] at h
  | some r =>
    obtain ⟨a, H1, c1, l1⟩ := r
    simp only [hm] at h
    cases hk : k a b H1 c1 with
    | none => simp [hk] at h
    | some r =>
      obtain ⟨v1, H2, c2, l2⟩ := r
      simp only [hk, Option.some.injEq, Prod.mk.injEq] at h
      obtain ⟨rfl, rfl, rfl, _⟩ := h
      exact ⟨a, H1, c1, l1, l2, rfl, hk⟩

theorem rdO_some {n : Nat} {b : Bool} {H H' : Heap X} {c c' : Nat} {l : List (Act X)} {o : AObj X} (h : M.rdO n b H c = some (o, H', c', l)) : H.get n = some o ∧ H' = H ∧ c' = c := by
  simp only [M.rdO] at h
  cases hg : H.get n with
  | none => simp [hg] at h
  | some o' => simp [hg] at h; obtain ⟨rfl, rfl, rfl, _⟩ := h; exact ⟨rfl, rfl, rfl⟩

theorem wrO_some {n : Nat} {x : AObj X} {b : Bool} {H H' : Heap X} {c c' : Nat} {l : List (Act X)} {u : Unit} (h : M.wrO n x b H c = some (u, H', c', l)) : (∃ o, H.get n = some o) ∧ H' = H.set n x ∧ c' = c := by
  simp only [M.wrO] at h
  cases hg : H.get n with
  | none => simp [hg] at h
  | some o' => simp [hg] at h; obtain ⟨rfl, rfl, _⟩ := h; exact ⟨⟨o', rfl⟩, rfl, rfl⟩

theorem del_some {n : Nat} {b : Bool} {H H' : Heap X} {c c' : Nat} {l : List (Act X)} {u : Unit} (h : M.del n b H c = some (u, H', c', l)) : (∃ o, H.get n = some o) ∧ H' = H.del n ∧ c' = c := by
  simp only [M.del] at h
  cases hg : H.get n with
  | none => simp [hg] at h
  | some o' => simp [hg] at h; obtain ⟨rfl, rfl, _⟩ := h; exact ⟨⟨o', rfl⟩, rfl, rfl⟩

theorem new_some {o : AObj X} {k : Nat → M X AV} {b : Bool} {H' : Heap X} {c c' : Nat} {l : List (Act X)} {v : AV} (h : (M.new o).bind k b H c = some (v, H', c', l)) : ∃ l', k c b (H.set c o) (c + 1) = some (v, H', c', l') := by
  simp only [M.bind, M.new] at h
  cases hk : k c b (H.set c o) (c + 1) with
  | none => simp [hk] at h
  | some r =>
    obtain ⟨v1, H1, c1, l1⟩ := r
    simp only [hk, Option.some.injEq, Prod.mk.injEq] at h
    obtain ⟨rfl, rfl, rfl, _⟩ := h
    exact ⟨l1, rfl⟩

/-- A fresh row of one element. -/
theorem new1_ok {w : World} (hr : HRel R φ F S H w.heap) {c : Nat} (hfree : φ c = none) {t : TypeId} {z : List AV} {cells : Array Value} (hv : VRels φ S w.heap z cells.toList) :
    SemOK R P φ F S w c (c + 1) (do pure (.pointer (some (← newRow t cells)))) (.ptr c 0 0) (H.set c (.arr t [z])) := by
  obtain ⟨φ', h1, h2, h3, h4, h5⟩ := newRow_ok (R := R) hr hfree (t := t) (es := [z]) (z := ⟨z.length, 0⟩) (vs := cells.toList) (cells := cells) 0 (by simp) (by simpa using hv)
    (by intro j hj; simp) (by have := hv.length; simp at this; simp; omega) (by simp)
  refine ⟨.pointer (some ⟨w.heap.size, 0, none⟩), φ', _, S, { w with heap := w.heap.push (.cells cells t) }, by simp [newRow], .ptr' h2 (by simp), h4, h5.here, ?_⟩
  intro n hn
  exact h3 n (by omega)

section
variable {ρ : Env} {ρ' : Operand → Value} {w : World} {b : Bool} {H' : Heap X} {c c' : Nat} {l : List (Act X)} {v : AV}

set_option maxHeartbeats 1000000 in
theorem plainOp_ok (hr : HRel R φ F S H w.heap) (hρ : ∀ x a, ρ x = some a → VRel φ S w.heap a (ρ' x)) (o : Oper) (h : plainOp P ρ o.op b H c = some (v, H', c', l)) (hfree : ∀ n, c ≤ n → n < c' → φ n = none) :
    NextOK R P φ F S w c c' (execOp ρ' o) v H' := by
  obtain ⟨dst, op, type, pos, after, guard⟩ := o
  cases op <;> simp only [plainOp] at h
  case move x =>
    obtain ⟨h1, rfl, rfl⟩ := lift_some h
    exact .val hr (by simp [execOp]) (hρ _ _ h1)
  case assign x =>
    obtain ⟨h1, rfl, rfl⟩ := lift_some h
    exact .val hr (by simp [execOp]) (hρ _ _ h1)
  case pick x y z =>
    cases hx : ρ x with
    | none => simp [hx, M.fail] at h
    | some a =>
      cases a with
      | bool t =>
        simp only [hx] at h
        obtain ⟨h1, rfl, rfl⟩ := lift_some h
        have hb := hρ _ _ hx
        have hb' : ρ' x = .bool t := by generalize ρ' x = u at hb; cases hb; rfl
        cases t with
        | true => exact .val hr (v' := ρ' y) (by simp [execOp, hb', asBool]) (hρ _ _ h1)
        | false => exact .val hr (v' := ρ' z) (by simp [execOp, hb', asBool]) (hρ _ _ h1)
      | _ => simp [hx, M.fail] at h
  case alloc e =>
    cases hz : zeroT P e with
    | none => simp [hz, M.fail] at h
    | some z =>
      simp only [hz] at h
      obtain ⟨l', hk⟩ := new_some h
      obtain ⟨rfl, rfl, rfl⟩ := pure_some hk
      obtain ⟨zv, hz1, hz2⟩ := run_zero (P := P) w hz
      have := new1_ok (P := P) hr (hfree c (Nat.le_refl _) (by omega)) (t := e) (hz2 φ S w.heap)
      obtain ⟨v', φ', F', S', w', q1, q2⟩ := this
      refine NextOK.of_sem ⟨v', φ', F', S', w', ?_, q2⟩
      simp only [Instr.alloc, newVar, Sem.run_bind, hz1, Result.andThen_ok]
      exact q1
  case box e x =>
    cases hx : ρ x with
    | none => simp [hx, M.fail] at h
    | some a =>
      simp only [hx] at h
      split at h
      · rename_i hone
        obtain ⟨l', hk⟩ := new_some h
        obtain ⟨rfl, rfl, rfl⟩ := pure_some hk
        have hc := AV.cells_rel (hρ _ _ hx) hone
        have := new1_ok (P := P) hr (hfree c (Nat.le_refl _) (by omega)) (t := e) hc
        exact NextOK.of_sem this
      · simp [M.fail] at h
  case build t ps =>
    cases he : envs ρ ps.toList with
    | none => simp [he, M.fail] at h
    | some qs =>
      simp only [he] at h
      obtain ⟨h1, rfl, rfl⟩ := lift_some h
      have hp := envs_rel hρ he
      have hq : (ps.map fun (i, x) => (i, ρ' x)).toList = ps.toList.map fun (i, x) => (i, ρ' x) := by simp
      unfold buildV at h1
      cases hz : zeroT P t with
      | none => simp [hz] at h1
      | some z =>
        obtain ⟨zv, hz1, hz2⟩ := run_zero (P := P) w hz
        cases hu : P.underlying t with
        | none => simp [hz, hu] at h1
        | some d =>
          cases d with
          | struct fs =>
            simp only [hz, hu] at h1
            split at h1
            · rename_i hall
              cases hf : fillCells (structPlaces P fs.toList) z qs with
              | none => simp [hf] at h1
              | some r =>
                simp [hf] at h1; subst h1
                -- the places of the fields, as the model reckons them
                have hpl : ∃ places : Array (Nat × Nat), (fs.mapM fun f => (do pure (f.offset, ← sizeOf f.type) : Sem (Nat × Nat))).run P w = .ok places w ∧ ∀ i, places[i]? = structPlaces P fs.toList i := by
                  have key : ∀ (gs : List Field), (gs.all fun f => (sizeT P f.type).isSome) = true → ∃ pl : List (Nat × Nat), (gs.mapM fun f => (do pure (f.offset, ← sizeOf f.type) : Sem (Nat × Nat))).run P w = .ok pl w ∧ ∀ i, pl[i]? = structPlaces P gs i := by
                    intro gs
                    induction gs with
                    | nil => intro _; exact ⟨[], by simp, fun i => by simp [structPlaces]⟩
                    | cons f gs ih =>
                      intro hg
                      simp only [List.all_cons, Bool.and_eq_true] at hg
                      obtain ⟨n, hn⟩ := Option.isSome_iff_exists.1 hg.1
                      obtain ⟨pl, p1, p2⟩ := ih hg.2
                      refine ⟨(f.offset, n) :: pl, ?_, ?_⟩
                      · simp only [List.mapM_cons, Sem.run_bind, run_size w hn, Result.andThen_ok, Sem.run_pure, p1]
                      · intro i
                        cases i with
                        | zero => simp [structPlaces, hn]
                        | succ i => simpa [structPlaces] using p2 i
                  obtain ⟨pl, p1, p2⟩ := key fs.toList hall
                  refine ⟨pl.toArray, ?_, fun i => by simpa using p2 i⟩
                  rw [Array.mapM_eq_mapM_toList, Sem.run_map, p1]
                  rfl
                obtain ⟨places, p1, p2⟩ := hpl
                obtain ⟨dd, f1, f2⟩ := fill_ok hp hf (hz2 φ S w.heap)
                have hplace : (fun i => places[i]?) = structPlaces P fs.toList := funext p2
                refine NextOK.of_sem (SemOK.pure hr (v' := .agg dd) ?_ (by simpa using VRel.agg f2))
                simp only [Instr.build, Sem.run_bind, hz1, Result.andThen_ok, run_und w hu, p1, hq, hplace, f1]
                rfl
            · cases h1
          | array n e =>
            simp only [hz, hu] at h1
            cases hs : sizeT P e with
            | none => simp [hs] at h1
            | some k =>
              simp only [hs] at h1
              cases hf : fillCells (fun i => some (i * k, k)) z qs with
              | none => simp [hf] at h1
              | some r =>
                simp [hf] at h1; subst h1
                obtain ⟨dd, f1, f2⟩ := fill_ok hp hf (hz2 φ S w.heap)
                refine NextOK.of_sem (SemOK.pure hr (v' := .agg dd) ?_ (by simpa using VRel.agg f2))
                simp only [Instr.build, Sem.run_bind, hz1, Result.andThen_ok, run_und w hu, run_size w hs, hq, f1]
                rfl
          | _ => simp [hz, hu] at h1
  case buildSlice t len ps =>
    cases hu : P.underlying t with
    | none => simp [hu, M.fail] at h
    | some d =>
      cases d with
      | slice e =>
        cases he : envs ρ ps.toList with
        | none => simp [hu, he, M.fail] at h
        | some qs =>
          simp only [hu, he] at h
          cases hs : elemT P e with
          | none => simp [hs, M.fail] at h
          | some z =>
            cases hz : zeroT P e with
            | none => simp [hs, hz, M.fail] at h
            | some zs =>
              simp only [hs, hz] at h
              split at h
              · rename_i hcond
                obtain ⟨g1, g2, g3, g4⟩ := hcond
                cases hf : fillEls z.z (List.replicate len zs) qs with
                | none => simp [hf, M.fail] at h
                | some es =>
                  simp only [hf] at h
                  split at h
                  · rename_i hone
                    obtain ⟨l', hk⟩ := new_some h
                    obtain ⟨rfl, rfl, rfl⟩ := pure_some hk
                    have hp := envs_rel hρ he
                    have hq : (ps.map fun (i, x) => (i, ρ' x)).toList = ps.toList.map fun (i, x) => (i, ρ' x) := by simp
                    obtain ⟨zv, hz1, hz2⟩ := run_zero (P := P) w hz
                    have hzl : zv.cells.size = z.z := by have := (hz2 φ S w.heap).length; rw [g1] at this; simpa using this.symm
                    have hzero := (hz2 φ S w.heap).rep len
                    rw [← zeros_eq zv len z.z hzl] at hzero
                    obtain ⟨dd, f1, f2, f3, f4⟩ := fillEls_ok hp hf (by intro x hx; rw [List.eq_of_mem_replicate hx, g1]) hzero
                    rw [List.length_replicate] at f4
                    have hdl := f2.length
                    rw [flatten_length f3] at hdl
                    obtain ⟨φ', h1, h2, h3, h4, h5⟩ := newRow_ok (R := R) hr (hfree c (Nat.le_refl _) (by omega)) (t := e) (es := es) (z := z) (vs := dd.toList) (cells := dd) 0 f3 f2 (by intro j hj; simp) (by simp at hdl ⊢; omega) (by rw [f4]; exact g4)
                    refine NextOK.of_sem ⟨.slice (some ⟨w.heap.size, 0, none⟩) len len, φ', _, S, { w with heap := w.heap.push (.cells dd e) }, ?_, .sl' h2 rfl (Nat.le_refl _) (by simp) (by simp [capOf, f4]), h4, h5.here, fun n hn => h3 n (by omega)⟩
                    simp only [Instr.buildSlice, Sem.run_bind, run_und w hu, Result.andThen_ok, run_size w (elem_size hs), hq]
                    rw [if_neg (by omega)]
                    by_cases hl0 : len * z.z = 0
                    · have e1 : ∀ g : Nat → Value, (Array.range (len * z.z)).map g = #[] := fun g => by rw [hl0]; simp
                      rw [e1] at f1
                      rw [if_pos hl0]
                      simp only [e1, f1]
                      simp [newRow]
                    · rw [if_neg hl0]
                      simp only [Sem.run_bind, hz1, Result.andThen_ok, Sem.run_pure]
                      rw [f1]
                      simp [newRow]
                  · simp [M.fail] at h
              · simp [M.fail] at h
      | _ => simp [hu, M.fail] at h
  case load t a =>
    cases ha : ρ a with
    | none => simp [ha, M.fail] at h
    | some u =>
      simp only [ha] at h
      obtain ⟨rfl, rfl, h3⟩ := loadP_ok hr (hρ _ _ ha) h
      exact NextOK.of_sem h3
  case store t a x =>
    cases ha : ρ a with
    | none => simp [ha, M.fail] at h
    | some u =>
      cases hx : ρ x with
      | none => simp [ha, hx, M.fail] at h
      | some y =>
        simp only [ha, hx] at h
        obtain ⟨rfl, rfl, h', h1, h2, h3⟩ := storeP_ok hr (hρ _ _ ha) (hρ _ _ hx) h
        exact ⟨.skip, φ, F, S, { w with heap := h' }, by simp [execOp, h1], .inr ⟨rfl, rfl⟩, h2, h3.here, fun _ _ => rfl⟩
  case nilCheck x =>
    cases hx : ρ x with
    | none => simp [hx, M.fail] at h
    | some a =>
      have hv := hρ _ _ hx
      cases a with
      | ptr n i o =>
        simp only [hx] at h
        obtain ⟨rfl, rfl, rfl⟩ := pure_some h
        generalize hg : ρ' x = u at hv
        cases hv with
        | ptr hn => exact .val hr (by simp [execOp, hg]) (.ptr hn)
      | pel cs =>
        simp only [hx] at h
        obtain ⟨rfl, rfl, rfl⟩ := pure_some h
        generalize hg : ρ' x = u at hv
        cases hv with
        | pel q1 q2 q3 q4 => exact .val hr (by simp [execOp, hg]) (.pel q1 q2 q3 q4)
      | _ => simp [hx, M.fail] at h
  case binOp op t x y yt =>
    cases hx : ρ x with
    | none => simp [hx, M.fail] at h
    | some a =>
      cases hy : ρ y with
      | none => simp [hx, hy, M.fail] at h
      | some d =>
        simp only [hx, hy] at h
        obtain ⟨h1, rfl, rfl⟩ := lift_some h
        obtain ⟨v', q1, q2⟩ := bin_ok (P := P) w h1 (hρ _ _ hx) (hρ _ _ hy) x y
        exact NextOK.of_sem (SemOK.pure hr q1 q2)
  case unOp op t x =>
    cases hx : ρ x with
    | none => simp [hx, M.fail] at h
    | some a =>
      simp only [hx] at h
      obtain ⟨h1, rfl, rfl⟩ := lift_some h
      obtain ⟨v', q1, q2⟩ := un_ok (P := P) w h1 (hρ _ _ hx)
      exact NextOK.of_sem (SemOK.pure hr q1 q2)
  case convert src dst x =>
    obtain ⟨h1, rfl, rfl⟩ := lift_some h
    unfold convV at h1
    split at h1
    · rename_i d0 k k0 n hs hd hx
      simp at h1; subst h1
      have hv := hρ _ _ hx
      generalize hg : ρ' x = u at hv
      cases hv
      refine NextOK.of_sem (SemOK.pure hr (v' := .int k (k.wrap n)) ?_ (.int _ _))
      simp only [hg, convert, Sem.run_bind, run_und w hs, run_und w hd, Result.andThen_ok]
      cases d0 <;> simp [Conv.intToInt]
    · rename_i d0 s hs hd hx
      simp at h1; subst h1
      have hv := hρ _ _ hx
      generalize hg : ρ' x = u at hv
      cases hv with
      | str s =>
        refine NextOK.of_sem (SemOK.pure hr (v' := .string s) ?_ (.str s))
        simp only [hg, convert, Sem.run_bind, run_und w hs, run_und w hd, Result.andThen_ok]
        cases d0 <;> simp
    · cases h1
  case makeFunc f as bs =>
    cases ha : envL ρ as.toList with
    | none => simp [ha, M.fail] at h
    | some xs =>
      cases hb : envL ρ bs.toList with
      | none => simp [ha, hb, M.fail] at h
      | some ys =>
        simp only [ha, hb] at h
        obtain ⟨rfl, rfl, rfl⟩ := pure_some h
        have h1 := VRel.fn (f := f) (envL_rel hρ ha) (envL_rel hρ hb)
        refine NextOK.of_sem (SemOK.pure hr (v' := .func f (as.map ρ') (bs.map ρ')) (by simp [Instr.makeFunc]) ?_)
        have e1 : (as.toList.map ρ').toArray = as.map ρ' := by apply Array.ext'; simp
        have e2 : (bs.toList.map ρ').toArray = bs.map ρ' := by apply Array.ext'; simp
        rw [← e1, ← e2]; exact h1
  case makeMap t r =>
    cases r with
    | some x => simp [M.fail] at h
    | none =>
      simp only at h
      obtain ⟨l', hk⟩ := new_some h
      obtain ⟨rfl, rfl, rfl⟩ := pure_some hk
      have hfr := hfree c (Nat.le_refl _) (by omega)
      have hext : Ext φ (fun n => if n = c then some ⟨w.heap.size, 0, ⟨0, 0⟩, 0, 0⟩ else φ n) := by
        intro n pl hn
        by_cases e : n = c
        · subst e; rw [hfr] at hn; cases hn
        · simp [e, hn]
      have hold : ∀ b, b < w.heap.size → (w.heap.push (.map #[] 0))[b]? = w.heap[b]? := fun b hb => by
        rw [Array.getElem?_push]; simp [Nat.ne_of_lt hb]
      have hput := hr.put (n := c) (o := .map []) (pl := ⟨w.heap.size, 0, ⟨0, 0⟩, 0, 0⟩) (h' := w.heap.push (.map #[] 0)) (fun b => b = w.heap.size) hext (by simp)
        (by
          rintro b rfl m o' hm _ fp r hf
          exact absurd (r.liveF _ (r.inF m o' _ hm hf)) (by omega))
        (fun b hb _ => hold b hb) (by simp) (by intro b hb; subst hb; simp)
        (by
          rintro b rfl hS
          obtain ⟨fp, r⟩ := hr
          exact absurd (r.liveS _ hS) (by omega))
        ⟨rfl, fun b hb => hb, #[], 0, by simp, by simpa [flatPairs, flatEntries] using VRels.nil, by simp, by simp⟩
      refine NextOK.of_sem ⟨.map (some w.heap.size), _, _, S, { w with heap := w.heap.push (.map #[] 0) }, by simp [Instr.makeMap], .map (pl := ⟨w.heap.size, 0, ⟨0, 0⟩, 0, 0⟩) (by simp), hput, ?_, ?_⟩
      · exact Step.here ⟨hext, by simp, fun b hb _ => hold b hb, fun b hb => hb.imp id (fun e => by omega), fun b hb => .inl hb, fun b hb => hb⟩
      · intro n hn
        have : n ≠ c := by omega
        simp [this]
  case slice t x lo hi mx =>
    obtain ⟨h0, rfl, rfl⟩ := lift_some h
    have opt : ∀ (y : Option Operand) (r : Option AV), optE ρ y = some r → OptRel φ S w.heap r (y.map ρ') := by
      intro y r hy
      cases y with
      | none => simp [optE] at hy; subst hy; exact .none
      | some y =>
        simp only [optE] at hy
        cases hr : ρ y with
        | none => simp [hr] at hy
        | some u => simp [hr] at hy; subst hy; exact .some (hρ _ _ hr)
    split at h0
    · rename_i a lo1 hi1 mx1 hx h1 h2 h3
      obtain ⟨v', q1, q2⟩ := sliceV_ok (P := P) w h0 (hρ _ _ hx) (opt _ _ h1) (opt _ _ h2) (opt _ _ h3)
      exact NextOK.of_sem (SemOK.pure hr q1 q2)
    · cases h0
  case fieldAddr s x f =>
    cases hx : ρ x with
    | none => simp [hx, M.fail] at h
    | some a =>
      simp only [hx] at h
      obtain ⟨h1, rfl, rfl⟩ := lift_some h
      obtain ⟨v', q1, q2⟩ := fieldAt_ok (P := P) w h1 (hρ _ _ hx)
      exact NextOK.of_sem (SemOK.pure hr q1 q2)
  case field t x f =>
    obtain ⟨h1, rfl, rfl⟩ := lift_some h
    split at h1
    · rename_i cs ft off hx hf
      have hv := hρ _ _ hx
      generalize hg : ρ' x = u at hv
      cases hv with
      | agg hvs =>
        obtain ⟨v', q1, q2⟩ := part_ok (P := P) w h1 hvs
        refine NextOK.of_sem (SemOK.pure hr ?_ q2)
        unfold fieldOff at hf
        cases hu : P.underlying t with
        | none => simp [hu] at hf
        | some d =>
          cases d with
          | struct fs =>
            simp only [hu] at hf
            cases hfd : fs[f]? with
            | none => simp [hfd] at hf
            | some fd =>
              simp [hfd] at hf
              obtain ⟨rfl, rfl⟩ := hf
              simp [hg, Instr.field, run_und w hu, hfd, asAgg, q1]
          | _ => simp [hu] at hf
    · cases h1
  case indexAddr t x i =>
    cases hx : ρ x with
    | none => simp [hx, M.fail] at h
    | some a =>
      cases hy : ρ i with
      | none => simp [hx, hy, M.fail] at h
      | some d =>
        simp only [hx, hy] at h
        obtain ⟨h1, rfl, rfl⟩ := lift_some h
        obtain ⟨v', q1, q2⟩ := indexAt_ok (P := P) w h1 (hρ _ _ hx) (hρ _ _ hy)
        exact NextOK.of_sem (SemOK.pure hr q1 q2)
  case index t x i =>
    cases hx : ρ x with
    | none => simp [hx, M.fail] at h
    | some a =>
      cases hy : ρ i with
      | none => simp [hx, hy, M.fail] at h
      | some d =>
        simp only [hx, hy] at h
        obtain ⟨h1, rfl, rfl⟩ := lift_some h
        obtain ⟨v', q1, q2⟩ := indexV_ok (P := P) w h1 (hρ _ _ hx) (hρ _ _ hy)
        exact NextOK.of_sem (SemOK.pure hr q1 q2)
  case extract x i =>
    cases hx : ρ x with
    | none => simp [hx, M.fail] at h
    | some a =>
      have hv := hρ _ _ hx
      cases a with
      | tup vs =>
        simp only [hx] at h
        obtain ⟨h1, rfl, rfl⟩ := lift_some h
        generalize hg : ρ' x = u at hv
        cases hv with
        | tup hvs =>
          obtain ⟨v', q1, q2⟩ := hvs.get h1
          refine NextOK.of_sem (SemOK.pure hr ?_ q2)
          simp [hg, Instr.extract, q1]
      | _ => simp [hx, M.fail] at h
  all_goals simp [M.fail] at h
end

end Go.Abs
