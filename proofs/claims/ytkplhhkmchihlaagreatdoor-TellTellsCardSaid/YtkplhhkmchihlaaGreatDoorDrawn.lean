/- A region whose order is drawn: whatever the order, it comes to the same. -/
import Derived.Test.YtkplhhkmchihlaaGreatDoorCongr
namespace Go.Abs
variable {X : Type} {R : Rep X}

/-- What an operation did in the order of the text. -/
structure Did (X : Type) where
  i : Nat
  o : Oper
  want : Bool
  s : Slots
  v : AV
  lo : Nat
  hi : Nat
  l : List (Act X)

section
variable {E : Cfg} {call : AV → List AV → M X AV} {ops : Array Oper}

def Did.OK (E : Cfg) (call : AV → List AV → M X AV) (ops : Array Oper) (d : Did X) : Prop :=
  ops[d.i]? = some d.o ∧ wantA ops d.s d.o = some d.want ∧ (d.want = true → ∃ H H', operA E call d.o (evalA E.G d.s) true H d.lo = some (d.v, H', d.hi, d.l)) ∧ (d.want = false → d.v = .undef ∧ d.l = [] ∧ d.hi = d.lo) ∧ d.lo ≤ d.hi

/-- It is done anew. -/
structure Redo (ops : Array Oper) (d : Did X) (s : Slots) (H : Heap X) (s' : Slots) (H' : Heap X) : Prop where
  sees : Sees ops d.o s d.s
  out : s' = putA s d.o.dst d.v
  run : RunL d.l H H'

inductive Redos (ops : Array Oper) : List (Did X) → Slots → Heap X → Slots → Heap X → Prop
  | nil (s : Slots) (H : Heap X) : Redos ops [] s H s H
  | cons {d : Did X} {ds : List (Did X)} {s s1 s2 : Slots} {H H1 H2 : Heap X} (h : Redo ops d s H s1 H1) (t : Redos ops ds s1 H1 s2 H2) : Redos ops (d :: ds) s H s2 H2

def free2 (ops : Array Oper) (x y : Did X) : Bool := x.o.apart ops y.o && indepL x.l y.l

theorem Redo.like {d : Did X} {s s1 t : Slots} {H H1 K : Heap X} (h : Redo ops d s H s1 H1) (hs : Alike s t) (hH : Like H K) : ∃ t1 K1, Redo ops d t K t1 K1 ∧ Alike s1 t1 ∧ Like H1 K1 := by
  obtain ⟨K1, k1, k2⟩ := h.run.like hH
  refine ⟨_, K1, ⟨fun x hx => (hs x).symm.trans (h.sees x hx), rfl, k1⟩, ?_, k2⟩
  rw [h.out]
  exact hs.put _ _

theorem Redos.like {ds : List (Did X)} {s s1 t : Slots} {H H1 K : Heap X} (h : Redos ops ds s H s1 H1) (hs : Alike s t) (hH : Like H K) : ∃ t1 K1, Redos ops ds t K t1 K1 ∧ Alike s1 t1 ∧ Like H1 K1 := by
  induction h generalizing t K with
  | nil s H => exact ⟨t, K, .nil t K, hs, hH⟩
  | cons hd _ ih =>
    obtain ⟨t1, K1, a1, a2, a3⟩ := hd.like hs hH
    obtain ⟨t2, K2, b1, b2, b3⟩ := ih a2 a3
    exact ⟨t2, K2, .cons a1 b1, b2, b3⟩

/-- Two that are free change places. -/
theorem Redo.swap {x y : Did X} {s s1 s2 : Slots} {H H1 H2 : Heap X} (hx : Redo ops x s H s1 H1) (hy : Redo ops y s1 H1 s2 H2) (hf : free2 ops x y = true) :
    ∃ t1 K1 t2 K2, Redo ops y s H t1 K1 ∧ Redo ops x t1 K1 t2 K2 ∧ Alike t2 s2 ∧ Like K2 H2 := by
  unfold free2 at hf
  rw [Bool.and_eq_true] at hf
  obtain ⟨h1, h2, h3⟩ := Oper.apart_spec hf.1
  obtain ⟨K1, K2, k1, k2, k3⟩ := RunL.swap hx.run hy.run hf.2
  refine ⟨putA s y.o.dst y.v, K1, putA (putA s y.o.dst y.v) x.o.dst x.v, K2, ⟨?_, rfl, k1⟩, ⟨?_, rfl, k2⟩, ?_, k3⟩
  · intro t ht
    rw [← hy.sees t ht, hx.out]
    exact (get_put_ne fun e => h1 t e ht).symm
  · intro t ht
    rw [← hx.sees t ht]
    exact get_put_ne fun e => h3 t e ht
  · rw [hy.out, hx.out]
    exact put_swap _ _ fun d hd hx => h2 d hx hd

theorem Redos.pull {d : Did X} {es : List (Did X)} : ∀ {ds : List (Did X)} {s s2 : Slots} {H H2 : Heap X}, Redos ops (ds ++ d :: es) s H s2 H2 → (∀ x ∈ ds, free2 ops x d = true) →
    ∃ t1 K1 t2 K2, Redo ops d s H t1 K1 ∧ Redos ops (ds ++ es) t1 K1 t2 K2 ∧ Alike t2 s2 ∧ Like K2 H2
  | [], s, s2, H, H2, h, _ => by
    cases h with
    | cons hd ht => exact ⟨_, _, _, _, hd, ht, fun _ => rfl, Like.refl _⟩
  | x :: ds, s, s2, H, H2, h, hf => by
    cases h with
    | cons hx ht =>
      obtain ⟨t1, K1, t2, K2, a1, a2, a3, a4⟩ := Redos.pull ht fun y hy => hf y (List.mem_cons_of_mem _ hy)
      obtain ⟨u1, L1, u2, L2, b1, b2, b3, b4⟩ := hx.swap a1 (hf x (by simp))
      obtain ⟨v2, M2, c1, c2, c3⟩ := a2.like (fun t => (b3 t).symm) b4.symm
      exact ⟨u1, L1, v2, M2, b1, .cons b2 c1, fun t => (c2 t).symm.trans (a3 t), c3.symm.trans a4⟩


theorem freeOf_mem {i : Nat} {a : Oper} {l : List (Act X)} : ∀ {ds : List (Did X)}, freeOf ops i a l (ds.map (·.o)) (ds.map (·.l)) = true → ∀ y ∈ ds, behind i y.o = true ∨ (a.apart ops y.o && indepL l y.l) = true
  | [], _, y, hy => by simp at hy
  | d :: ds, h, y, hy => by
    simp only [List.map_cons, freeOf, Bool.and_eq_true, Bool.or_eq_true] at h
    rcases List.mem_cons.1 hy with rfl | hy
    · rcases h.1 with k | k
      · exact .inl k
      · exact .inr (by rw [Bool.and_eq_true]; exact k)
    · exact freeOf_mem h.2 y hy

theorem drawA_did (hc : CallsGood call) : ∀ (l : List Oper) (i : Nat) {s s' : Slots} {H H' : Heap X} {c c' : Nat} {ls : List (List (Act X))}, drawA E call ops l s H c = some (s', H', c', ls) →
    (∀ j o, l[j]? = some o → ops[i + j]? = some o) → freeAll ops i l ls = true →
    ∃ ds : List (Did X), ds.map (·.i) = List.range' i l.length ∧ ds.map (·.o) = l ∧ ds.map (·.l) = ls ∧ (∀ d ∈ ds, d.OK E call ops) ∧ Redos ops ds s H s' H' ∧ ds.Pairwise (fun x y => x.hi ≤ y.lo) ∧
      ds.Pairwise (fun x y => behind x.i y.o = true ∨ free2 ops x y = true) ∧ (∀ d ∈ ds, c ≤ d.lo ∧ d.hi ≤ c') ∧ (∀ d ∈ ds, (d.o.after.all fun e => !Region.binds .any e || decide (e.on < d.i)) = true) ∧ c ≤ c'
  | [], i, s, s', H, H', c, c', ls, h, _, _ => by
    simp only [drawA, Option.some.injEq, Prod.mk.injEq] at h
    obtain ⟨rfl, rfl, rfl, rfl⟩ := h
    exact ⟨[], rfl, rfl, rfl, by simp, .nil _ _, .nil, .nil, by simp, by simp, Nat.le_refl _⟩
  | o :: r, i, s, s', H, H', c, c', ls, h, ho, hf => by
    have ho0 : ops[i]? = some o := by simpa using ho 0 o (by simp)
    have ho1 : ∀ j o', r[j]? = some o' → ops[i + 1 + j]? = some o' := fun j o' hj => by
      have := ho (j + 1) o' (by simpa using hj)
      rwa [show i + (j + 1) = i + 1 + j from by omega] at this
    simp only [drawA] at h
    have main : ∀ (d : Did X) (s1 : Slots) (H1 : Heap X) (c1 : Nat) (ls1 : List (List (Act X))), d.i = i → d.o = o → d.lo = c → d.hi = c1 → d.OK E call ops → Redo ops d s H s1 H1 →
        drawA E call ops r s1 H1 c1 = some (s', H', c', ls1) → ls = d.l :: ls1 →
        ∃ ds : List (Did X), ds.map (·.i) = List.range' i (o :: r).length ∧ ds.map (·.o) = o :: r ∧ ds.map (·.l) = ls ∧ (∀ d ∈ ds, d.OK E call ops) ∧ Redos ops ds s H s' H' ∧ ds.Pairwise (fun x y => x.hi ≤ y.lo) ∧
          ds.Pairwise (fun x y => behind x.i y.o = true ∨ free2 ops x y = true) ∧ (∀ d ∈ ds, c ≤ d.lo ∧ d.hi ≤ c') ∧ (∀ d ∈ ds, (d.o.after.all fun e => !Region.binds .any e || decide (e.on < d.i)) = true) ∧ c ≤ c' := by
      intro d s1 H1 c1 ls1 e1 e2 e3 e4 hok hre h1 els
      subst els
      simp only [freeAll, Bool.and_eq_true] at hf
      obtain ⟨ds, a1, a2, a3, a4, a5, a6, a7, a8, a9, a10⟩ := drawA_did hc r (i + 1) h1 ho1 hf.2.2
      have hlohi := hok.2.2.2.2
      refine ⟨d :: ds, ?_, ?_, ?_, ?_, .cons hre a5, ?_, ?_, ?_, ?_, by omega⟩
      · simp [a1, e1, List.range'_succ]
      · simp [a2, e2]
      · simp [a3]
      · intro y hy
        rcases List.mem_cons.1 hy with rfl | hy
        · exact hok
        · exact a4 y hy
      · refine .cons (fun y hy => ?_) a6
        have := (a8 y hy).1
        omega
      · refine .cons (fun y hy => ?_) a7
        have hfo := hf.2.1
        rw [← a2, ← a3, ← e1, ← e2] at hfo
        rcases freeOf_mem hfo y hy with k | k
        · exact .inl k
        · exact .inr k
      · intro y hy
        rcases List.mem_cons.1 hy with rfl | hy
        · omega
        · have := a8 y hy
          omega
      · intro y hy
        rcases List.mem_cons.1 hy with rfl | hy
        · rw [e1, e2]; exact hf.1
        · exact a9 y hy
    cases hw : wantA ops s o with
    | none => simp [hw] at h
    | some t =>
      cases t with
      | false =>
        simp only [hw] at h
        cases h1 : drawA E call ops r (putA s o.dst .undef) H c with
        | none => simp [h1] at h
        | some q =>
          obtain ⟨s1, H1, c1, ls1⟩ := q
          simp only [h1, Option.some.injEq, Prod.mk.injEq] at h
          obtain ⟨rfl, rfl, rfl, rfl⟩ := h
          exact main ⟨i, o, false, s, .undef, c, c, []⟩ _ _ _ _ rfl rfl rfl rfl ⟨ho0, hw, by simp, fun _ => ⟨rfl, rfl, rfl⟩, Nat.le_refl _⟩ ⟨fun _ _ => rfl, rfl, .nil _⟩ h1 rfl
      | true =>
        simp only [hw] at h
        cases h0 : operA E call o (evalA E.G s) true H c with
        | none => simp [h0] at h
        | some q =>
          obtain ⟨v, H0, c0, l0⟩ := q
          simp only [h0] at h
          cases h1 : drawA E call ops r (putA s o.dst v) H0 c0 with
          | none => simp [h1] at h
          | some q =>
            obtain ⟨s1, H1, c1, ls1⟩ := q
            simp only [h1, Option.some.injEq, Prod.mk.injEq] at h
            obtain ⟨rfl, rfl, rfl, rfl⟩ := h
            have g := good_oper (E := E) hc o (evalA E.G s)
            exact main ⟨i, o, true, s, v, c, c0, l0⟩ _ _ _ _ rfl rfl rfl rfl ⟨ho0, hw, fun _ => ⟨H, H0, h0⟩, by simp, g.le h0⟩ ⟨fun _ _ => rfl, rfl, g.run h0⟩ h1 rfl

end
end Go.Abs
