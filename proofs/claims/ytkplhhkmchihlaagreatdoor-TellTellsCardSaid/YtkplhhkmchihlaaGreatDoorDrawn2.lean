/- A region whose order is drawn is met. -/
import Derived.Test.YtkplhhkmchihlaaGreatDoorDrawn
namespace Go.Abs
variable {X : Type} {R : Rep X}

theorem HRel.like {φ : Names} {F S : Nat → Prop} {H K : Heap X} {h : Array Obj} (r : HRel R φ F S H h) (k : Like H K) : HRel R φ F S K h := r.weaken fun n o hn => by rw [k n]; exact hn

theorem SlotsOK.alike {φ : Names} {S : Nat → Prop} {h : Array Obj} {s t : Slots} {a : Go.Act} (k : SlotsOK φ S h s a) (e : Alike s t) : SlotsOK φ S h t a := fun i v hv => k i v (by rw [e i]; exact hv)

section
variable {E : Cfg} {call : AV → List AV → M X AV} {ro : Option Nat} {ops : Array Oper} {Q : Exit → Go.Act → World → Prop}

/-- Which are not done yet. -/
def Left (ops : Array Oper) (listed : Array Bool) (ds : List (Did X)) : Prop := listed.size = ops.size ∧ ∀ i, i < ops.size → (listed.getD i true = false ↔ ∃ d ∈ ds, d.i = i)

theorem Left.next {listed : Array Bool} {d : Did X} {as bs : List (Did X)} (h : Left ops listed (as ++ d :: bs)) (hs : (as ++ d :: bs).Pairwise (fun x y => x.i < y.i)) : Left ops (listed.setIfInBounds d.i true) (as ++ bs) := by
  refine ⟨by simpa using h.1, fun i hi => ?_⟩
  have hne : ∀ x ∈ as ++ bs, x.i ≠ d.i := by
    intro x hx
    rw [List.pairwise_append] at hs
    rcases List.mem_append.1 hx with k | k
    · have := hs.2.2 x k d (by simp); omega
    · have := (List.pairwise_cons.1 hs.2.1).1 x k; omega
  have hsz : i < listed.size := by rw [h.1]; exact hi
  by_cases e : d.i = i
  · subst e
    constructor
    · intro hf
      simp [Array.getD, hsz] at hf
    · rintro ⟨x, hx, hxi⟩
      exact absurd hxi (hne x hx)
  · have : (listed.setIfInBounds d.i true).getD i true = listed.getD i true := by
      simp only [Array.getD_eq_getD_getElem?]
      rw [Array.getElem?_setIfInBounds_ne e]
    rw [this, h.2 i hi]
    constructor
    · rintro ⟨x, hx, hxi⟩
      rcases List.mem_append.1 hx with k | k
      · exact ⟨x, List.mem_append_left _ k, hxi⟩
      · rcases List.mem_cons.1 k with rfl | k
        · exact absurd hxi e
        · exact ⟨x, List.mem_append_right _ k, hxi⟩
    · rintro ⟨x, hx, hxi⟩
      refine ⟨x, ?_, hxi⟩
      rcases List.mem_append.1 hx with k | k
      · exact List.mem_append_left _ k
      · exact List.mem_append_right _ (List.mem_cons_of_mem _ k)

theorem ready_mem {listed : Array Bool} {i : Nat} (h : i ∈ Region.ready .any ops listed) : i < ops.size ∧ listed.getD i true = false ∧ ∃ o, ops[i]? = some o ∧ ∀ e ∈ o.after, Region.binds .any e = true → listed.getD e.on false = true := by
  unfold Region.ready at h
  rw [List.mem_filter] at h
  obtain ⟨h1, h2⟩ := h
  rw [Bool.and_eq_true] at h2
  have hi : i < ops.size := by simpa using h1
  refine ⟨hi, by simpa using h2.1, ops[i], by simp [hi], fun e he hb => ?_⟩
  have := h2.2
  simp only [hi, getElem?_pos, Option.map_some, Option.getD_some, Array.all_eq_true_iff_forall_mem] at this
  have := this e he
  simpa [hb] using this

theorem ready_first {listed : Array Bool} {d : Did X} {ds : List (Did X)} (hl : Left ops listed (d :: ds)) (hs : (d :: ds).Pairwise (fun x y => x.i < y.i)) (ho : ops[d.i]? = some d.o)
    (ha : (d.o.after.all fun e => !Region.binds .any e || decide (e.on < d.i)) = true) : d.i ∈ Region.ready .any ops listed := by
  have hi : d.i < ops.size := (Array.getElem?_eq_some_iff.1 ho).1
  unfold Region.ready
  rw [List.mem_filter]
  refine ⟨by simpa using hi, ?_⟩
  rw [Bool.and_eq_true]
  have hu := (hl.2 d.i hi).2 ⟨d, by simp, rfl⟩
  refine ⟨by simpa using hu, ?_⟩
  simp only [ho, Option.map_some, Option.getD_some, Array.all_eq_true_iff_forall_mem]
  intro e he
  have hb := (Array.all_eq_true_iff_forall_mem.1 ha) e he
  cases hbi : Region.binds .any e with
  | false => simp
  | true =>
    simp only [hbi, Bool.not_true, Bool.false_or, decide_eq_true_eq] at hb ⊢
    have hlt : e.on < ops.size := by omega
    have hn : ¬ listed.getD e.on true = false := by
      rw [hl.2 e.on hlt]
      rintro ⟨x, hx, hxi⟩
      rcases List.mem_cons.1 hx with rfl | hx
      · omega
      · have := (List.pairwise_cons.1 hs).1 x hx; omega
    have hsz : e.on < listed.size := by rw [hl.1]; exact hlt
    simp [Array.getD, hsz] at hn ⊢
    exact hn

theorem drawn_go (hcall : CallsOK R E call) (hgood : CallsGood call) {sN : Slots} {HN : Heap X} {c0 cN : Nat} {φ0 : Names} {F0 S0 : Nat → Prop} {w0 : World} {sz : Nat} {df : List Deferred}
    (K : ∀ φ' F' S' w' a', HRel R φ' F' S' HN w'.heap → SlotsOK φ' S' w'.heap sN a' → WStep φ0 F0 S0 w0 φ' F' S' w' → (∀ n, ¬ (c0 ≤ n ∧ n < cN) → φ' n = φ0 n) → a'.tmps.size = sz → a'.defers = df → Q .normal a' w') :
    ∀ (fuel t : Nat) (listed : Array Bool) (ds : List (Did X)) {s s2 : Slots} {H H2 : Heap X} {φ : Names} {F S : Nat → Prop} {a : Go.Act} {w : World}, ds.length = fuel → Left ops listed ds → ds.Pairwise (fun x y => x.i < y.i) → (∀ d ∈ ds, d.OK E call ops) →
      Redos ops ds s H s2 H2 → Alike s2 sN → Like H2 HN → ds.Pairwise (fun x y => x.hi ≤ y.lo) → ds.Pairwise (fun x y => behind x.i y.o = true ∨ free2 ops x y = true) →
      (∀ d ∈ ds, c0 ≤ d.lo ∧ d.hi ≤ cN) → (∀ d ∈ ds, (d.o.after.all fun e => !Region.binds .any e || decide (e.on < d.i)) = true) →
      HRel R φ F S H w.heap → GOK E φ S w.heap → SlotsOK φ S w.heap s a → (∀ d ∈ ds, ∀ n, d.lo ≤ n → n < d.hi → φ n = none) → WStep φ0 F0 S0 w0 φ F S w → (∀ n, ¬ (c0 ≤ n ∧ n < cN) → φ n = φ0 n) →
      a.tmps.size = sz → a.defers = df → Goes E.P ro ops Q (Region.linearise.go .any ops fuel t listed []) a w := by
  intro fuel
  induction fuel with
  | zero =>
    intro t listed ds s s2 H H2 φ F S a w hlen _ _ _ hre ha hk _ _ _ _ hr _ hs _ hst hn h1 h2
    have : ds = [] := by simpa using hlen
    subst this
    cases hre
    exact Goes.nil (K φ F S w a (hr.like hk) (hs.alike ha) hst hn h1 h2)
  | succ fuel ih =>
    intro t listed ds s s2 H H2 φ F S a w hlen hl hsort hok hre ha hk hint hpair hrange hafter hr hg hs hfree hst hn h1 h2
    simp only [Region.linearise.go]
    change Goes E.P ro ops Q (match (Region.ready .any ops listed)[t % (Region.ready .any ops listed).length]? with
      | some i => Region.linearise.go .any ops fuel (t / (Region.ready .any ops listed).length) (listed.setIfInBounds i true) [i]
      | none => [].reverse) a w
    have hne : Region.ready .any ops listed ≠ [] := by
      cases ds with
      | nil => simp at hlen
      | cons d ds => exact List.ne_nil_of_mem (ready_first hl hsort (hok d (by simp)).1 (hafter d (by simp)))
    cases hi : (Region.ready .any ops listed)[t % (Region.ready .any ops listed).length]? with
    | none =>
      exfalso
      have hpos : 0 < (Region.ready .any ops listed).length := List.length_pos_iff.2 hne
      have := Nat.mod_lt t hpos
      rw [List.getElem?_eq_none_iff] at hi
      omega
    | some i =>
      simp only []
      rw [linearise_go_acc, List.reverse_singleton, List.singleton_append]
      obtain ⟨hlt, hun, o, ho, hedges⟩ := ready_mem (List.mem_of_getElem? hi)
      obtain ⟨d, hd, rfl⟩ := (hl.2 i hlt).1 hun
      obtain ⟨as, bs, rfl⟩ := List.append_of_mem hd
      have hdok := hok d hd
      obtain ⟨ho', hwant, hT, hF, hlohi⟩ := hdok
      rw [ho] at ho'; cases ho'
      have hfr : ∀ x ∈ as, free2 ops x d = true := by
        intro x hx
        rw [List.pairwise_append] at hpair
        rcases hpair.2.2 x hx d (by simp) with k | k
        · exfalso
          unfold behind at k
          obtain ⟨j, hj, hee⟩ := Array.any_eq_true.1 k
          rw [Bool.and_eq_true] at hee
          have e1 : d.o.after[j].on = x.i := by simpa using hee.1
          have := hedges d.o.after[j] (Array.getElem_mem hj) hee.2
          rw [e1] at this
          have hxi : x.i < ops.size := (Array.getElem?_eq_some_iff.1 (hok x (List.mem_append_left _ hx)).1).1
          have h3 := (hl.2 x.i hxi).2 ⟨x, List.mem_append_left _ hx, rfl⟩
          have hsz : x.i < listed.size := by rw [hl.1]; exact hxi
          simp [Array.getD, hsz] at this h3
          rw [this] at h3; cases h3
        · exact k
      obtain ⟨t1, K1, t2, K2, p1, p2, p3, p4⟩ := Redos.pull hre hfr
      have hsub : ∀ x ∈ as ++ bs, x ∈ as ++ d :: bs := by
        intro x hx
        rcases List.mem_append.1 hx with k | k
        · exact List.mem_append_left _ k
        · exact List.mem_append_right _ (List.mem_cons_of_mem _ k)
      have hsl : (as ++ bs).Sublist (as ++ d :: bs) := (List.Sublist.refl as).append (List.sublist_cons_self d bs)
      have hsees := p1.sees
      have hw : wantA ops s d.o = some d.want := by rw [hsees.want]; exact hwant
      have hwd := hs.want hw
      have hint2 : ∀ x ∈ as ++ bs, d.hi ≤ x.lo ∨ x.hi ≤ d.lo := by
        intro x hx
        rw [List.pairwise_append] at hint
        rcases List.mem_append.1 hx with k | k
        · exact .inr (hint.2.2 x k d (by simp))
        · exact .inl ((List.pairwise_cons.1 hint.2.1).1 x k)
      have psz : ∀ (a : Go.Act) dst v, (a.put dst v).tmps.size = a.tmps.size := fun a dst v => by cases dst <;> simp [Go.Act.put]
      have pdf : ∀ (a : Go.Act) dst v, (a.put dst v).defers = a.defers := fun a dst v => by cases dst <;> simp [Go.Act.put]
      have hout := p1.out
      subst hout
      have hrg := hrange d hd
      cases hwt : d.want with
      | false =>
        rw [hwt] at hwd
        obtain ⟨q1, q2, q3⟩ := hF hwt
        refine Goes.unwanted ho hwd ?_
        have hrun := p1.run
        rw [q2] at hrun
        cases hrun
        rw [q1] at p2
        refine ih _ _ (as ++ bs) ?_ (hl.next hsort) (hsort.sublist hsl) (fun x hx => hok x (hsub x hx)) p2 (fun n => (p3 n).trans (ha n)) (p4.trans hk) (hint.sublist hsl) (hpair.sublist hsl) (fun x hx => hrange x (hsub x hx))
          (fun x hx => hafter x (hsub x hx)) hr hg (hs.put (.tup .nil) d.o.dst) (fun x hx => hfree x (hsub x hx)) hst hn ((psz _ _ _).trans h1) ((pdf _ _ _).trans h2)
        simp at hlen ⊢; omega
      | true =>
        rw [hwt] at hwd
        obtain ⟨G0, G1, hrunT⟩ := hT hwt
        have hop : operA E call d.o (evalA E.G s) true H d.lo = some (d.v, K1, d.hi, d.l) := by
          rw [hsees.oper]
          exact (good_oper hgood d.o (evalA E.G d.s)).local_ hrunT p1.run
        refine operA_ok hcall hop hr hg (hs.eval hg) (hfree d hd) ho hwd ?_
        intro rv φ1 F1 S1 w1 v1 r1 st1 n1
        refine ih _ _ (as ++ bs) ?_ (hl.next hsort) (hsort.sublist hsl) (fun x hx => hok x (hsub x hx)) p2 (fun n => (p3 n).trans (ha n)) (p4.trans hk) (hint.sublist hsl) (hpair.sublist hsl) (fun x hx => hrange x (hsub x hx))
          (fun x hx => hafter x (hsub x hx)) r1 (hg.step hr st1) ((hs.step hr st1).put v1 d.o.dst) ?_ (hst.trans st1) ?_ ((psz _ _ _).trans h1) ((pdf _ _ _).trans h2)
        · simp at hlen ⊢; omega
        · intro x hx n q1 q2
          rw [n1 n (by rcases hint2 x hx with k | k <;> omega)]
          exact hfree x (hsub x hx) n q1 q2
        · intro n q
          rw [n1 n (by omega)]
          exact hn n q

/-- A region whose order is drawn is met. -/
theorem drawnA_ok (hmix : E.P.follows .mixedOrders = true) (hcall : CallsOK R E call) (hgood : CallsGood call) {s s' : Slots} {H H' : Heap X} {c c' : Nat} {b : Bool} {k : List (Act X)} {φ : Names} {F S : Nat → Prop} {a : Go.Act} {w : World}
    (h : drawnA E call ops s b H c = some (s', H', c', k)) (hr : HRel R φ F S H w.heap) (hg : GOK E φ S w.heap) (hs : SlotsOK φ S w.heap s a) (hfree : ∀ n, c ≤ n → n < c' → φ n = none)
    (K : ∀ φ' F' S' w' a', HRel R φ' F' S' H' w'.heap → SlotsOK φ' S' w'.heap s' a' → WStep φ F S w φ' F' S' w' → (∀ n, ¬ (c ≤ n ∧ n < c') → φ' n = φ n) → a'.tmps.size = a.tmps.size → a'.defers = a.defers → Q .normal a' w') (t : Nat) :
    Goes E.P ro ops Q (Region.schedule (E.P.follows .mixedOrders) ops t) a { w with drawn := w.drawn + 1 } := by
  obtain ⟨ls, h1, h2, _⟩ := drawn_some h
  obtain ⟨ds, a1, a2, a3, a4, a5, a6, a7, a8, a9, a10⟩ := drawA_did hgood ops.toList 0 h1 (fun j o hj => by simpa using hj) h2
  simp only [Region.schedule, hmix, Bool.true_or, if_true, Region.linearise]
  have hlen : ds.length = ops.size := by
    have := congrArg List.length a1
    simpa using this
  have hsort : ds.Pairwise (fun x y => x.i < y.i) := by
    have : (ds.map (·.i)).Pairwise (· < ·) := by rw [a1]; exact List.pairwise_lt_range'
    exact List.pairwise_map.1 this
  refine drawn_go hcall hgood K ops.size t _ ds hlen ⟨by simp, fun i hi => ?_⟩ hsort a4 a5 (fun _ => rfl) (Like.refl _) a6 a7 a8 a9 hr hg hs (fun d hd n q1 q2 => hfree n (by have := a8 d hd; omega) (by have := a8 d hd; omega)) ⟨Step.refl, rfl, rfl⟩ (fun _ _ => rfl) rfl rfl
  constructor
  · intro _
    have : i ∈ ds.map (·.i) := by rw [a1]; simp; exact hi
    obtain ⟨d, hd, hdi⟩ := List.mem_map.1 this
    exact ⟨d, hd, hdi⟩
  · intro _
    simp [Array.getD, hi]

end
end Go.Abs
