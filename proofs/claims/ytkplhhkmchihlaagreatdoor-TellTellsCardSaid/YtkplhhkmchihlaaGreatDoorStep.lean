/- One operation after another, in whatever frame, where the memory may also be too small; a round that may end so. -/
import Derived.Test.YtkplhhkmchihlaaGreatDoorRun
import Derived.RangeFuncLeaves
namespace Go.Abs
variable {P : Program}

/-- No fence, but a round's record. -/
def wide (ro : Option Nat) : Fence := { Fence.wide with round := ro }

theorem wide_fenced (ro : Option Nat) (m : Machine) : m.fenced P (wide ro) := fenced_wide P m
theorem wide_room (ro : Option Nat) (n : Nat) : (wide ro).room n := fun _ h => by simp [wide, Fence.wide] at h
theorem wide_fn (ro : Option Nat) (f : FuncId) : (wide ro).fn f := trivial
theorem wide_steps {ro : Option Nat} {m m' : Machine} : StepsIn (Machine.fenced P (wide ro)) P m m' ↔ Steps P m m' := stepsIn_wide
theorem wide_comes {ro : Option Nat} {m m' : Machine} {e : Ending} : ComesIn (Machine.fenced P (wide ro)) P m m' e ↔ Comes P m m' e := comesIn_wide
theorem wide_calls {ro : Option Nat} {n : Nat} {f : FuncId} {args : Array Value} {w : World} {R : Ending → World → Prop} : CallsIn (wide ro) n P f args w R ↔ Calls P f args w R :=
  ⟨fun h cs => let ⟨e, w', fr, r, s, x⟩ := h.2 cs (wide_room ro _); ⟨e, w', fr, r, wide_comes.1 s, x⟩,
   fun h => ⟨trivial, fun cs _ => let ⟨e, w', fr, r, s, x⟩ := h cs; ⟨e, w', fr, r, wide_comes.2 s, x⟩⟩⟩

section
variable {b : Frame} {a : Go.Act} {k : List Item} {cs : List Frame} {w : World} {ops : Array Oper} {i : Nat} {rest : List Nat} {o : Oper}

theorem finish_op (ho : ops[i]? = some o) (v : Value) : (b.atR a (.inRegion ops (i :: rest) :: k)).finish v = b.atR (a.put o.dst v) (.inRegion ops rest :: k) := by
  rw [Frame.finish_atR, ho]; rfl

theorem stepped_value (ho : ops[i]? = some o) (hw : Region.wanted o (yielded ops a.tmps) = true) {v : Value} {w' : World} (hr : (o.semAt b.roundOf a.eval).run P w = .ok (.value v) w') :
    step P (lone (b.atR a (.inRegion ops (i :: rest) :: k)) cs w) = .next (lone (b.atR (a.put o.dst v) (.inRegion ops rest :: k)) cs w') :=
  step_lone_go (by rw [stepGR_op ho hw, ← finish_op ho]; simp [stepG.apply, hr])

theorem stepped_skip (ho : ops[i]? = some o) (hw : Region.wanted o (yielded ops a.tmps) = true) {w' : World} (hr : (o.semAt b.roundOf a.eval).run P w = .ok .skip w') :
    step P (lone (b.atR a (.inRegion ops (i :: rest) :: k)) cs w) = .next (lone (b.atR (a.put o.dst undef) (.inRegion ops rest :: k)) cs w') :=
  step_lone_go (by rw [stepGR_op ho hw, ← finish_op ho]; simp [stepG.apply, hr])

theorem stepped_enter (ho : ops[i]? = some o) (hw : Region.wanted o (yielded ops a.tmps) = true) {f : FuncId} {args : Array Value} {w' : World} (hr : (o.semAt b.roundOf a.eval).run P w = .ok (.enter f args) w') :
    step P (lone (b.atR a (.inRegion ops (i :: rest) :: k)) cs w) = .next (lone (Frame.enter P f args .normal) (b.atR a (.inRegion ops (i :: rest) :: k) :: cs) w') :=
  step_lone_go (by rw [stepGR_op ho hw]; simp [stepG.apply, hr, Frame.atR])

theorem stepped_round (ho : ops[i]? = some o) (hw : Region.wanted o (yielded ops a.tmps) = true) {l : Nat} {f : FuncId} {tmps : Array Value} {assign body : Code} {w' : World}
    (hr : (o.semAt b.roundOf a.eval).run P w = .ok (.round l f tmps assign body) w') :
    step P (lone (b.atR a (.inRegion ops (i :: rest) :: k)) cs w) = .next (lone (Frame.round l f tmps assign body .normal) (b.atR a (.inRegion ops (i :: rest) :: k) :: cs) w') :=
  step_lone_go (by rw [stepGR_op ho hw]; simp [stepG.apply, hr, Frame.atR])

/-- The memory is too small. -/
theorem stepped_asks (ho : ops[i]? = some o) (hw : Region.wanted o (yielded ops a.tmps) = true) (hd : ∀ c, o.op ≠ .defer c) (hb : b.kind ≠ .early) (h : o.asks P a w) :
    Outgrown P (lone (b.atR a (.inRegion ops (i :: rest) :: k)) cs w) := by
  obtain ⟨hm, hkept⟩ := h
  have hg := stepGR_op (P := P) (b := b) (k := k) (cs := cs) (w := w) (rest := rest) ho hw
  rw [Oper.semAt_eq _ _ _ hd] at hg
  have hes : noRoomEvent ∈ (stepG P true { frame := b.atR a (.inRegion ops (i :: rest) :: k), callers := cs, status := .running, dying := none } w).es := by
    rw [hg]
    have hk : ((b.atR a (.inRegion ops (i :: rest) :: k)).kind == CallKind.early) = false := by simpa [Frame.atR] using hb
    have hm' : noRoomEvent ∈ Sem.events P (execOp a.eval o) w #[] := hm
    simp only [stepG.apply, Sem.runT_eq, if_true, hk, Bool.false_eq_true, if_false]
    rw [GStep.es_after]
    refine Array.mem_append.2 (.inl (seen_keeps P _ _ ?_))
    cases hrun : (execOp a.eval o).run P w with
    | ok x w' => exact hm'
    | halt x w' =>
      rw [hrun] at hkept
      cases x with
      | unsupported u => cases u <;> first | exact hkept.elim | exact hm'
      | blocked => exact hkept.elim
      | waiting => exact hkept.elim
      | _ => exact hm'
  refine Outgrown.now (o := { g := 0, fn := (b.atR a (.inRegion ops (i :: rest) :: k)).fn, pos := (b.atR a (.inRegion ops (i :: rest) :: k)).place, act := .mark .noRoom }) ?_ rfl rfl
  rw [stepT, move_lone]
  refine runT_lists P _ 0 { frame := b.atR a (.inRegion ops (i :: rest) :: k), callers := cs, status := .running, dying := none } (by simp [lone]) _ ?_
  exact mem_ofEvents (e := noRoomEvent) (by simpa [lone] using hes)
end

/-- A region's rest is gone through, and an end is met that Q takes. -/
def Goes (P : Program) (ro : Option Nat) (ops : Array Oper) (Q : Exit → Go.Act → World → Prop) (l : List Nat) (a : Go.Act) (w : World) : Prop :=
  ∀ (b : Frame) (k : List Item) (cs : List Frame), b.roundOf = ro →
    ∃ e a' w', Q e a' w' ∧ ArrivesIn (Machine.fenced P (wide ro)) P (lone (b.atR a (.inRegion ops l :: k)) cs w) b k cs e a' w'

section
variable {ro : Option Nat} {ops : Array Oper} {Q : Exit → Go.Act → World → Prop} {i : Nat} {rest : List Nat} {o : Oper} {a : Go.Act} {w : World}

theorem Goes.nil (h : Q .normal a w) : Goes P ro ops Q [] a w := fun _ _ _ _ => ⟨.normal, a, w, h, wide_steps.2 (.one stepR_region_end)⟩

theorem Goes.beyond (ho : ops[i]? = none) (h : Goes P ro ops Q rest a w) : Goes P ro ops Q (i :: rest) a w := by
  intro b k cs hro
  obtain ⟨e, a', w', hq, harr⟩ := h b k cs hro
  have hs := stepR_op_skip (P := P) (b := b) (a := a) (k := k) (cs := cs) (w := w) (ops := ops) (i := i) (rest := rest) (by simp [ho])
  simp only [ho, Option.bind_none, Go.Act.put] at hs
  exact ⟨e, a', w', hq, .of_steps (wide_steps.2 (.one hs)) harr⟩

theorem Goes.unwanted (ho : ops[i]? = some o) (hw : Region.wanted o (yielded ops a.tmps) = false) (h : Goes P ro ops Q rest (a.put o.dst undef) w) : Goes P ro ops Q (i :: rest) a w := by
  intro b k cs hro
  obtain ⟨e, a', w', hq, harr⟩ := h b k cs hro
  have hs := stepR_op_skip (P := P) (b := b) (a := a) (k := k) (cs := cs) (w := w) (ops := ops) (i := i) (rest := rest) (by simp [ho, hw])
  simp only [ho, Option.bind_some] at hs
  exact ⟨e, a', w', hq, .of_steps (wide_steps.2 (.one hs)) harr⟩

theorem Goes.value (ho : ops[i]? = some o) (hw : Region.wanted o (yielded ops a.tmps) = true) {v : Value} {w' : World} (hr : (o.semAt ro a.eval).run P w = .ok (.value v) w')
    (h : Goes P ro ops Q rest (a.put o.dst v) w') : Goes P ro ops Q (i :: rest) a w := by
  intro b k cs hro
  obtain ⟨e, a', w'', hq, harr⟩ := h b k cs hro
  exact ⟨e, a', w'', hq, .of_steps (wide_steps.2 (.one (stepped_value ho hw (hro ▸ hr)))) harr⟩

theorem Goes.skip (ho : ops[i]? = some o) (hw : Region.wanted o (yielded ops a.tmps) = true) {w' : World} (hr : (o.semAt ro a.eval).run P w = .ok .skip w')
    (h : Goes P ro ops Q rest (a.put o.dst undef) w') : Goes P ro ops Q (i :: rest) a w := by
  intro b k cs hro
  obtain ⟨e, a', w'', hq, harr⟩ := h b k cs hro
  exact ⟨e, a', w'', hq, .of_steps (wide_steps.2 (.one (stepped_skip ho hw (hro ▸ hr)))) harr⟩

theorem Goes.asks (ho : ops[i]? = some o) (hw : Region.wanted o (yielded ops a.tmps) = true) (hd : ∀ c, o.op ≠ .defer c) (h : o.asks P a w) (hq : LetsOut Q) : Goes P ro ops Q (i :: rest) a w := by
  intro b k cs hro
  obtain ⟨a₀, w₀, hq⟩ := hq
  by_cases hk : b.kind = .early
  · exact ⟨.outgrown, a₀, w₀, hq, .inl hk⟩
  · exact ⟨.outgrown, a₀, w₀, hq, .inr (stepped_asks ho hw hd hk h)⟩

/-- What a call's end has to bring. -/
def endOf (Q : Exit → Go.Act → World → Prop) (K : Value → World → Prop) : Ending → World → Prop
  | .returned v, w => K v w
  | .panicked _, _ => False
  | .outgrown, _ => LetsOut Q

theorem Goes.enter (ho : ops[i]? = some o) (hw : Region.wanted o (yielded ops a.tmps) = true) {f : FuncId} {args : Array Value} {w' : World} (hr : (o.semAt ro a.eval).run P w = .ok (.enter f args) w')
    (h : Calls P f args w' (endOf Q fun v w'' => Goes P ro ops Q rest (a.put o.dst v) w'')) : Goes P ro ops Q (i :: rest) a w := by
  intro b k cs hro
  obtain ⟨e, w'', fr, hR, hsteps, _, hleave⟩ := h (b.atR a (.inRegion ops (i :: rest) :: k) :: cs)
  have henter := stepped_enter (k := k) (cs := cs) (rest := rest) ho hw (hro ▸ hr)
  cases e with
  | returned v =>
    obtain ⟨e, a', w₃, hq, harr⟩ := hR b k cs hro
    refine ⟨e, a', w₃, hq, .of_steps (wide_steps.2 (.head henter (hsteps.trans (.one ?_)))) harr⟩
    rw [← finish_op ho]; exact step_leave_returned hleave
  | panicked chain => exact hR.elim
  | outgrown =>
    obtain ⟨a₀, w₀, hq⟩ := hR
    exact ⟨.outgrown, a₀, w₀, hq, .inr (Outgrown.of_steps (.one henter) hsteps)⟩

theorem Goes.round (ho : ops[i]? = some o) (hw : Region.wanted o (yielded ops a.tmps) = true) {l : Nat} {f : FuncId} {tmps : Array Value} {assign body : Code} {w' : World}
    (hr : (o.semAt ro a.eval).run P w = .ok (.round l f tmps assign body) w') (h : RoundIn (wide ro) 0 P l f tmps assign body w' (endOf Q fun v w'' => Goes P ro ops Q rest (a.put o.dst v) w'')) :
    Goes P ro ops Q (i :: rest) a w := by
  intro b k cs hro
  obtain ⟨e, w'', hR, hsteps⟩ := h.2 (b.atR a (.inRegion ops (i :: rest) :: k)) cs (wide_room _ _)
  have henter := stepped_round (k := k) (cs := cs) (rest := rest) ho hw (hro ▸ hr)
  cases e with
  | returned v =>
    obtain ⟨e, a', w₃, hq, harr⟩ := hR b k cs hro
    refine ⟨e, a', w₃, hq, .of_steps (.head (wide_fenced _ _) henter ?_) harr⟩
    rw [← finish_op ho]; exact hsteps
  | panicked chain => exact hR.elim
  | outgrown =>
    obtain ⟨a₀, w₀, hq⟩ := hR
    exact ⟨.outgrown, a₀, w₀, hq, .inr (Outgrown.of_steps (.one henter) hsteps)⟩

theorem goes_region {n id : Nat} (h : Goes P ro ops Q (List.range ops.size) a w) : (Code.region id ops false).wpIn (wide ro) n P Q a w := by
  intro b k cs hro _ _
  obtain ⟨e, a', w', q, r⟩ := h b k cs hro
  exact ⟨e, a', w', q, .of_steps (wide_steps.2 (.one stepR_region)) r⟩

theorem goes_draw {n id : Nat} (h : ∀ t, Goes P ro ops Q (Region.schedule (P.follows .mixedOrders) ops t) a { w with drawn := w.drawn + 1 }) : (Code.region id ops true).wpIn (wide ro) n P Q a w := by
  intro b k cs hro _ _
  obtain ⟨e, a', w', q, r⟩ := h _ b k cs hro
  exact ⟨e, a', w', q, .of_steps (wide_steps.2 (.one stepR_region_draw)) r⟩
end

/-- What is asked at a round's end. -/
def roundEnd (P : Program) (l : Nat) (R : Ending → World → Prop) : Exit → Go.Act → World → Prop
  | .normal, _, w => ∃ v w', (Instr.endRound l none).run P w = .ok v w' ∧ R (.returned v) w'
  | .ret, _, w => ∃ v w', (Instr.endRound l (some .ret)).run P w = .ok v w' ∧ R (.returned v) w'
  | .exit id, _, w => ∃ v w', (Instr.endRound l (some (.exit id))).run P w = .ok v w' ∧ R (.returned v) w'
  | .goto _, _, _ => False
  | .panic _, _, _ => False
  | .outgrown, _, w => R .outgrown w

/-- The assignments ahead of a round's body end as they should. -/
def roundAhead (P : Program) (_ro : Option Nat) (l : Nat) (R : Ending → World → Prop) (body : Code) : Exit → Go.Act → World → Prop
  | .normal, a, w => ∃ w', (Instr.beginRound l).run P w = .ok () w' ∧ body.wpIn (wide (some l)) 0 P (roundEnd P l R) a w'
  | .outgrown, _, w => R .outgrown w
  | _, _, _ => False

theorem roundIn_of {ro : Option Nat} {l : Nat} {f : FuncId} {tmps : Array Value} {assign body : Code} {w : World} {R : Ending → World → Prop}
    (h : assign.wpIn (wide (some l)) 0 P (roundAhead P ro l R body) { tmps := tmps, defers := [] } w) : RoundIn (wide ro) 0 P l f tmps assign body w R := by
  refine ⟨trivial, fun c cs _ => ?_⟩
  let b : Frame := { (default : Frame) with fn := f, kind := .normal, roundOf := some l }
  have hb0 : Frame.round l f tmps assign body .normal = b.atR { tmps := tmps, defers := [] } [.code assign, .beginRound, .code body] := by
    simp [Frame.round, Frame.atR, b]
  obtain ⟨e, a₁, w₁, hq, harr⟩ := h b [.beginRound, .code body] (c :: cs) rfl trivial (wide_room _ _)
  rw [← hb0] at harr
  cases e with
  | normal =>
    obtain ⟨w₂, hbr, hbody⟩ := hq
    have s0 : Steps P (lone (Frame.round l f tmps assign body .normal) (c :: cs) w) (lone (b.atR a₁ [.code body]) (c :: cs) w₂) :=
      Steps.trans (wide_steps.1 harr) (.one (stepR_beginRound rfl hbr))
    obtain ⟨e₂, a₂, w₃, hq₂, harr₂⟩ := hbody b [] (c :: cs) rfl trivial (wide_room _ _)
    cases e₂ with
    | normal =>
      obtain ⟨v, w₄, hend, hR⟩ := hq₂
      exact ⟨.returned v, w₄, hR, wide_steps.2 (s0.trans (Steps.trans (wide_steps.1 harr₂) (.one (stepR_round_end rfl rfl hend))))⟩
    | ret =>
      obtain ⟨v, w₄, hend, hR⟩ := hq₂
      obtain ⟨k₁, hs⟩ := harr₂.2 rfl
      exact ⟨.returned v, w₄, hR, wide_steps.2 (s0.trans (Steps.trans (wide_steps.1 hs) (.one (stepR_round_ret rfl rfl hend))))⟩
    | exit id =>
      obtain ⟨v, w₄, hend, hR⟩ := hq₂
      obtain ⟨k₁, hk, hs⟩ := harr₂.2 rfl rfl
      exact ⟨.returned v, w₄, hR, wide_steps.2 (s0.trans (Steps.trans (wide_steps.1 hs) (.one (stepR_round_exit rfl rfl hk hend))))⟩
    | goto t => exact hq₂.elim
    | panic chain => exact hq₂.elim
    | outgrown => exact ⟨.outgrown, w₃, hq₂, Outgrown.of_steps s0 (harr₂.resolve_left (by simp [b]))⟩
  | exit id => exact hq.elim
  | goto t => exact hq.elim
  | ret => exact hq.elim
  | panic chain => exact hq.elim
  | outgrown => exact ⟨.outgrown, w₁, hq, harr.resolve_left (by simp [b])⟩

end Go.Abs
