/- An operation looks only at its own operands. -/
import Derived.Test.YtkplhhkmchihlaaGreatDoorGood
namespace Go.Abs
variable {X : Type}

theorem envL_congr {ρ ρ' : Env} : ∀ {l : List Operand}, (∀ x ∈ l, ρ x = ρ' x) → envL ρ l = envL ρ' l
  | [], _ => rfl
  | x :: r, h => by
    simp only [envL]
    rw [h x (by simp), envL_congr (l := r) fun y hy => h y (List.mem_cons_of_mem _ hy)]

theorem envs_congr {ρ ρ' : Env} : ∀ {l : List (Nat × Operand)}, (∀ x ∈ l.map (·.2), ρ x = ρ' x) → envs ρ l = envs ρ' l
  | [], _ => rfl
  | (i, x) :: r, h => by
    simp only [envs]
    rw [h x (by simp), envs_congr (l := r) fun y hy => h y (List.mem_cons_of_mem _ hy)]

theorem optE_congr {ρ ρ' : Env} {o : Option Operand} (h : ∀ x ∈ o, ρ x = ρ' x) : optE ρ o = optE ρ' o := by
  cases o with
  | none => rfl
  | some x => simp only [optE]; rw [h x rfl]

theorem plain_congr (P : Program) {ρ ρ' : Env} (op : Op) (h : ∀ x ∈ op.operands, ρ x = ρ' x) : (plainOp P ρ op : M X AV) = plainOp P ρ' op := by
  cases op <;> simp only [Op.operands] at h <;> simp only [plainOp]
  case build t ps => rw [envs_congr (ρ := ρ) (ρ' := ρ') fun x hx => h x (by simpa using hx)]
  case buildSlice t n ps => rw [envs_congr (ρ := ρ) (ρ' := ρ') fun x hx => h x (by simpa using hx)]
  case makeFunc f as bs =>
    rw [envL_congr (ρ := ρ) (ρ' := ρ') (l := as.toList) fun x hx => h x (by simp [Array.mem_toList_iff.1 hx]), envL_congr (ρ := ρ) (ρ' := ρ') (l := bs.toList) fun x hx => h x (by simp [Array.mem_toList_iff.1 hx])]
  case slice t x lo hi mx =>
    rw [h x (by simp), optE_congr (ρ := ρ) (ρ' := ρ') (o := lo) fun y hy => h y (by cases lo <;> simp_all), optE_congr (ρ := ρ) (ρ' := ρ') (o := hi) fun y hy => h y (by cases hi <;> simp_all),
      optE_congr (ρ := ρ) (ρ' := ρ') (o := mx) fun y hy => h y (by cases mx <;> simp_all)]
  case makeMap t r => cases r <;> rfl
  all_goals first | rfl | (simp_all; done)

theorem oper_congr {E : Cfg} {call : AV → List AV → M X AV} {ρ ρ' : Env} (o : Oper) (h : ∀ x ∈ o.op.operands, ρ x = ρ' x) : operA E call o ρ = operA E call o ρ' := by
  unfold operA
  cases ho : o.op with
  | call c =>
    rw [ho] at h
    simp only [Op.operands] at h
    dsimp only
    rw [envL_congr (ρ := ρ) (ρ' := ρ') (l := c.args.toList) fun x hx => h x (by simp [Call.operands, Array.mem_toList_iff.1 hx])]
    cases hc : c.callee with
    | value f => dsimp only; rw [h f (by simp [Call.operands, hc])]
    | builtin b => rfl
    | invoke r n => rfl
  | lookup t m k ok => rw [ho] at h; simp only [Op.operands] at h; dsimp only; rw [h m (by simp), h k (by simp)]
  | mapUpdate t m k x => rw [ho] at h; simp only [Op.operands] at h; dsimp only; rw [h m (by simp), h k (by simp), h x (by simp)]
  | convert src dst x => rw [ho] at h; simp only [Op.operands] at h; dsimp only; rw [h x (by simp)]
  | makeSlice t l c => rw [ho] at h; simp only [Op.operands] at h; dsimp only; rw [h l (by simp), h c (by simp)]
  | _ => rw [ho] at h; exact plain_congr E.P _ h

/-- Places agree where an operation looks. -/
def Sees (ops : Array Oper) (o : Oper) (s s' : Slots) : Prop := ∀ t ∈ o.looksAt ops, s.get t = s'.get t

theorem Sees.eval {ops : Array Oper} {o : Oper} {s s' : Slots} (h : Sees ops o s s') (G : Nat → Option AV) : ∀ x ∈ o.op.operands, evalA G s x = evalA G s' x := by
  intro x hx
  cases x with
  | tmp t => exact h t (List.mem_append_left _ (List.mem_filterMap.2 ⟨.tmp t, by simpa using hx, rfl⟩))
  | _ => rfl

theorem Sees.oper {E : Cfg} {call : AV → List AV → M X AV} {ops : Array Oper} {o : Oper} {s s' : Slots} (h : Sees ops o s s') : operA E call o (evalA E.G s) = operA E call o (evalA E.G s') := oper_congr o (h.eval E.G)

theorem Sees.want {ops : Array Oper} {o : Oper} {s s' : Slots} (h : Sees ops o s s') : wantA ops s o = wantA ops s' o := by
  unfold wantA
  cases hg : o.guard with
  | none => rfl
  | some p =>
    obtain ⟨j, want⟩ := p
    simp only
    congr 1
    unfold yieldA
    cases hd : (ops[j]?).bind (·.dst) with
    | none => rfl
    | some d =>
      simp only
      rw [h d (by simp [Oper.looksAt, hg, hd])]

theorem get_put_ne {s : Slots} {dst : Option Tmp} {v : AV} {t : Nat} (h : dst ≠ some t) : (putA s dst v).get t = s.get t := by
  cases dst with
  | none => rfl
  | some d =>
    have hne : d ≠ t := fun e => h (by rw [e])
    simp only [putA]
    cases s.get d with
    | none => rfl
    | some _ => simp [T.get_set, Ne.symm hne]

/-- Places alike. -/
def Alike (s s' : Slots) : Prop := ∀ t, s.get t = s'.get t

theorem Alike.put {s s' : Slots} (h : Alike s s') (dst : Option Tmp) (v : AV) : Alike (putA s dst v) (putA s' dst v) := by
  cases dst with
  | none => exact h
  | some d =>
    intro t
    simp only [putA]
    rw [← h d]
    cases s.get d with
    | none => exact h t
    | some _ =>
      simp only [T.get_set]
      split
      · rfl
      · exact h t

theorem put_swap {s : Slots} {x y : Option Tmp} (v u : AV) (h : ∀ d, x = some d → y ≠ some d) : Alike (putA (putA s x v) y u) (putA (putA s y u) x v) := by
  cases x with
  | none => exact fun _ => rfl
  | some d =>
    cases y with
    | none => exact fun _ => rfl
    | some e =>
      have hne : e ≠ d := fun he => h d rfl (by rw [he])
      have e1 : (putA s (some d) v).get e = s.get e := get_put_ne (by simpa using Ne.symm hne)
      have e2 : (putA s (some e) u).get d = s.get d := get_put_ne (by simpa using hne)
      intro t
      by_cases h1 : t = d
      · subst h1
        rw [get_put_ne (by simpa using hne)]
        cases hs : s.get t with
        | none => simp [putA, hs]; cases s.get e <;> simp [hs, T.get_set, Ne.symm hne]
        | some _ =>
          have hs2 : (putA s (some e) u).get t = some _ := e2.trans hs
          rw [show putA (putA s (some e) u) (some t) v = (putA s (some e) u).set t v from by simp only [putA]; simp only [putA] at hs2; rw [hs2]]
          simp [putA, hs]
      · by_cases h2 : t = e
        · subst h2
          rw [get_put_ne (s := putA s (some t) u) (by simpa using Ne.symm h1)]
          cases hs : s.get t with
          | none => simp [putA, hs]; cases s.get d <;> simp [hs, T.get_set, h1]
          | some _ =>
            have hs2 : (putA s (some d) v).get t = some _ := e1.trans hs
            rw [show putA (putA s (some d) v) (some t) u = (putA s (some d) v).set t u from by simp only [putA]; simp only [putA] at hs2; rw [hs2]]
            simp [putA, hs]
        · rw [get_put_ne (by simpa using Ne.symm h2), get_put_ne (by simpa using Ne.symm h1), get_put_ne (by simpa using Ne.symm h1), get_put_ne (by simpa using Ne.symm h2)]

end Go.Abs
