/- Sums, comparisons, pieces of values: met. -/
import Derived.LaidEql
import Derived.Test.YtkplhhkmchihlaaGreatDoorOk2
import Derived.Laws.Strings
namespace Go.Abs
variable {X : Type} {R : Rep X} {P : Program} {φ : Names} {S : Nat → Prop} {h : Array Obj}

theorem intBin_ok {op : BinOp} {k : IntKind} {a b : Int} {v : AV} (w : World) (hv : intBin op k a b = some v) (t : TypeId) :
    ∃ v', (binOp op t (.int k a) (.int k b)).run P w = .ok v' w ∧ VRel φ S h v v' := by
  cases op <;> simp only [intBin] at hv
  case quo =>
    split at hv
    · cases hv
    · rename_i hb; simp at hv; subst hv; exact ⟨_, by simp [binOp, Op.intDiv, hb], .int _ _⟩
  case rem =>
    split at hv
    · cases hv
    · rename_i hb; simp at hv; subst hv; exact ⟨_, by simp [binOp, Op.intDiv, hb], .int _ _⟩
  all_goals first
    | (cases hv; exact ⟨_, by rw [binOp_add]; rfl, .int _ _⟩)
    | (cases hv; exact ⟨_, by rw [binOp_sub]; rfl, .int _ _⟩)
    | (cases hv; exact ⟨_, by rw [binOp_mul]; rfl, .int _ _⟩)
    | (cases hv; exact ⟨_, by rw [binOp_and]; rfl, .int _ _⟩)
    | (cases hv; exact ⟨_, by rw [binOp_or]; rfl, .int _ _⟩)
    | (cases hv; exact ⟨_, by rw [binOp_xor]; rfl, .int _ _⟩)
    | (cases hv; exact ⟨_, by rw [binOp_andNot]; rfl, .int _ _⟩)
    | (cases hv; exact ⟨_, by simp [binOp, Op.intCmp], .bool _⟩)
    | cases hv

theorem shiftBin_ok {op : BinOp} (hop : op = .shl ∨ op = .shr) {k j : IntKind} {a b : Int} {v : AV} (w : World) (hv : shiftBin op k a b = some v) (t : TypeId) :
    ∃ v', (binOp op t (.int k a) (.int j b)).run P w = .ok v' w ∧ VRel φ S h v v' := by
  unfold shiftBin at hv
  split at hv
  · cases hv
  · rename_i hb
    rcases hop with rfl | rfl
    · cases hv
      refine ⟨_, ?_, .int _ _⟩
      show Sem.run P (Op.shift .shl k a j b) w = _
      unfold Op.shift; rw [if_neg hb]; rfl
    · cases hv
      refine ⟨_, ?_, .int _ _⟩
      show Sem.run P (Op.shift .shr k a j b) w = _
      unfold Op.shift; rw [if_neg hb]; rfl

theorem strBin_ok {op : BinOp} {x y : ByteArray} {v : AV} (w : World) (hv : strBin op x.data.toList y.data.toList = some v) (t : TypeId) :
    ∃ v', (binOp op t (.string x) (.string y)).run P w = .ok v' w ∧ VRel φ S h v v' := by
  have hsz : ∀ z : ByteArray, z.data.toList.length = z.size := fun z => by rw [Array.length_toList]; rfl
  have hd : (x ++ y).data.toList = x.data.toList ++ y.data.toList := by simp
  cases op <;> simp only [strBin] at hv
  case add =>
    split at hv
    · rename_i hle
      rw [hsz, hsz] at hle
      simp at hv; subst hv
      refine ⟨.string (x ++ y), ?_, by rw [← hd]; exact .str _⟩
      show Sem.run P (Op.stringOp .add x y) w = _
      unfold Op.stringOp
      simp only
      rw [if_neg (by rw [IntKind.max_i64]; omega)]
      rfl
    · cases hv
  all_goals first
    | (simp at hv; subst hv; exact ⟨_, by simp [binOp, Op.stringOp, ByteArray.toList_eq], .bool _⟩)
    | cases hv

theorem part_ok {t : TypeId} {cs : List AV} {off : Nat} {v : AV} {vs : List Value} (w : World) (hv : partV P t cs off = some v) (hr : VRels φ S h cs vs) : ∃ v', (part t vs.toArray off).run P w = .ok v' w ∧ VRel φ S h v v' := by
  unfold partV at hv
  split at hv
  · rename_i n hg hz
    simp at hv; subst hv
    refine ⟨.agg ((vs.drop off).take n).toArray, ?_, .agg ((hr.drop off).take n)⟩
    simp only [part, Sem.run_bind, run_agg w hg, Result.andThen_ok, if_true, run_size w hz, Sem.run_pure]
    congr 2
    apply Array.ext'
    simp [List.take_drop]
  · rename_i hg
    obtain ⟨v', h1, h2⟩ := hr.get hv
    refine ⟨v', ?_, h2⟩
    simp [part, run_agg w hg, h1]
  · cases hv

theorem eqIn_ok : ∀ (d : Nat) {t : TypeId} {x y : AV} {vx vy : Value} {b : Bool} (w : World), eqIn P d t x y = some b → VRel φ S h x vx → VRel φ S h y vy → (Op.equalIn d t vx vy).run P w = .ok b w
  | 0, _, _, _, _, _, _, _, hv, _, _ => by simp [eqIn] at hv
  | d + 1, t, x, y, vx, vy, b, w, hv, hx, hy => by
    simp only [eqIn] at hv
    split at hv
    · rename_i a c hu
      cases hx; cases hy; simp at hv; subst hv
      simp [Op.equalIn, run_und w hu]
    · rename_i k a k' c hu
      cases hx; cases hy
      split at hv
      · rename_i hk; simp at hv; subst hv; subst hk
        simp [Op.equalIn, run_und w hu]
      · cases hv
    · rename_i a c hu
      simp at hv; subst hv
      cases hx; cases hy
      simp only [Op.equalIn, Sem.run_bind, run_und w hu, Result.andThen_ok, Sem.run_pure]
      rw [beq_toListBytes, ByteArray.toList_eq, ByteArray.toList_eq]
    · rename_i fs xs ys hu
      cases hx; cases hy
      rename_i vxs hxs vys hys
      split at hv
      · cases hv
      · rename_i hst
        have hf : P.fieldsOf t = fs := by simp [Program.fieldsOf, hu]
        rw [run_equalIn_struct w d t _ _ (by rw [hf]; exact hu) (by simpa using hst), hf]
        clear hf hu hst
        have key : ∀ (l : List Field) (b : Bool), l.foldr (fun f r =>
            if f.name = "_" then none else
            match aggT P f.type, sizeT P f.type with
            | some true, some n => match eqIn P d f.type (.agg ((xs.drop f.offset).take n)) (.agg ((ys.drop f.offset).take n)) with
              | some b => match r with
                | some c => some (b && c)
                | none => none
              | none => none
            | some false, _ => match xs[f.offset]?, ys[f.offset]? with
              | some u, some v => match eqIn P d f.type u v with
                | some b => match r with
                  | some c => some (b && c)
                  | none => none
                | none => none
              | _, _ => none
            | _, _ => none) (some true) = some b → (Op.eqFields d vxs.toArray vys.toArray l).run P w = .ok b w := by
          intro l
          induction l with
          | nil => intro b hb; simp at hb; subst hb; simp [Op.eqFields]
          | cons f l ih =>
            intro b hb
            rw [List.foldr_cons] at hb
            split at hb
            · cases hb
            · rename_i hname
              simp only [Op.eqFields, ne_eq, hname, not_false_eq_true, if_true, Sem.run_bind]
              split at hb
              · rename_i n hg hz
                have p1 : partV P f.type xs f.offset = some (.agg ((xs.drop f.offset).take n)) := by simp [partV, hg, hz]
                have p2 : partV P f.type ys f.offset = some (.agg ((ys.drop f.offset).take n)) := by simp [partV, hg, hz]
                obtain ⟨u1, r1, q1⟩ := part_ok w p1 hxs
                obtain ⟨u2, r2, q2⟩ := part_ok w p2 hys
                rw [r1]; simp only [Result.andThen_ok]; rw [r2]; simp only [Result.andThen_ok]
                split at hb
                · rename_i b1 he
                  rw [eqIn_ok d w he q1 q2]
                  simp only [Result.andThen_ok]
                  split at hb
                  · rename_i c0 hc
                    simp at hb; subst hb
                    cases b1
                    · simp
                    · simp [ih c0 hc]
                  · cases hb
                · cases hb
              · rename_i hg
                split at hb
                · rename_i u v hu hv'
                  have p1 : partV P f.type xs f.offset = some u := by simp [partV, hg, hu]
                  have p2 : partV P f.type ys f.offset = some v := by simp [partV, hg, hv']
                  obtain ⟨u1, r1, q1⟩ := part_ok w p1 hxs
                  obtain ⟨u2, r2, q2⟩ := part_ok w p2 hys
                  rw [r1]; simp only [Result.andThen_ok]; rw [r2]; simp only [Result.andThen_ok]
                  split at hb
                  · rename_i b1 he
                    rw [eqIn_ok d w he q1 q2]
                    simp only [Result.andThen_ok]
                    split at hb
                    · rename_i c0 hc
                      simp at hb; subst hb
                      cases b1
                      · simp
                      · simp [ih c0 hc]
                    · cases hb
                  · cases hb
                · cases hb
              · cases hb
        exact key _ _ hv
    · cases hv

theorem eqBin_ok {t : TypeId} {x y : AV} {vx vy : Value} {b : Bool} (w : World) (hv : eqBin P t x y = some b) (hx : VRel φ S h x vx) (hy : VRel φ S h y vy) (ox oy : Operand) :
    ((do eqGuard .eql t ox oy vx vy; binOp .eql t vx vy : Sem Value)).run P w = .ok (.bool b) w ∧ ((do eqGuard .neq t ox oy vx vy; binOp .neq t vx vy : Sem Value)).run P w = .ok (.bool (!b)) w := by
  unfold eqBin at hv
  split at hv
  · rename_i a c
    split at hv
    · rename_i ht
      have hu : P.underlying t = some .bool := by
        unfold isBoolT at ht
        cases hq : P.underlying t with
        | none => simp [hq] at ht
        | some d => cases d <;> simp [hq] at ht ⊢
      simp at hv; subst hv
      cases hx; cases hy
      have hd : ∀ d, (Op.equalIn (d + 1) t (.bool a) (.bool c)).run P w = .ok (a == c) w := fun d => by simp [Op.equalIn, run_und w hu]
      have := hd 9999
      constructor
      · show Sem.run P ((Op.equalIn 10000 t _ _).bind fun r => Sem.pure (Value.bool r)) w = _
        rw [Sem.run_bind', this]; rfl
      · show Sem.run P ((Op.equalIn 10000 t _ _).bind fun r => Sem.pure (Value.bool (!r))) w = _
        rw [Sem.run_bind', this]; rfl
    · cases hv
  · rename_i xs ys
    split at hv
    · cases hv
    · rename_i hg
      have hx0 := hx
      have hy0 := hy
      cases hx; cases hy
      have he := eqIn_ok 10000 w hv hx0 hy0
      have hg' : P.eqGuardType P.depth t = false := by simpa using hg
      constructor
      · rw [Sem.run_bind, run_eqGuard_agg _ _ _ _ _ _ _ hg']
        simp only [Result.andThen_ok]
        rw [run_eql_struct, he]; rfl
      · rw [Sem.run_bind, run_eqGuard_agg _ _ _ _ _ _ _ hg']
        simp only [Result.andThen_ok]
        rw [run_neq_struct, he]; rfl
  · rename_i n i o n' i' o'
    split at hv
    · rename_i hc
      obtain ⟨⟨rfl, rfl, rfl⟩, hpe⟩ := hc
      simp at hv; subst hv
      unfold ptrElem at hpe
      split at hpe
      · rename_i e hu
        obtain ⟨j, hj⟩ := Option.isSome_iff_exists.1 hpe
        cases hx with
        | ptr h1 =>
          cases hy with
          | ptr h2 =>
            rw [h1] at h2; cases h2
            rename_i pl
            generalize (⟨pl.blk, pl.shift + i * pl.esz + o, none⟩ : Addr) = a
            have hd : ∀ d, (Op.equalIn (d + 1) t (.pointer (some a)) (.pointer (some a))).run P w = .ok true w := fun d => by
              simp [Op.equalIn, run_und w hu, sizeOf, typeInfo, hj, run_sameAddr_same]
            have hd9 := hd 9999
            constructor
            · show Sem.run P ((Op.equalIn 10000 t (.pointer (some a)) (.pointer (some a))).bind fun r => Sem.pure (Value.bool r)) w = _
              rw [Sem.run_bind', hd9]; rfl
            · show Sem.run P ((Op.equalIn 10000 t (.pointer (some a)) (.pointer (some a))).bind fun r => Sem.pure (Value.bool (!r))) w = _
              rw [Sem.run_bind', hd9]; rfl
      · cases hpe
    · cases hv
  · rename_i x y _ _ _
    split at hv
    · rename_i hf
      rw [Bool.and_eq_true] at hf
      obtain ⟨f1, f2⟩ := hf
      have ptr_u : ∀ {a : AV}, (a = .nilp ∨ (∃ n i o, a = .ptr n i o) ∨ ∃ cs, a = .pel cs) → ptrFits P t a = true → ∃ e, P.underlying t = some (.pointer e) := by
        intro a ha hf
        cases hq : P.underlying t with
        | none => rcases ha with rfl | ⟨_, _, _, rfl⟩ | ⟨_, rfl⟩ <;> simp [ptrFits, hq] at hf
        | some d => rcases ha with rfl | ⟨_, _, _, rfl⟩ | ⟨_, rfl⟩ <;> (cases d <;> simp [ptrFits, hq] at hf ⊢)
      have fn_u : ∀ {a : AV}, (a = .nilf ∨ ∃ f as bs, a = .fn f as bs) → ptrFits P t a = true → ∃ ps rs v, P.underlying t = some (.func ps rs v) := by
        intro a ha hf
        cases hq : P.underlying t with
        | none => rcases ha with rfl | ⟨_, _, _, rfl⟩ <;> simp [ptrFits, hq] at hf
        | some d => rcases ha with rfl | ⟨_, _, _, rfl⟩ <;> (cases d <;> simp [ptrFits, hq] at hf ⊢)
      have pp : ∀ {a b : Option Addr} {c : Bool}, (∀ d, (Op.equalIn (d + 1) t (.pointer a) (.pointer b)).run P w = .ok c w) →
          ((do eqGuard .eql t ox oy (.pointer a) (.pointer b); binOp .eql t (.pointer a) (.pointer b) : Sem Value)).run P w = .ok (.bool c) w ∧ ((do eqGuard .neq t ox oy (.pointer a) (.pointer b); binOp .neq t (.pointer a) (.pointer b) : Sem Value)).run P w = .ok (.bool (!c)) w := by
        intro a b c hd
        have := hd 9999
        constructor
        · show Sem.run P ((Op.equalIn 10000 t (.pointer a) (.pointer b)).bind fun r => Sem.pure (Value.bool r)) w = _
          rw [Sem.run_bind', this]; rfl
        · show Sem.run P ((Op.equalIn 10000 t (.pointer a) (.pointer b)).bind fun r => Sem.pure (Value.bool (!r))) w = _
          rw [Sem.run_bind', this]; rfl
      have ff : ∀ {a b : Value} {c : Bool}, (a = .nilFunc ∨ ∃ f x y, a = .func f x y) → (b = .nilFunc ∨ ∃ f x y, b = .func f x y) → (∀ d, (Op.equalIn (d + 1) t a b).run P w = .ok c w) →
          ((do eqGuard .eql t ox oy a b; binOp .eql t a b : Sem Value)).run P w = .ok (.bool c) w ∧ ((do eqGuard .neq t ox oy a b; binOp .neq t a b : Sem Value)).run P w = .ok (.bool (!c)) w := by
        intro a b c ha hb hd
        have := hd 9999
        rcases ha with rfl | ⟨_, _, _, rfl⟩ <;> rcases hb with rfl | ⟨_, _, _, rfl⟩ <;> constructor <;>
          first
            | (show Sem.run P ((Op.equalIn 10000 t _ _).bind fun r => Sem.pure (Value.bool r)) w = _; rw [Sem.run_bind', this]; rfl)
            | (show Sem.run P ((Op.equalIn 10000 t _ _).bind fun r => Sem.pure (Value.bool (!r))) w = _; rw [Sem.run_bind', this]; rfl)
      have sl_u : ∀ {a : AV}, (a = .nils ∨ (∃ z n i l c, a = .sl z n i l c) ∨ ∃ z es, a = .isl z es) → ptrFits P t a = true → ∃ e, P.underlying t = some (.slice e) := by
        intro a ha hf
        cases hq : P.underlying t with
        | none => rcases ha with rfl | ⟨_, _, _, _, _, rfl⟩ | ⟨_, _, rfl⟩ <;> simp [ptrFits, hq] at hf
        | some d => rcases ha with rfl | ⟨_, _, _, _, _, rfl⟩ | ⟨_, _, rfl⟩ <;> (cases d <;> simp [ptrFits, hq] at hf ⊢)
      have mp_u : ∀ {a : AV}, (a = .nilm ∨ ∃ n, a = .map n) → ptrFits P t a = true → ∃ k e, P.underlying t = some (.map k e) := by
        intro a ha hf
        cases hq : P.underlying t with
        | none => rcases ha with rfl | ⟨_, rfl⟩ <;> simp [ptrFits, hq] at hf
        | some d => rcases ha with rfl | ⟨_, rfl⟩ <;> (cases d <;> simp [ptrFits, hq] at hf ⊢)
      have ss : ∀ {a b : Option Addr} {l c l' c' : Nat} {r : Bool}, (∀ d, (Op.equalIn (d + 1) t (.slice a l c) (.slice b l' c')).run P w = .ok r w) →
          ((do eqGuard .eql t ox oy (.slice a l c) (.slice b l' c'); binOp .eql t (.slice a l c) (.slice b l' c') : Sem Value)).run P w = .ok (.bool r) w ∧ ((do eqGuard .neq t ox oy (.slice a l c) (.slice b l' c'); binOp .neq t (.slice a l c) (.slice b l' c') : Sem Value)).run P w = .ok (.bool (!r)) w := by
        intro a b l c l' c' r hd
        have := hd 9999
        constructor
        · show Sem.run P ((Op.equalIn 10000 t _ _).bind fun r => Sem.pure (Value.bool r)) w = _
          rw [Sem.run_bind', this]; rfl
        · show Sem.run P ((Op.equalIn 10000 t _ _).bind fun r => Sem.pure (Value.bool (!r))) w = _
          rw [Sem.run_bind', this]; rfl
      have mm : ∀ {a b : Option Nat} {r : Bool}, (∀ d, (Op.equalIn (d + 1) t (.map a) (.map b)).run P w = .ok r w) →
          ((do eqGuard .eql t ox oy (.map a) (.map b); binOp .eql t (.map a) (.map b) : Sem Value)).run P w = .ok (.bool r) w ∧ ((do eqGuard .neq t ox oy (.map a) (.map b); binOp .neq t (.map a) (.map b) : Sem Value)).run P w = .ok (.bool (!r)) w := by
        intro a b r hd
        have := hd 9999
        constructor
        · show Sem.run P ((Op.equalIn 10000 t _ _).bind fun r => Sem.pure (Value.bool r)) w = _
          rw [Sem.run_bind', this]; rfl
        · show Sem.run P ((Op.equalIn 10000 t _ _).bind fun r => Sem.pure (Value.bool (!r))) w = _
          rw [Sem.run_bind', this]; rfl
      unfold ptrEq at hv
      split at hv
      · obtain ⟨e, hu⟩ := ptr_u (.inl rfl) f1
        simp at hv; subst hv; cases hx; cases hy
        exact pp fun d => by simp [Op.equalIn, run_und w hu]
      · obtain ⟨e, hu⟩ := ptr_u (.inl rfl) f1
        simp at hv; subst hv; cases hx; cases hy
        exact pp fun d => by simp [Op.equalIn, run_und w hu]
      · obtain ⟨e, hu⟩ := ptr_u (.inr (.inl ⟨_, _, _, rfl⟩)) f1
        simp at hv; subst hv; cases hx; cases hy
        exact pp fun d => by simp [Op.equalIn, run_und w hu]
      · obtain ⟨e, hu⟩ := ptr_u (.inl rfl) f1
        simp at hv; subst hv; cases hx; cases hy
        exact pp fun d => by simp [Op.equalIn, run_und w hu]
      · obtain ⟨e, hu⟩ := ptr_u (.inr (.inr ⟨_, rfl⟩)) f1
        simp at hv; subst hv; cases hx; cases hy
        exact pp fun d => by simp [Op.equalIn, run_und w hu]
      · obtain ⟨ps, rs, vv, hu⟩ := fn_u (.inl rfl) f1
        simp at hv; subst hv; cases hx; cases hy
        exact ff (.inl rfl) (.inl rfl) fun d => by simp [Op.equalIn, run_und w hu]
      · obtain ⟨ps, rs, vv, hu⟩ := fn_u (.inl rfl) f1
        simp at hv; subst hv; cases hx; cases hy
        exact ff (.inl rfl) (.inr ⟨_, _, _, rfl⟩) fun d => by simp [Op.equalIn, run_und w hu]
      · obtain ⟨ps, rs, vv, hu⟩ := fn_u (.inr ⟨_, _, _, rfl⟩) f1
        simp at hv; subst hv; cases hx; cases hy
        exact ff (.inr ⟨_, _, _, rfl⟩) (.inl rfl) fun d => by simp [Op.equalIn, run_und w hu]
      · obtain ⟨e, hu⟩ := sl_u (.inl rfl) f1
        simp at hv; subst hv; cases hx; cases hy
        exact ss fun d => by simp [Op.equalIn, run_und w hu]
      · obtain ⟨e, hu⟩ := sl_u (.inl rfl) f1
        simp at hv; subst hv; cases hx; cases hy
        exact ss fun d => by simp [Op.equalIn, run_und w hu]
      · obtain ⟨e, hu⟩ := sl_u (.inr (.inl ⟨_, _, _, _, _, rfl⟩)) f1
        simp at hv; subst hv; cases hx; cases hy
        exact ss fun d => by simp [Op.equalIn, run_und w hu]
      · obtain ⟨e, hu⟩ := sl_u (.inl rfl) f1
        simp at hv; subst hv; cases hx; cases hy
        exact ss fun d => by simp [Op.equalIn, run_und w hu]
      · obtain ⟨e, hu⟩ := sl_u (.inr (.inr ⟨_, _, rfl⟩)) f1
        simp at hv; subst hv; cases hx; cases hy
        exact ss fun d => by simp [Op.equalIn, run_und w hu]
      · obtain ⟨k, e, hu⟩ := mp_u (.inl rfl) f1
        simp at hv; subst hv; cases hx; cases hy
        exact mm fun d => by simp [Op.equalIn, run_und w hu]
      · obtain ⟨k, e, hu⟩ := mp_u (.inl rfl) f1
        simp at hv; subst hv; cases hx; cases hy
        exact mm fun d => by simp [Op.equalIn, run_und w hu]
      · obtain ⟨k, e, hu⟩ := mp_u (.inr ⟨_, rfl⟩) f1
        simp at hv; subst hv; cases hx; cases hy
        exact mm fun d => by simp [Op.equalIn, run_und w hu]
      · cases hv
    · cases hv

theorem bin_ok {op : BinOp} {t : TypeId} {x y v : AV} {vx vy : Value} (w : World) (hv : bin P op t x y = some v) (hx : VRel φ S h x vx) (hy : VRel φ S h y vy) (ox oy : Operand) :
    ∃ v', ((do eqGuard op t ox oy vx vy; binOp op t vx vy : Sem Value)).run P w = .ok v' w ∧ VRel φ S h v v' := by
  unfold bin at hv
  split at hv
  · rename_i k a j b
    cases hx; cases hy
    obtain ⟨v', h1, h2⟩ := shiftBin_ok (P := P) (φ := φ) (S := S) (h := h) (j := j) (.inl rfl) w hv t
    exact ⟨v', by simp [eqGuard_at_int, h1], h2⟩
  · rename_i k a j b
    cases hx; cases hy
    obtain ⟨v', h1, h2⟩ := shiftBin_ok (P := P) (φ := φ) (S := S) (h := h) (j := j) (.inr rfl) w hv t
    exact ⟨v', by simp [eqGuard_at_int, h1], h2⟩
  · split at hv
    · rename_i hk
      subst hk
      cases hx; cases hy
      obtain ⟨v', h1, h2⟩ := intBin_ok (P := P) (φ := φ) (S := S) (h := h) w hv t
      exact ⟨v', by simp [eqGuard_at_int, h1], h2⟩
    · cases hv
  · cases hx; cases hy
    obtain ⟨v', h1, h2⟩ := strBin_ok (P := P) (φ := φ) (S := S) (h := h) w hv t
    exact ⟨v', by simp [eqGuard_at_string, h1], h2⟩
  · cases he : eqBin P t x y with
    | none => simp [he] at hv
    | some b => simp [he] at hv; subst hv; exact ⟨_, (eqBin_ok w he hx hy ox oy).1, .bool _⟩
  · cases he : eqBin P t x y with
    | none => simp [he] at hv
    | some b => simp [he] at hv; subst hv; exact ⟨_, (eqBin_ok w he hx hy ox oy).2, .bool _⟩
  · cases hv

theorem un_ok {op : UnOp} {x v : AV} {vx : Value} (w : World) (hv : un op x = some v) (hx : VRel φ S h x vx) : ∃ v', (Op.unary op vx).run P w = .ok v' w ∧ VRel φ S h v v' := by
  unfold un at hv
  split at hv
  · simp at hv; subst hv; cases hx; exact ⟨_, by simp [Op.unary, Op.intArith], .int _ _⟩
  · simp at hv; subst hv; cases hx; exact ⟨_, by simp [Op.unary], .bool _⟩
  · cases hv

end Go.Abs
