/- The further operations are met. -/
import Derived.Test.YtkplhhkmchihlaaGreatDoorMore
namespace Go.Abs
variable {X : Type} {R : Rep X} {P : Program} {φ : Names} {F S : Nat → Prop} {H : Heap X}

theorem convV_ok {src dst : TypeId} {x v : AV} {vx : Value} (w : World) (h : convV P src dst (some x) = some v) (hx : VRel φ S w.heap x vx) : ∃ v', (convert src dst vx).run P w = .ok v' w ∧ VRel φ S w.heap v v' := by
  unfold convV at h
  split at h
  · rename_i d0 k k0 n hs hd hx'
    simp at h; subst h
    cases hx'
    cases hx
    refine ⟨.int k (k.wrap n), ?_, .int _ _⟩
    simp only [convert, Sem.run_bind, run_und w hs, run_und w hd, Result.andThen_ok]
    cases d0 <;> simp [Conv.intToInt]
  · rename_i d0 s hs hd hx'
    simp at h; subst h
    cases hx'
    cases hx with
    | str s =>
      refine ⟨.string s, ?_, .str s⟩
      simp only [convert, Sem.run_bind, run_und w hs, run_und w hd, Result.andThen_ok]
      cases d0 <;> simp
  · cases h

theorem bytes_loop (w : World) : ∀ (xs : List Int) (s : ByteArray),
    (forIn (xs.map (Value.int .u8 ·)) s fun c s => (do
      let .int .u8 n := c | stuck "bytesToString: byte expected"
      pure (ForInStep.yield (s.push (UInt8.ofNat n.toNat))) : Sem (ForInStep ByteArray))).run P w = .ok ⟨s.data ++ (xs.map fun x => x.toNat.toUInt8).toArray⟩ w
  | [], s => by simp
  | x :: xs, s => by
    simp only [List.map_cons, List.forIn_cons, Sem.run_bind, Sem.run_pure, Result.andThen_ok]
    rw [bytes_loop w xs]
    congr 1
    apply ByteArray.ext
    simp [ByteArray.push, Nat.toUInt8]

theorem run_bytesToString (w : World) {x : Value} {xs : List Int} {n : Nat} (hn : n = xs.length) (hx : (∃ a c, x = .slice (some a) n c) ∨ (∃ c, x = .slice none n c ∧ xs = []))
    (hc : (Builtin.firstCells 1 n x).run P w = .ok (xs.map (Value.int .u8 ·)).toArray w) :
    (Conv.bytesToString x).run P w = .ok (.string ⟨(xs.map fun x => x.toNat.toUInt8).toArray⟩) w := by
  rcases hx with ⟨a, c, rfl⟩ | ⟨c, rfl, rfl⟩
  · simp only [Builtin.firstCells, Nat.mul_one] at hc
    simp only [Conv.bytesToString]
    rw [Sem.run_bind, hc]
    simp only [Result.andThen_ok]
    rw [Sem.run_bind]
    have := bytes_loop (P := P) w xs .empty
    simp only [List.forIn_toArray]
    erw [this]
    simp
  · simp [Conv.bytesToString]
    rfl


theorem bytesStrP_ok {src dst : TypeId} {y : EZ} {x v : AV} {vx : Value} {w : World} (hr : HRel R φ F S H w.heap) (hx : VRel φ S w.heap x vx) {b : Bool} {H' : Heap X} {c c' : Nat} {l : List (Act X)}
    (h : bytesStrP P src dst y x b H c = some (v, H', c', l)) (hxs : (∃ a n c, vx = .slice a n c)) : SemOK R P φ F S w c c' (convert src dst vx) v H' := by
  unfold bytesStrP at h
  cases hs : P.underlying src with
  | none => simp [hs, M.fail] at h
  | some ds =>
    cases hd : P.underlying dst with
    | none => cases ds <;> simp [hs, hd, M.fail] at h
    | some dd =>
      cases ds with
      | slice e =>
        cases dd with
        | string =>
          simp only [hs, hd] at h
          by_cases hc : isByteT P e = true ∧ y.z = 1
          · rw [if_pos hc] at h
            obtain ⟨hbt, hy1⟩ := hc
            obtain ⟨els, H1, c1, l1, l2, h1, h2⟩ := bind_some h
            obtain ⟨h3, rfl, rfl⟩ := lift_some h2
            obtain ⟨s, hs1, rfl⟩ := Option.map_eq_some_iff.1 h3
            obtain ⟨rfl, rfl⟩ := srcP_run h1
            obtain ⟨news, q1, q2, q3, q4⟩ := srcP_first (P := P) hr hx h1 (by omega)
            obtain ⟨xs, rfl, rfl⟩ := bytesOf_rel hs1 q1
            have hlen : els.length = xs.length := by
              have := q1.length
              rw [flatten_length q2, hy1] at this
              simpa using this
            have hcell := q4 els.length (Nat.le_refl _)
            rw [hy1, Nat.mul_one, List.take_of_length_le (by simp [hlen])] at hcell
            have hbe : P.underlying e = some (.int .u8) := by
              unfold isByteT at hbt
              split at hbt
              · assumption
              · cases hbt
            obtain ⟨a, n, cp, rfl⟩ := hxs
            have hn : n = els.length := by
              have : (Builtin.lenOf (.slice a n cp)) = Sem.pure n := rfl
              rw [this] at q3
              injection q3
            subst hn
            have hrun : (Conv.bytesToString (.slice a els.length cp)).run P w = .ok (.string ⟨(xs.map fun x => x.toNat.toUInt8).toArray⟩) w := by
              refine run_bytesToString w hlen ?_ hcell
              cases a with
              | some a => exact .inl ⟨a, cp, rfl⟩
              | none =>
                refine .inr ⟨cp, rfl, ?_⟩
                simp only [Builtin.firstCells, Sem.run_pure] at hcell
                injection hcell with e1 e2
                have := congrArg Array.size e1
                simp at this
                exact List.length_eq_zero_iff.1 this.symm
            have hv := VRel.str (φ := φ) (S := S) (h := w.heap) ⟨(xs.map fun x => x.toNat.toUInt8).toArray⟩
            refine SemOK.pure hr (v' := .string ⟨(xs.map fun x => x.toNat.toUInt8).toArray⟩) ?_ (by simpa using hv)
            simp only [convert, Sem.run_bind, run_und w hs, run_und w hd, Result.andThen_ok]
            cases a <;> simp only [run_und w hbe, Result.andThen_ok] <;> exact hrun
          · rw [if_neg hc] at h; simp [M.fail] at h
        | _ => simp [hs, hd, M.fail] at h
      | _ => simp [hs, hd, M.fail] at h

theorem convertP_ok {src dst : TypeId} {x v : AV} {vx : Value} {w : World} (hr : HRel R φ F S H w.heap) (hx : VRel φ S w.heap x vx) {b : Bool} {H' : Heap X} {c c' : Nat} {l : List (Act X)}
    (h : convertP P src dst x b H c = some (v, H', c', l)) : SemOK R P φ F S w c c' (convert src dst vx) v H' := by
  have gen : ∀ {x : AV} {vx : Value}, VRel φ S w.heap x vx → (M.lift (convV P src dst (some x)) : M X AV) b H c = some (v, H', c', l) → SemOK R P φ F S w c c' (convert src dst vx) v H' := by
    intro x vx hx h
    obtain ⟨h1, rfl, rfl⟩ := lift_some h
    obtain ⟨v', q1, q2⟩ := convV_ok (P := P) w h1 hx
    exact SemOK.pure hr q1 q2
  unfold convertP at h
  cases hx with
  | ptr hn => exact convPtrP_ok hr (.ptr hn) h
  | sl hn hz hl => exact bytesStrP_ok hr (.sl hn hz hl) h ⟨_, _, _, rfl⟩
  | isl a b c d e f g => exact bytesStrP_ok hr (.isl a b c d e f g) h ⟨_, _, _, rfl⟩
  | islNil => exact bytesStrP_ok hr .islNil h ⟨_, _, _, rfl⟩
  | nils => exact bytesStrP_ok hr .nils h ⟨_, _, _, rfl⟩
  | bool b => exact gen (.bool b) h
  | int k n => exact gen (.int k n) h
  | str s => exact gen (.str s) h
  | pel a b c d => exact gen (.pel a b c d) h
  | nilp => exact gen .nilp h
  | zsl => exact gen .zsl h
  | any => exact gen (.any _) h
  | map hn => exact gen (.map hn) h
  | nilm => exact gen .nilm h
  | fn ha hb => exact gen (.fn ha hb) h
  | nilf => exact gen .nilf h
  | agg hv => exact gen (.agg hv) h
  | tup hv => exact gen (.tup hv) h
  | nili => exact gen .nili h

theorem makeP_ok {t : TypeId} {x y v : AV} {vx vy : Value} {w : World} (hr : HRel R φ F S H w.heap) (hx : VRel φ S w.heap x vx) (hy : VRel φ S w.heap y vy) {b : Bool} {H' : Heap X} {c c' : Nat} {l : List (Act X)}
    (h : makeP P t x y b H c = some (v, H', c', l)) (hfree : ∀ n, c ≤ n → n < c' → φ n = none) : SemOK R P φ F S w c c' (Instr.makeSlice t vx vy) v H' := by
  unfold makeP at h
  cases hu : P.underlying t with
  | none => simp [hu, M.fail] at h
  | some d =>
  cases d with
  | slice e =>
    cases x with
    | int kx a =>
      cases y with
      | int ky bb =>
        cases hx
        cases hy
        simp only [hu] at h
        cases hz : elemT P e with
        | none => simp [hz, M.fail] at h
        | some z =>
          cases hzs : zeroT P e with
          | none => simp [hz, hzs, M.fail] at h
          | some zs =>
            simp only [hz, hzs] at h
            by_cases hc : zs.length = z.z ∧ 0 ≤ a ∧ a ≤ bb ∧ bb.toNat * z.by_ ≤ 281474976710656 ∧ bb ≤ 9223372036854775807
            · rw [if_pos hc] at h
              obtain ⟨hlz, ha0, hab, hby, h63⟩ := hc
              obtain ⟨l', hk⟩ := new_some h
              obtain ⟨rfl, rfl, rfl⟩ := pure_some hk
              obtain ⟨zv, zr, zc⟩ := run_zero (P := P) w hzs
              have hzl : zv.cells.size = z.z := by have := (zc φ S w.heap).length; rw [hlz] at this; simpa using this.symm
              obtain ⟨i, hi, hiz⟩ : ∃ i, P.info? e = some i ∧ (⟨i.size, i.bytes⟩ : EZ) = z := by
                unfold elemT at hz
                obtain ⟨i, h1, h2⟩ := Option.map_eq_some_iff.1 hz
                exact ⟨i, h1, h2⟩
              have his : i.size = z.z := by rw [← hiz]
              have hib : i.bytes = z.by_ := by rw [← hiz]
              have hizero : i.zero = some zv := by
                simp only [zeroValue, Sem.run_bind, run_info w hi, Result.andThen_ok] at zr
                cases hq : i.zero with
                | none => simp [hq] at zr
                | some u => simp [hq] at zr; rw [zr]
              have hrun := run_make (P := P) w t e i zv hu hi hizero kx ky a bb ha0 hab (by
                rw [hib]
                have : ((bb.toNat * z.by_ : Nat) : Int) ≤ 281474976710656 := by omega
                rw [Int.natCast_mul, Int.toNat_of_nonneg (by omega)] at this
                rw [Int.mul_comm]; omega) h63
              have hvz : VRels φ S w.heap (List.replicate bb.toNat zs).flatten (List.replicate bb.toNat zv.cells.toList).flatten := (zc φ S w.heap).rep bb.toNat
              have hcz : (madeCells zv.cells (bb.toNat * i.size)).toList = (List.replicate bb.toNat zv.cells.toList).flatten := by
                rw [his]
                exact zeros_eq zv bb.toNat z.z hzl
              have hsz : (madeCells zv.cells (bb.toNat * i.size)).size = bb.toNat * z.z := by rw [size_madeCells, his]
              obtain ⟨φ', h1, h2, h3, h4, h5⟩ := newRow_ok (R := R) hr (hfree c (Nat.le_refl _) (by omega)) (t := e) (es := List.replicate bb.toNat zs) (z := z) (vs := (List.replicate bb.toNat zv.cells.toList).flatten)
                (cells := madeCells zv.cells (bb.toNat * i.size)) 0 (by intro x hx; rw [List.eq_of_mem_replicate hx, hlz]) hvz
                (by intro j hj; rw [Nat.zero_add, ← hcz]; simp) (by rw [hsz]; simp) (by simpa using hby)
              refine ⟨_, φ', _, S, _, hrun, .sl' h2 rfl (by omega) (by simp) (by simp [capOf]), h4, ⟨h5, rfl, rfl⟩, fun n hn => h3 n (by omega)⟩
            · rw [if_neg hc] at h; simp [M.fail] at h
      | _ => simp [hu, M.fail] at h
    | _ => simp [hu, M.fail] at h
  | _ => simp [hu, M.fail] at h

theorem copyP_ok {t xt ty : TypeId} {d s v : AV} {vd vs : Value} {w : World} (hr : HRel R φ F S H w.heap) (hd : VRel φ S w.heap d vd) (hs : VRel φ S w.heap s vs) {b : Bool} {H' : Heap X} {c c' : Nat} {l : List (Act X)}
    (h : copyP P t xt d s b H c = some (v, H', c', l)) : SemOK R P φ F S w c c' (Builtin.copy_ #[t, xt] ty #[vd, vs]) v H' := by
  unfold copyP at h
  cases hu : P.underlying t with
  | none => simp [hu, M.fail] at h
  | some dd =>
  cases dd with
  | slice e =>
    simp only [hu] at h
    cases hz : elemT P e with
    | none => simp [hz, M.fail] at h
    | some z =>
      simp only [hz] at h
      by_cases hc : 0 < z.z ∧ notIntT P xt = true
      · rw [if_pos hc] at h
        obtain ⟨els, H1, c1, l1, l2, h1, h2⟩ := bind_some h
        obtain ⟨rfl, rfl⟩ := srcP_run h1
        obtain ⟨news, q1, q2, q3, q4⟩ := srcP_first (P := P) hr hs h1 hc.1
        have hsz := run_size (P := P) w (elem_size hz)
        have hnl := q1.length
        rw [flatten_length q2] at hnl
        -- nothing is copied
        have none_ : ∀ (a : Option Addr) (dl cp : Nat), min els.length dl = 0 → (Builtin.copy_ #[t, xt] ty #[.slice a dl cp, vs]).run P w = .ok (goInt 0) w := by
          intro a dl cp hm
          have hf := q4 0 (Nat.zero_le _)
          have hm' : Nat.min els.length dl = 0 := hm
          simp only [Nat.zero_mul, List.take_zero] at hf
          cases a with
          | none => simp [Builtin.copy_, run_und w hu, q3, hsz, hm', hf]
          | some a => simp [Builtin.copy_, run_und w hu, q3, hsz, hm', hf, storeCells]
        have zero : ∀ (a : Option Addr) (dl cp : Nat), min els.length dl = 0 → SemOK R P φ F S w c1 c1 (Builtin.copy_ #[t, xt] ty #[.slice a dl cp, vs]) (goI 0) H1 :=
          fun a dl cp hm => SemOK.pure hr (none_ a dl cp hm) (.int _ _)
        cases hd with
        | nils =>
          obtain ⟨rfl, rfl, rfl⟩ := pure_some h2
          exact zero _ _ _ (by simp)
        | zsl =>
          obtain ⟨rfl, rfl, rfl⟩ := pure_some h2
          exact zero _ _ _ (by simp)
        | islNil =>
          obtain ⟨rfl, rfl, rfl⟩ := pure_some h2
          exact zero _ _ _ (by simp)
        | isl a1 a2 a3 a4 a5 a6 a7 =>
          rename_i es _ _ _ _ _ _ _
          cases es with
          | nil =>
            obtain ⟨rfl, rfl, rfl⟩ := pure_some h2
            exact zero _ _ _ (by simp)
          | cons => simp [M.fail] at h2
        | sl hn hy hl =>
          rename_i y n i len cap pl
          simp only at h2
          by_cases hm : min els.length len = 0
          · rw [if_pos hm] at h2
            obtain ⟨rfl, rfl, rfl⟩ := pure_some h2
            exact zero _ _ _ hm
          · rw [if_neg hm] at h2
            by_cases hk : y = z ∧ oneAll (els.take (min els.length len)).flatten = true
            · rw [if_pos hk] at h2
              obtain ⟨rfl, hone⟩ := hk
              obtain ⟨o, H3, c3, l3, l4, h3, h4⟩ := bind_some h2
              obtain ⟨hg, rfl, rfl⟩ := rdO_some h3
              cases o with
              | arr t' es =>
                simp only at h4
                by_cases hle : i + len ≤ es.length
                · rw [if_pos hle] at h4
                  obtain ⟨_, H4, c4, l5, l6, hwr, hk4⟩ := bind_some h4
                  obtain ⟨_, rfl, rfl⟩ := wrO_some hwr
                  obtain ⟨rfl, rfl, rfl⟩ := pure_some hk4
                  have hkl : (els.take (min els.length len)).length = min els.length len := by simp
                  have hus : VRels φ S w.heap (els.take (min els.length len)).flatten (news.take (min els.length len * y.z)) := by
                    rw [← flatten_take q2]; exact q1.take _
                  obtain ⟨h', p1, p2, p3⟩ := setEls_ok (P := P) hr hn hg (j := i) (els := els.take (min els.length len)) (by rw [hkl]; omega)
                    (by intro x hx; show x.length = pl.ez.z; rw [hy]; exact q2 x (List.mem_of_mem_take hx)) hus hone
                  have hf := q4 (min els.length len) (Nat.min_le_left _ _)
                  have hm' : Nat.min els.length len = min els.length len := rfl
                  refine ⟨goInt ((min els.length len : Nat) : Int), φ, F, S, { w with heap := h' }, ?_, .int _ _, p2, p3.here, fun _ _ => rfl⟩
                  simp [Builtin.copy_, run_und w hu, q3, hsz, hm', hf, p1]
                · rw [if_neg hle] at h4; simp [M.fail] at h4
              | _ => simp [M.fail] at h4
            · rw [if_neg hk] at h2; simp [M.fail] at h2
        | _ => simp [M.fail] at h2
      · rw [if_neg hc] at h; simp [M.fail] at h
  | _ => simp [hu, M.fail] at h

theorem dataP_ok {ts : Array TypeId} {ty : TypeId} {x v : AV} {vx : Value} {w : World} (h : dataP x = some v) (hx : VRel φ S w.heap x vx) : ∃ v', (Builtin.unsafeSliceData_ ts ty #[vx]).run P w = .ok v' w ∧ VRel φ S w.heap v v' := by
  unfold dataP at h
  cases hx with
  | nils =>
    simp at h; subst h
    exact ⟨_, Lib.run_unsafeSliceData_nil w ts ty 0 0, .nilp⟩
  | sl hn hz hl =>
    rename_i z n i len cap pl
    by_cases hc : cap ≠ 0
    · simp at h; obtain ⟨_, rfl⟩ := h
      have hcap : capOf pl i cap ≠ 0 := by unfold capOf; split <;> omega
      have := VRel.ptr (φ := φ) (S := S) (h := w.heap) (i := i) (o := 0) hn
      exact ⟨_, Lib.run_unsafeSliceData_row w ts ty _ len _ hcap, this⟩
    · simp at hc; simp [hc] at h
  | _ => simp at h

/-- 'unsafe.String' over a piece of a row of bytes. -/
theorem run_unsafeString_piece (w : World) (pt it ty e : TypeId) (hp : P.underlying pt = some (.pointer e)) (hc : P.cellsOf e = 1) (g off cells : Nat) (hsh : w.shape? g = some (e, cells)) (l : List UInt8) (xs : List Int) (hl : l = xs.map fun x => x.toNat.toUInt8)
    (h0 : l ≠ []) (hn : off + l.length ≤ cells) (h63 : l.length ≤ 9223372036854775807)
    (hcell : ∀ j x, xs[j]? = some x → w.cell? ((⟨g, off, none⟩ : Addr).add j) = some (.int .u8 x)) :
    (Builtin.unsafeString_ #[pt, it] ty #[.pointer (some ⟨g, off, none⟩), .int .i64 l.length]).run P w = .ok (.string ⟨l.toArray⟩) (w.freeze ⟨g, off, none⟩ l.length) := by
  have hlen : l.length = xs.length := by rw [hl]; simp
  have hl0 : l.length ≠ 0 := by simpa using h0
  have hload : ∀ (xs : List Int) (a : Addr) (acc : ByteArray), (∀ j x, xs[j]? = some x → w.cell? (a.add j) = some (.int .u8 x)) → (loadBytes a acc xs.length).run P w = .ok ⟨acc.data ++ (xs.map fun x => x.toNat.toUInt8).toArray⟩ w := by
    intro xs
    induction xs with
    | nil => intro a acc _; simp [loadBytes]
    | cons x xs ih =>
      intro a acc h
      have h0 : w.cell? a = some (.int .u8 x) := by
        have := h 0 x rfl
        simpa [Addr.add] using this
      have ih' := ih (a.add 1) (acc.push x.toNat.toUInt8) (fun j y hy => by
        have := h (j + 1) y (by simpa using hy)
        have e : (a.add 1).add j = a.add (j + 1) := by
          unfold Addr.add
          by_cases hj : j = 0
          · subst hj; simp
          · simp [hj]; omega
        rw [e]; exact this)
      simp only [List.length_cons, loadBytes, Sem.run_bind, run_load, h0, Result.andThen]
      rw [ih']
      congr 1
      apply ByteArray.ext
      simp [ByteArray.push]
  have hlb := hload xs ⟨g, off, none⟩ .empty hcell
  rw [← hlen, ← hl] at hlb
  have hlies := lies_elem (P := P) (e := e) (z := 1) (count := cells / P.cellsOf e) (off := off) hc (by omega) (Nat.mod_one _) l.length (by rw [hc]; simpa using hn)
  have h63' : ¬ (9223372036854775807 : Int) < (l.length : Int) := by omega
  have hdef : Builtin.unsafeString_ #[pt, it] ty #[.pointer (some ⟨g, off, none⟩), .int .i64 l.length] =
      (do
        let n ← asInt (.int .i64 l.length)
        if n < 0 then runtimePanic (.error "unsafe.String: len out of range")
        if n > IntKind.i64.max then unsupported (.unsafePointer "String: a length above the largest int")
        if n = 0 then pure (.string .empty)
        else if ← variablesAt ⟨g, off, none⟩ (← elemOf pt) n.toNat then do
          let s ← loadBytes ⟨g, off, none⟩ .empty n.toNat
          freeze ⟨g, off, none⟩ n.toNat
          pure (.string s)
        else unsupported (.unsafePointer "String: not so many bytes at ptr")) := rfl
  rw [hdef]
  have hmax : IntKind.i64.max = 9223372036854775807 := rfl
  have hneg : ¬ (l.length : Int) < 0 := by omega
  simp [asInt, asIntOf, hmax, h63', hneg, hl0, variablesAt, hsh, elemOf, run_underlying hp, hlies, hlb]

/-- An object is given up, and its block may have turned. -/
theorem HRel.giveUp {w : World} {h' : Array Obj} (hr : HRel R φ F S H w.heap) {n : Nat} {o : AObj X} {pl : Place} (hn : φ n = some pl) (hg : H.get n = some o) (hone : ∀ t es, o = .arr t es → True) (harr : ∃ t es, o = .arr t es)
    (hsz : h'.size = w.heap.size) (hkeep : ∀ b, b ≠ pl.blk → h'[b]? = w.heap[b]?) : HRel R φ F S (H.del n) h' ∧ Step φ F S w.heap φ F S h' := by
  obtain ⟨t, es, rfl⟩ := harr
  obtain ⟨pl', hpl, hat, hF, hlt⟩ := hr.arrAt hg
  rw [hn] at hpl; cases hpl
  have hnS : ¬ S pl.blk := fun hs => by obtain ⟨fp, r⟩ := hr; exact r.disj _ hF hs
  refine ⟨?_, ?_⟩
  · obtain ⟨fp, r⟩ := hr
    obtain ⟨p, hp, ho⟩ := r.obj n _ hg
    rw [hn] at hp; cases hp
    refine ⟨fp, ?_, ?_, ?_, ?_, ?_, r.disj⟩
    · intro m o' hm
      rw [T.get_del] at hm
      split at hm
      · cases hm
      · rename_i hmn
        obtain ⟨p, h1, h2⟩ := r.obj m o' hm
        refine ⟨p, h1, h2.mono (Ext.refl _) (fun _ h => h) (fun b hb => hkeep b fun e => hnS (e ▸ hb)) fun b hb => hkeep b fun e => ?_⟩
        subst e
        exact r.apart m n o' _ hm hg hmn _ hb ho.1
    · intro m k o1 o2 hm hk
      rw [T.get_del] at hm hk
      split at hm
      · cases hm
      · split at hk
        · cases hk
        · exact r.apart m k o1 o2 hm hk
    · intro m o' b hm
      rw [T.get_del] at hm
      split at hm
      · cases hm
      · exact r.inF m o' b hm
    · intro b hb; rw [hsz]; exact r.liveF b hb
    · intro b hb; rw [hsz]; exact r.liveS b hb
  · exact ⟨Ext.refl _, by omega, fun b _ hb => hkeep b fun e => hb (e ▸ hF), fun b hb => .inl hb, fun b hb => .inl hb, fun b hb => hb⟩

theorem unsafeStrP_ok {pt it ty : TypeId} {p k v : AV} {vp vk : Value} {w : World} (hr : HRel R φ F S H w.heap) (hp : VRel φ S w.heap p vp) (hk : VRel φ S w.heap k vk) {b : Bool} {H' : Heap X} {c c' : Nat} {l : List (Act X)}
    (h : unsafeStrP P pt p k b H c = some (v, H', c', l)) : SemOK R P φ F S w c c' (Builtin.unsafeString_ #[pt, it] ty #[vp, vk]) v H' := by
  have empty : ∀ (a : Option Addr), SemOK R P φ F S w c c (Builtin.unsafeString_ #[pt, it] ty #[.pointer a, .int .i64 0]) (.str []) H := fun a => by
    have hv := VRel.str (φ := φ) (S := S) (h := w.heap) .empty
    exact SemOK.pure hr (Lib.run_unsafeString_none w pt it ty a) hv
  unfold unsafeStrP at h
  cases hu : P.underlying pt with
  | none => simp [hu, M.fail] at h
  | some d =>
  cases d with
  | pointer e =>
    cases k with
    | int kk n =>
      cases hk
      cases kk with
      | i64 =>
        cases hp with
        | nilp =>
          simp only [hu] at h
          by_cases h0 : n = 0
          · rw [if_pos h0] at h
            subst h0
            obtain ⟨rfl, rfl, rfl⟩ := pure_some h
            exact empty _
          · rw [if_neg h0] at h; simp [M.fail] at h
        | ptr hn =>
          rename_i m i o pl
          simp only [hu] at h
          by_cases h0 : n = 0
          · rw [if_pos h0] at h
            obtain ⟨rfl, rfl, rfl⟩ := pure_some h
            subst h0
            exact empty _
          · rw [if_neg h0] at h
            by_cases hc : sizeT P e = some 1 ∧ 0 < n ∧ n ≤ 9223372036854775807 ∧ o = 0
            · rw [if_pos hc] at h
              obtain ⟨hse, hpos, h63, rfl⟩ := hc
              obtain ⟨ob, H1, c1, l1, l2, h1, h2⟩ := bind_some h
              obtain ⟨hg, rfl, rfl⟩ := rdO_some h1
              cases ob with
              | arr t es =>
                simp only at h2
                by_cases hcc : t = e ∧ i + n.toNat ≤ es.length
                · rw [if_pos hcc] at h2
                  obtain ⟨rfl, hle⟩ := hcc
                  cases hb : bytesOf ((es.drop i).take n.toNat) with
                  | none => simp [hb, M.fail] at h2
                  | some s =>
                    simp only [hb] at h2
                    obtain ⟨_, H2, c2, l3, l4, h3, h4⟩ := bind_some h2
                    obtain ⟨_, rfl, rfl⟩ := del_some h3
                    obtain ⟨rfl, rfl, rfl⟩ := pure_some h4
                    obtain ⟨pl', hpl, hat, hF, hlt⟩ := hr.arrAt hg
                    rw [hn] at hpl; cases hpl
                    obtain ⟨cc, fr, vs, q1, q2, q3, q4, q5⟩ := hat.piece hle
                    obtain ⟨xs, rfl, hs⟩ := bytesOf_rel hb q2
                    have hplen : ((es.drop i).take n.toNat).length = n.toNat := by simp; omega
                    have hez : pl.ez.z = 1 := by
                      have hne : es.drop i ≠ [] := by
                        intro e0
                        have := congrArg List.length e0
                        simp at this; omega
                      obtain ⟨x, r, hxr⟩ := List.exists_cons_of_ne_nil hne
                      have hmem : x ∈ es := List.mem_of_mem_drop (by rw [hxr]; simp)
                      have hw := hat.wide x hmem
                      obtain ⟨k, hk⟩ : ∃ k, n.toNat = k + 1 := ⟨n.toNat - 1, by omega⟩
                      rw [hxr, hk, List.take_succ_cons] at hb
                      have hx1 : x.length = 1 := by
                        unfold bytesOf at hb
                        split at hb
                        · rename_i e1; cases e1
                        · rename_i e1; cases e1; rfl
                        · cases hb
                      rw [← hx1]; exact hw.symm
                    have hxl : xs.length = n.toNat := by simpa [Place.esz, hez] using q4
                    have hsl : s.length = n.toNat := by rw [hs]; simpa using hxl
                    obtain ⟨j, hj, hjz⟩ := size_info hse
                    have hco : P.cellsOf t = 1 := by simp [Program.cellsOf, hj, hjz]
                    rw [Place.esz, hez, Nat.mul_one] at q3 q5
                    have hrun := run_unsafeString_piece (P := P) w pt it ty t hu hco pl.blk (pl.shift + i) cc.size (by simp [World.shape?, q1]) s xs hs (by intro e0; rw [e0] at hsl; simp at hsl; omega) (by omega) (by omega)
                      (by
                        intro j x hx
                        have hadd : (⟨pl.blk, pl.shift + i, none⟩ : Addr).add j = ⟨pl.blk, pl.shift + i + j, none⟩ := by unfold Addr.add; split <;> simp_all
                        rw [hadd]
                        have hjl : j < xs.length := (List.getElem?_eq_some_iff.1 hx).1
                        have := q3 j (by simpa using hjl)
                        simp only [World.cell?, q1]
                        rw [this]; simp [hx])
                    have hnn : (s.length : Int) = n := by omega
                    rw [hnn] at hrun
                    have hfz : ∀ b, b ≠ pl.blk → (w.freeze ⟨pl.blk, pl.shift + i, none⟩ s.length).heap[b]? = w.heap[b]? := by
                      intro b hb
                      unfold World.freeze
                      split
                      · rfl
                      · rw [Array.getElem?_modify]; simp [Ne.symm hb]
                    have hfs : (w.freeze ⟨pl.blk, pl.shift + i, none⟩ s.length).heap.size = w.heap.size := by
                      unfold World.freeze
                      split
                      · rfl
                      · simp
                    have hfo : (w.freeze ⟨pl.blk, pl.shift + i, none⟩ s.length).os = w.os ∧ (w.freeze ⟨pl.blk, pl.shift + i, none⟩ s.length).output = w.output := by
                      unfold World.freeze
                      split <;> exact ⟨rfl, rfl⟩
                    obtain ⟨g1, g2⟩ := hr.giveUp (h' := (w.freeze ⟨pl.blk, pl.shift + i, none⟩ s.length).heap) hn hg (fun _ _ _ => trivial) ⟨_, _, rfl⟩ hfs hfz
                    have hv := VRel.str (φ := φ) (S := S) (h := (w.freeze ⟨pl.blk, pl.shift + i, none⟩ s.length).heap) ⟨s.toArray⟩
                    have hpe : pl.shift + i * pl.esz + 0 = pl.shift + i := by rw [Place.esz, hez]; omega
                    rw [hpe]
                    exact ⟨_, φ, F, S, _, hrun, by simpa using hv, g1, ⟨g2, hfo.1, hfo.2⟩, fun _ _ => rfl⟩
                · rw [if_neg hcc] at h2; simp [M.fail] at h2
              | _ => simp [M.fail] at h2
            · rw [if_neg hc] at h; simp [M.fail] at h
        | _ => simp [hu, M.fail] at h
      | _ => simp [hu, M.fail] at h
    | _ => simp [hu, M.fail] at h
  | _ => simp [hu, M.fail] at h

end Go.Abs
