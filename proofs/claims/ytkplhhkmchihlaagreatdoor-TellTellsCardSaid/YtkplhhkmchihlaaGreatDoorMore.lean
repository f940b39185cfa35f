/- More operations: pointers that go through unsafe.Pointer, rows that are made, copied, and read as strings. -/
import Derived.Test.YtkplhhkmchihlaaGreatDoorMap2
import Derived.Test.YtkplhhkmchihlaaGreatDoorApp3
import Derived.Lib.Builder
import Derived.Lib.UnsafeStr
import Derived.Laws.MakeOwn
namespace Go.Abs
variable {X : Type} {R : Rep X} {P : Program} {φ : Names} {F S : Nat → Prop} {H : Heap X}

def goI (n : Nat) : AV := .int .i64 n

/-- Bytes of elements. -/
def bytesOf : List (List AV) → Option (List UInt8)
  | [] => some []
  | [.int .u8 x] :: r => (bytesOf r).map (x.toNat.toUInt8 :: ·)
  | _ => none

/-- A pointer to unsafe.Pointer, and back. -/
def convPtrP (P : Program) (src dst : TypeId) (n i o : Nat) : M X AV :=
  match P.underlying src, P.underlying dst with
  | some (.pointer t), some .unsafePointer => match sizeT P t with
    | some z => if z ≠ 0 then (M.rdC n i o 1).bind fun _ => M.pure (.ptr n i o) else M.fail
    | none => M.fail
  | some .unsafePointer, some (.pointer u) => match sizeT P u with
    | some z => if z ≠ 0 ∧ o = 0 then (M.rdO n).bind fun (ob : AObj X) => match ob with
        | .arr t es => if t = u ∧ (es[i]?).map List.length = some z then M.pure (.ptr n i o) else M.fail
        | _ => M.fail
      else M.fail
    | none => M.fail
  | _, _ => M.fail

def isByteT (P : Program) (t : TypeId) : Bool :=
  match P.underlying t with
  | some (.int .u8) => true
  | _ => false

/-- Bytes as a string. -/
def bytesStrP (P : Program) (src dst : TypeId) (y : EZ) (x : AV) : M X AV :=
  match P.underlying src, P.underlying dst with
  | some (.slice e), some .string => if isByteT P e = true ∧ y.z = 1 then
      (srcP y x).bind fun els => M.lift ((bytesOf els).map .str)
    else M.fail
  | _, _ => M.fail

def convertP (P : Program) (src dst : TypeId) (x : AV) : M X AV :=
  match x with
  | .ptr n i o => convPtrP P src dst n i o
  | .sl y n i l k => bytesStrP P src dst y (.sl y n i l k)
  | .isl y es => bytesStrP P src dst y (.isl y es)
  | .nils => bytesStrP P src dst ⟨1, 1⟩ .nils
  | x => M.lift (convV P src dst (some x))

def makeP (P : Program) (t : TypeId) (l c : AV) : M X AV :=
  match P.underlying t, l, c with
  | some (.slice e), .int _ a, .int _ b => match elemT P e, zeroT P e with
    | some z, some zs => if zs.length = z.z ∧ 0 ≤ a ∧ a ≤ b ∧ b.toNat * z.by_ ≤ 281474976710656 ∧ b ≤ 9223372036854775807 then
        (M.new (.arr e (List.replicate b.toNat zs))).bind fun n => M.pure (.sl z n 0 a.toNat b.toNat)
      else M.fail
    | _, _ => M.fail
  | _, _, _ => M.fail

def copyP (P : Program) (t xt : TypeId) (d s : AV) : M X AV :=
  match P.underlying t with
  | some (.slice e) => match elemT P e with
    | some z => if 0 < z.z ∧ notIntT P xt = true then
        (srcP z s).bind fun els => match d with
        | .nils => M.pure (goI 0)
        | .zsl => M.pure (goI 0)
        | .isl _ [] => M.pure (goI 0)
        | .sl y n i len _ =>
          if min els.length len = 0 then M.pure (goI 0) else
          if y = z ∧ oneAll (els.take (min els.length len)).flatten = true then
            (M.rdO n).bind fun (o : AObj X) => match o with
            | .arr t' es => if i + len ≤ es.length then
                (M.wrO n (.arr t' (splice es i (els.take (min els.length len))))).bind fun _ => M.pure (goI (min els.length len))
              else M.fail
            | _ => M.fail
          else M.fail
        | _ => M.fail
      else M.fail
    | none => M.fail
  | _ => M.fail

def dataP (x : AV) : Option AV :=
  match x with
  | .nils => some .nilp
  | .sl _ n i _ cap => if cap ≠ 0 then some (.ptr n i 0) else none
  | _ => none

def unsafeStrP (P : Program) (pt : TypeId) (p l : AV) : M X AV :=
  match P.underlying pt with
  | some (.pointer e) => match l with
    | .int .i64 k => match p with
      | .nilp => if k = 0 then M.pure (.str []) else M.fail
      | .ptr n i o =>
        if k = 0 then M.pure (.str []) else
        if sizeT P e = some 1 ∧ 0 < k ∧ k ≤ 9223372036854775807 ∧ o = 0 then
          (M.rdO n).bind fun (ob : AObj X) => match ob with
          | .arr t es => if t = e ∧ i + k.toNat ≤ es.length then match bytesOf ((es.drop i).take k.toNat) with
              | some s => (M.del n).bind fun _ => M.pure (.str s)
              | none => M.fail
            else M.fail
          | _ => M.fail
        else M.fail
      | _ => M.fail
    | _ => M.fail
  | _ => M.fail

theorem good_convPtr (P : Program) (src dst : TypeId) (n i o : Nat) : Good (convPtrP P src dst n i o : M X AV) := by
  unfold convPtrP
  repeat' (first
    | exact Good.pure _ | exact Good.fail | exact Good.lift _ | exact Good.rdC _ _ _ _ | exact Good.rdO _ | exact Good.wrC _ _ _ _ | exact Good.wrO _ _ | exact Good.new _ | exact Good.del _
    | refine Good.bind ?_ (fun _ => ?_) | split)

theorem good_src' (z : EZ) (x : AV) : Good (srcP z x : M X (List (List AV))) := by
  unfold srcP
  repeat' (first
    | exact Good.pure _ | exact Good.fail | exact Good.lift _ | exact Good.rdC _ _ _ _ | exact Good.rdO _ | exact Good.wrC _ _ _ _ | exact Good.wrO _ _ | exact Good.new _ | exact Good.del _
    | refine Good.bind ?_ (fun _ => ?_) | split)

theorem good_bytesStr (P : Program) (src dst : TypeId) (y : EZ) (x : AV) : Good (bytesStrP P src dst y x : M X AV) := by
  unfold bytesStrP
  repeat' (first
    | exact good_src' _ _ | exact Good.pure _ | exact Good.fail | exact Good.lift _ | refine Good.bind ?_ (fun _ => ?_) | split)

theorem good_convert (P : Program) (src dst : TypeId) (x : AV) : Good (convertP P src dst x : M X AV) := by
  unfold convertP
  split
  · exact good_convPtr _ _ _ _ _ _
  · exact good_bytesStr _ _ _ _ _
  · exact good_bytesStr _ _ _ _ _
  · exact good_bytesStr _ _ _ _ _
  · exact Good.lift _

theorem good_make (P : Program) (t : TypeId) (l c : AV) : Good (makeP P t l c : M X AV) := by
  unfold makeP
  repeat' (first
    | exact Good.pure _ | exact Good.fail | exact Good.lift _ | exact Good.new _ | refine Good.bind ?_ (fun _ => ?_) | split)

theorem good_copy (P : Program) (t xt : TypeId) (d s : AV) : Good (copyP P t xt d s : M X AV) := by
  unfold copyP
  repeat' (first
    | exact good_src' _ _ | exact Good.pure _ | exact Good.fail | exact Good.lift _ | exact Good.rdO _ | exact Good.wrO _ _ | refine Good.bind ?_ (fun _ => ?_) | split)

theorem good_unsafeStr (P : Program) (pt : TypeId) (p l : AV) : Good (unsafeStrP P pt p l : M X AV) := by
  unfold unsafeStrP
  repeat' (first
    | exact Good.pure _ | exact Good.fail | exact Good.lift _ | exact Good.rdO _ | exact Good.del _ | refine Good.bind ?_ (fun _ => ?_) | split)

/-! ### Met -/

theorem rdC_some {n i o k : Nat} {b : Bool} {H' : Heap X} {c c' : Nat} {l : List (Act X)} {r : List AV} (h : M.rdC n i o k b H c = some (r, H', c', l)) : readC H n i o k = some r ∧ H' = H ∧ c' = c := by
  simp only [M.rdC] at h
  cases hr : readC H n i o k with
  | none => simp [hr] at h
  | some r' => simp [hr] at h; obtain ⟨rfl, rfl, rfl, _⟩ := h; exact ⟨rfl, rfl, rfl⟩

theorem size_info {t : TypeId} {z : Nat} (h : sizeT P t = some z) : ∃ j, P.info? t = some j ∧ j.size = z := by
  unfold sizeT at h
  cases hi : P.info? t with
  | none => simp [hi] at h
  | some j => simp [hi] at h; exact ⟨j, rfl, h⟩

theorem lies_elem {e : TypeId} {z count off : Nat} (hz : P.cellsOf e = z) (h0 : z ≠ 0) (hr : off % z = 0) (n : Nat) (hn : off / z + n ≤ count) : liesAt P P.depth e count off e n = true := by
  have hd : P.depth = (2 * (P.types.size + Made.depth) + 1) + 1 := rfl
  rw [hd]
  simp only [liesAt, Bool.or_eq_true]
  left
  rw [hd]
  simp [rowAt, hz, h0, hr, hn, sameLayout]

theorem convPtrP_ok {src dst : TypeId} {n i o : Nat} {v : AV} {vx : Value} {w : World} (hr : HRel R φ F S H w.heap) (hx : VRel φ S w.heap (.ptr n i o) vx) {b : Bool} {H' : Heap X} {c c' : Nat} {l : List (Act X)}
    (h : convPtrP P src dst n i o b H c = some (v, H', c', l)) : SemOK R P φ F S w c c' (convert src dst vx) v H' := by
  cases hx with
  | ptr hn =>
  rename_i pl
  unfold convPtrP at h
  cases hs : P.underlying src with
  | none => simp [hs, M.fail] at h
  | some ds =>
    cases hd : P.underlying dst with
    | none => cases ds <;> simp [hs, hd, M.fail] at h
    | some dd =>
      cases ds with
      | pointer t =>
        cases dd with
        | unsafePointer =>
          simp only [hs, hd] at h
          cases hz : sizeT P t with
          | none => simp [hz, M.fail] at h
          | some z =>
            simp only [hz] at h
            by_cases h0 : z ≠ 0
            · rw [if_pos h0] at h
              obtain ⟨r, H1, c1, l1, l2, h1, h2⟩ := bind_some h
              obtain ⟨h3, rfl, rfl⟩ := rdC_some h1
              obtain ⟨rfl, rfl, rfl⟩ := pure_some h2
              obtain ⟨t', es, e, hg, he, hle, _⟩ := readC_some.1 h3
              obtain ⟨pl', hpl, hat, hF, hlt⟩ := hr.arrAt hg
              rw [hn] at hpl; cases hpl
              obtain ⟨cc, fr, vs, q1, q2, q3, q4, q5⟩ := hat.read he o 1 hle
              obtain ⟨j, hj, hjz⟩ := size_info hz
              refine SemOK.pure hr (v' := .pointer (some ⟨pl.blk, pl.shift + i * pl.esz + o, none⟩)) ?_ (.ptr hn)
              exact Lib.run_to_unsafe w _ hs hd hj (by rw [hjz]; exact h0) (cells := cc.size) (e := t') (by simp [World.shape?, q1]) (by dsimp only; omega)
            · rw [if_neg h0] at h; simp [M.fail] at h
        | _ => simp [hs, hd, M.fail] at h
      | unsafePointer =>
        cases dd with
        | pointer u =>
          simp only [hs, hd] at h
          cases hz : sizeT P u with
          | none => simp [hz, M.fail] at h
          | some z =>
            simp only [hz] at h
            by_cases h0 : z ≠ 0 ∧ o = 0
            · rw [if_pos h0] at h
              obtain ⟨ob, H1, c1, l1, l2, h1, h2⟩ := bind_some h
              obtain ⟨hg, rfl, rfl⟩ := rdO_some h1
              cases ob with
              | arr t es =>
                simp only at h2
                by_cases hc : t = u ∧ (es[i]?).map List.length = some z
                · rw [if_pos hc] at h2
                  obtain ⟨rfl, rfl, rfl⟩ := pure_some h2
                  obtain ⟨rfl, hlen⟩ := hc
                  obtain ⟨hz0, rfl⟩ := h0
                  obtain ⟨e, he, hel⟩ := Option.map_eq_some_iff.1 hlen
                  obtain ⟨pl', hpl, hat, hF, hlt⟩ := hr.arrAt hg
                  rw [hn] at hpl; cases hpl
                  obtain ⟨j, hj, hjz⟩ := size_info hz
                  have hco : P.cellsOf t = z := by simp [Program.cellsOf, hj, hjz]
                  have hez : pl.ez.z = z := by rw [← hel]; exact (hat.wide e (List.mem_of_getElem? he)).symm
                  obtain ⟨hlti, _⟩ := List.getElem?_eq_some_iff.1 he
                  obtain ⟨cc, fr, vs, q1, q2, q3, q4, q5⟩ := hat.lies
                  refine SemOK.pure hr (v' := .pointer (some ⟨pl.blk, pl.shift + i * pl.esz + 0, none⟩)) ?_ (.ptr hn)
                  refine Lib.run_from_unsafe w _ hs hd hj (cells := cc.size) (e := t) (by simp [World.shape?, q1]) ?_
                  have hdvd : z ∣ pl.shift := Nat.dvd_of_mod_eq_zero (by rw [← hez]; exact hat.fit.2)
                  obtain ⟨q, hq⟩ := hdvd
                  have hoff : pl.shift + i * pl.esz + 0 = z * (q + i) := by rw [Place.esz, hez, hq, Nat.mul_add, Nat.mul_comm i z]; rfl
                  refine lies_elem hco hz0 (by dsimp only; rw [hoff]; exact Nat.mul_mod_right _ _) 1 ?_
                  dsimp only
                  rw [hoff, Nat.mul_div_cancel_left _ (Nat.pos_of_ne_zero hz0), hco]
                  rw [Nat.le_div_iff_mul_le (Nat.pos_of_ne_zero hz0)]
                  have hl := hat.len
                  have e1 : (q + i + 1) * z ≤ q * z + (pl.cnt + pl.extra) * z := by rw [← Nat.add_mul]; exact Nat.mul_le_mul_right _ (by omega)
                  rw [Place.esz, hez, hq, Nat.mul_comm z q] at q4
                  omega
                · rw [if_neg hc] at h2; simp [M.fail] at h2
              | _ => simp [M.fail] at h2
            · rw [if_neg h0] at h; simp [M.fail] at h
        | _ => simp [hs, hd, M.fail] at h
      | _ => simp [hs, hd, M.fail] at h

/-- The source's first elements. -/
theorem srcP_first {z : EZ} {x : AV} {vx : Value} {w : World} (hr : HRel R φ F S H w.heap) (hx : VRel φ S w.heap x vx) {b : Bool} {H' : Heap X} {c c' : Nat} {l : List (Act X)} {els : List (List AV)}
    (h : srcP z x b H c = some (els, H', c', l)) (hz0 : 0 < z.z) :
    ∃ news, VRels φ S w.heap els.flatten news ∧ (∀ e ∈ els, e.length = z.z) ∧ Builtin.lenOf vx = Sem.pure els.length ∧
      (∀ k, k ≤ els.length → (Builtin.firstCells z.z k vx).run P w = .ok (news.take (k * z.z)).toArray w) := by
  have empty : ∀ (a : Option Addr) (cp : Nat), VRels φ S w.heap ([] : List (List AV)).flatten [] ∧ (∀ e ∈ ([] : List (List AV)), e.length = z.z) ∧ Builtin.lenOf (.slice a 0 cp) = Sem.pure ([] : List (List AV)).length ∧
      (∀ k, k ≤ ([] : List (List AV)).length → (Builtin.firstCells z.z k (.slice a 0 cp)).run P w = .ok (([] : List Value).take (k * z.z)).toArray w) := fun a cp =>
    ⟨by simpa using VRels.nil, by simp, rfl, fun k hk => by
      have : k = 0 := by simpa using hk
      subst this
      cases a <;> simp [Builtin.firstCells, loadCells, loadCellsFrom]⟩
  have seg : ∀ {b' off : Nat} {cc : Array Value} {t' : TypeId} {fr : Nat × Nat} {vs : List Value} {es : List (List AV)}, w.heap[b']? = some (.cells cc t' fr) → Seg cc off vs → vs.length = es.length * z.z → ∀ cap k, k ≤ es.length →
      (Builtin.firstCells z.z k (.slice (some ⟨b', off, none⟩) es.length cap)).run P w = .ok (vs.take (k * z.z)).toArray w := by
    intro b' off cc t' fr vs es h1 h2 h3 cap k hk
    have hm : k * z.z ≤ es.length * z.z := Nat.mul_le_mul_right _ hk
    have := run_loadCells_seg (P := P) h1 (h2.take (k * z.z))
    rw [List.length_take, Nat.min_eq_left (by omega)] at this
    exact this
  unfold srcP at h
  split at h
  · obtain ⟨rfl, _, _⟩ := pure_some h
    cases hx
    exact ⟨[], empty _ _⟩
  · obtain ⟨rfl, _, _⟩ := pure_some h
    cases hx
    exact ⟨[], empty _ _⟩
  · rename_i wd es
    obtain ⟨h1, _, _⟩ := lift_some h
    split at h1
    · rename_i hc
      simp at h1; subst h1
      cases hx with
      | isl hS hh hs hz hcap hby hv =>
        rename_i vs b' off cap cc t' fr
        by_cases he : es.length = 0
        · have : es = [] := List.length_eq_zero_iff.1 he
          subst this
          exact ⟨[], empty _ _⟩
        · have hwz : wd = z := hc.resolve_right he
          subst hwz
          have hl := hv.length
          rw [flatten_length hz] at hl
          exact ⟨vs, hv, hz, rfl, seg hh hs hl.symm cap⟩
      | islNil => exact ⟨[], empty _ _⟩
    · cases h1
  · rename_i y n i len cap
    obtain ⟨o, H1, c1, l1, l2, h1, h2⟩ := bind_some h
    obtain ⟨hg, rfl, rfl⟩ := rdO_some h1
    obtain ⟨h3, _, _⟩ := lift_some h2
    cases o with
    | arr t' es =>
        simp only at h3
        by_cases hc : y = z ∧ i + len ≤ es.length
        · rw [if_pos hc] at h3
          simp at h3
          subst h3
          obtain ⟨rfl, hle⟩ := hc
          cases hx with
          | sl hn hy hlc =>
            rename_i pl
            obtain ⟨pl', hpl, hat, hF, hlt⟩ := hr.arrAt hg
            rw [hn] at hpl; cases hpl
            obtain ⟨cc, fr, vs, h1, h2, h3, h4, h5⟩ := hat.piece hle
            have hlen : ((es.drop i).take len).length = len := by simp; omega
            rw [Place.esz, hy] at h4 h5
            refine ⟨vs, h2, ?_, by rw [hlen]; rfl, ?_⟩
            · intro e he
              rw [← hy]
              exact hat.wide e (List.mem_of_mem_drop (List.mem_of_mem_take he))
            · have := seg (es := (es.drop i).take len) h1 h3 (by rw [hlen]; exact h4) (capOf pl i cap)
              rw [hlen] at this ⊢
              exact this
        · rw [if_neg hc] at h3; cases h3
    | _ => cases h3
  · rename_i s
    obtain ⟨h1, _, _⟩ := lift_some h
    split at h1
    · rename_i hz1
      simp at h1; subst h1
      rw [hz1]
      cases hx with
      | str s =>
        have hsz : s.data.toList.length = s.size := by rw [Array.length_toList]; rfl
        refine ⟨s.data.toList.map fun b => .int .u8 b.toNat, ?_, ?_, ?_, fun k hk => ?_⟩
        · generalize s.data.toList = bs
          induction bs with
          | nil => simpa using VRels.nil
          | cons b bs ih => simpa using VRels.cons (.int .u8 (b.toNat : Int)) ih
        · intro e he
          simp at he
          obtain ⟨a, _, rfl⟩ := he; rfl
        · show Sem.pure s.size = Sem.pure _
          rw [List.length_map, hsz]
        · simp only [Builtin.firstCells, Sem.run_pure, Nat.mul_one]
          congr 1
          apply Array.ext'
          rw [ByteArray.data_extract]
          simp
    · cases h1
  · simp [M.fail] at h

theorem bytesOf_rel {h : Array Obj} : ∀ {els : List (List AV)} {s : List UInt8} {vs : List Value}, bytesOf els = some s → VRels φ S h els.flatten vs → ∃ xs : List Int, vs = xs.map (Value.int .u8 ·) ∧ s = xs.map fun x => x.toNat.toUInt8
  | [], s, vs, hb, hv => by
    simp [bytesOf] at hb; subst hb
    cases hv
    exact ⟨[], rfl, rfl⟩
  | e :: r, s, vs, hb, hv => by
    unfold bytesOf at hb
    split at hb
    · rename_i e1; cases e1
    · rename_i x r' e1
      cases e1
      cases hr : bytesOf r with
      | none => simp [hr] at hb
      | some s' =>
        simp [hr] at hb; subst hb
        simp only [List.flatten_cons, List.singleton_append] at hv
        cases hv with
        | cons hv ht =>
          cases hv
          obtain ⟨xs, rfl, rfl⟩ := bytesOf_rel hr ht
          exact ⟨x :: xs, rfl, rfl⟩
    · cases hb

end Go.Abs
