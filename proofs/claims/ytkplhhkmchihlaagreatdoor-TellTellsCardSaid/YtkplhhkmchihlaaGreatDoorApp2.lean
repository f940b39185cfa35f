/- Append, in the abstract run; it is met, or the memory is too small. -/
import Derived.Test.YtkplhhkmchihlaaGreatDoorApp
import Derived.Room.AppendOwn
namespace Go.Abs
variable {X : Type} {R : Rep X} {P : Program} {φ : Names} {F S : Nat → Prop} {H : Heap X}

def notIntT (P : Program) (t : TypeId) : Bool :=
  match P.underlying t with
  | some (.int _) => false
  | some _ => true
  | none => false

/-- The elements that are appended, or copied. -/
def srcP (z : EZ) (x : AV) : M X (List (List AV)) :=
  match x with
  | .nils => M.pure []
  | .zsl => M.pure []
  | .isl w es => M.lift (if w = z ∨ es.length = 0 then some es else none)
  | .sl y n i len _ => (M.rdO n).bind fun o => M.lift (match o with
    | .arr _ es => if y = z ∧ i + len ≤ es.length then some ((es.drop i).take len) else none
    | _ => none)
  | .str s => M.lift (if z.z = 1 then some (s.map fun b => [AV.int .u8 b.toNat]) else none)
  | _ => M.fail

/-- Does a value name an object? -/
def AV.names (n : Nat) : AV → Bool
  | .sl _ m _ _ _ => m == n
  | _ => false

def isStr : AV → Bool
  | .str _ => true
  | _ => false

/-- A row of so many elements may be grown. -/
def fitsE (z : EZ) (need : Nat) : Bool := decide ((need + need / 4 + 1024) * z.by_ ≤ 281474976710656)

def appendP (P : Program) (t xt : TypeId) (s x : AV) : M X AV :=
  match P.underlying t with
  | some (.slice e) => match elemT P e, zeroT P e with
    | some z, some zs =>
      if zs.length = z.z ∧ 0 < z.z ∧ z.by_ ≠ 0 ∧ notIntT P xt = true then
        (srcP z x).bind fun els =>
        if oneAll els.flatten then
        match s with
        | .nils => if els.length = 0 then M.pure .nils else if fitsE z els.length then (M.new (.arr e els)).bind fun n => M.pure (.sl z n 0 els.length els.length) else M.fail
        | .zsl => if els.length = 0 then M.pure .zsl else if fitsE z els.length then (M.new (.arr e els)).bind fun n => M.pure (.sl z n 0 els.length els.length) else M.fail
        | .sl y n i len cap =>
          if els.length = 0 then M.pure (.sl y n i len cap) else
          (M.rdO n).bind fun o => match o with
            | .arr t' es =>
              if y = z ∧ i + cap ≤ es.length then
                if len + els.length ≤ cap then
                  (M.wrO n (.arr t' (splice es (i + len) els))).bind fun _ => M.pure (.sl y n i (len + els.length) cap)
                else if fitsE z (len + els.length) then
                  if i + cap = es.length then if t' ≠ e then M.fail else
                    (M.del n).bind fun _ => (M.new (.arr e ((es.drop i).take len ++ els))).bind fun m => M.pure (.sl z m 0 (len + els.length) (len + els.length))
                  else (M.new (.arr e ((es.drop i).take len ++ els))).bind fun m => M.pure (.sl z m 0 (len + els.length) (len + els.length))
                else M.fail
              else M.fail
            | _ => M.fail
        | _ => M.fail
        else M.fail
      else M.fail
    | _, _ => M.fail
  | _ => M.fail

/-- The source's own run. -/
theorem srcP_run {z : EZ} {x : AV} {b : Bool} {H' : Heap X} {c c' : Nat} {l : List (Act X)} {els : List (List AV)} (h : srcP z x b H c = some (els, H', c', l)) : H' = H ∧ c' = c := by
  unfold srcP at h
  split at h
  · obtain ⟨_, rfl, rfl⟩ := pure_some h; exact ⟨rfl, rfl⟩
  · obtain ⟨_, rfl, rfl⟩ := pure_some h; exact ⟨rfl, rfl⟩
  · obtain ⟨_, rfl, rfl⟩ := lift_some h; exact ⟨rfl, rfl⟩
  · rename_i y n i len cap
    obtain ⟨o, H1, c1, l1, l2, h1, h2⟩ := bind_some h
    obtain ⟨_, rfl, rfl⟩ := rdO_some h1
    obtain ⟨_, rfl, rfl⟩ := lift_some h2
    exact ⟨rfl, rfl⟩
  · obtain ⟨_, rfl, rfl⟩ := lift_some h; exact ⟨rfl, rfl⟩
  · simp [M.fail] at h

/-- A piece of a row's elements. -/
theorem ArrAt.piece {h : Array Obj} {t : TypeId} {es : List (List AV)} {pl : Place} (k : ArrAt φ S h t es pl) {i n : Nat} (hle : i + n ≤ es.length) :
    ∃ c fr vs, h[pl.blk]? = some (.cells c t fr) ∧ VRels φ S h ((es.drop i).take n).flatten vs ∧ Seg c (pl.shift + i * pl.esz) vs ∧ vs.length = n * pl.esz ∧ pl.shift + i * pl.esz + n * pl.esz ≤ c.size := by
  obtain ⟨hl, hw, hrm, c, fr, vs, h1, h2, h3, h4, h5⟩ := k
  have hfl := flatten_length hw
  have hvl := h2.length
  have hm : i * pl.esz + n * pl.esz ≤ es.length * pl.esz := by rw [← Nat.add_mul]; exact Nat.mul_le_mul_right _ hle
  have hm2 : es.length * pl.esz ≤ (pl.cnt + pl.extra) * pl.esz := Nat.mul_le_mul_right _ (by omega)
  have hr := (h2.drop (i * pl.esz)).take (n * pl.esz)
  rw [flatten_drop hw, flatten_take (fun x hx => hw x (List.mem_of_mem_drop hx))] at hr
  exact ⟨c, fr, _, h1, hr, (h3.drop _ (by omega)).take _, by simp; omega, by omega⟩

theorem loadCells_any {w : World} {b off : Nat} {c : Array Value} {t : TypeId} {fr : Nat × Nat} {vs : List Value} (hb : w.heap[b]? = some (.cells c t fr)) (hs : Seg c off vs) {n : Nat} (hn : vs.length = n) (w' : World) (hw : w'.heap = w.heap) :
    (loadCells ⟨b, off, none⟩ n).run P w' = .ok vs.toArray w' := by
  subst hn
  exact run_loadCells_seg (by rw [hw]; exact hb) hs

theorem Seg.nil (c : Array Value) (off : Nat) : Seg c off [] := fun j hj => by simp at hj

/-- The source, met: its length and cells; and that growing beyond all room is told, unless it is a piece of the very row. -/
theorem srcP_ok {z : EZ} {x : AV} {vx : Value} {w : World} (hr : HRel R φ F S H w.heap) (hx : VRel φ S w.heap x vx) {b : Bool} {H' : Heap X} {c c' : Nat} {l : List (Act X)} {els : List (List AV)}
    (h : srcP z x b H c = some (els, H', c', l)) (xt : TypeId) (hxt : notIntT P xt = true) (hz0 : 0 < z.z) :
    ∃ news, Src P z.z xt vx els.length news w ∧ VRels φ S w.heap els.flatten news ∧ (∀ e ∈ els, e.length = z.z) ∧ news.length = els.length * z.z ∧ (isStr x = false → els.length * z.by_ ≤ 281474976710656) ∧
      (0 < els.length → ((∃ s, vx = .string s ∧ isStr x = true) ∨ (∃ b' off cap cc t' fr, vx = .slice (some ⟨b', off, none⟩) els.length cap ∧ w.heap[b']? = some (.cells cc t' fr) ∧ off + els.length * z.z ≤ cc.size ∧
        (S b' ∨ ∃ m pl o, x.names m = true ∧ φ m = some pl ∧ pl.blk = b' ∧ H.get m = some o)))) := by
  have htyp : ∃ d, P.underlying xt = some d ∧ ∀ k, d ≠ .int k := by
    unfold notIntT at hxt
    cases hu : P.underlying xt with
    | none => simp [hu] at hxt
    | some d => exact ⟨d, rfl, fun k e => by subst e; simp [hu] at hxt⟩
  have empty : ∀ (a : Option Addr) (cp : Nat), Src P z.z xt (.slice a 0 cp) 0 [] w := fun a cp =>
    ⟨rfl, fun w' _ => by cases a <;> simp [Builtin.firstCells, loadCells, loadCellsFrom], htyp⟩
  unfold srcP at h
  split at h
  · obtain ⟨rfl, _, _⟩ := pure_some h
    cases hx
    exact ⟨[], empty _ _, by simpa using VRels.nil, by simp, by simp, by simp, by simp⟩
  · obtain ⟨rfl, _, _⟩ := pure_some h
    cases hx
    exact ⟨[], empty _ _, by simpa using VRels.nil, by simp, by simp, by simp, by simp⟩
  · rename_i wd es
    obtain ⟨h1, _, _⟩ := lift_some h
    split at h1
    · rename_i hc
      simp at h1; subst h1
      cases hx with
      | isl hS hh hs hz hcap hby hv =>
        rename_i vs b' off cap cc t' fr
        by_cases he : es.length = 0
        · have : es = [] := List.length_eq_zero_iff.1 he
          subst this
          exact ⟨[], empty _ _, by simpa using VRels.nil, by simp, by simp, by simp, by simp⟩
        · have hwz : wd = z := hc.resolve_right he
          subst hwz
          have hl := hv.length
          rw [flatten_length hz] at hl
          refine ⟨vs, ⟨rfl, fun w' hw' => ?_, htyp⟩, hv, hz, hl.symm, fun _ => hby, fun hpos => .inr ⟨b', off, cap, cc, t', fr, rfl, hh, ?_, .inl hS⟩⟩
          · simp only [Builtin.firstCells]
            exact loadCells_any hh hs hl.symm w' hw'
          · rw [hl]; exact hs.size (by intro e; rw [e] at hl; simp only [List.length_nil] at hl; have := Nat.mul_pos (Nat.pos_of_ne_zero he) hz0; omega)
      | islNil => exact ⟨[], empty _ _, by simpa using VRels.nil, by simp, by simp, by simp, by simp⟩
    · cases h1
  · rename_i y n i len cap
    obtain ⟨o, H1, c1, l1, l2, h1, h2⟩ := bind_some h
    obtain ⟨hg, rfl, rfl⟩ := rdO_some h1
    obtain ⟨h3, _, _⟩ := lift_some h2
    cases o with
    | arr t' es =>
        simp only at h3
        by_cases hc : y = z ∧ i + len ≤ es.length
        · rw [if_pos hc] at h3
          simp at h3
          subst h3
          obtain ⟨rfl, hle⟩ := hc
          cases hx with
          | sl hn hy hlc =>
            rename_i pl
            obtain ⟨pl', hpl, hat, hF, hlt⟩ := hr.arrAt hg
            rw [hn] at hpl; cases hpl
            obtain ⟨cc, fr, vs, h1, h2, h3, h4, h5⟩ := hat.piece hle
            have hlen : ((es.drop i).take len).length = len := by simp; omega
            rw [Place.esz, hy] at h4 h5
            refine ⟨vs, ⟨by rw [hlen]; rfl, fun w' hw' => ?_, htyp⟩, h2, ?_, by rw [hlen]; exact h4, fun _ => ?_, fun hpos => .inr ⟨pl.blk, _, _, cc, t', fr, by rw [hlen], h1, ?_, .inr ⟨n, pl, _, by simp [AV.names], hn, rfl, hg⟩⟩⟩
            · simp only [Builtin.firstCells]
              exact loadCells_any h1 h3 (by rw [hlen]; exact h4) w' hw'
            · intro e he
              rw [← hy]
              exact hat.wide e (List.mem_of_mem_drop (List.mem_of_mem_take he))
            · rw [hlen]
              have h6 := hat.room
              rw [hy] at h6
              have h7 := hat.len
              exact Nat.le_trans (Nat.mul_le_mul_right _ (by omega)) h6
            · rw [hlen]; rw [Place.esz, hy]; exact h5
        · rw [if_neg hc] at h3; cases h3
    | _ => cases h3
  · rename_i s
    obtain ⟨h1, _, _⟩ := lift_some h
    split at h1
    · rename_i hz1
      simp at h1; subst h1
      rw [hz1]
      cases hx with
      | str s =>
        have hsz : s.data.toList.length = s.size := by rw [Array.length_toList]; rfl
        refine ⟨s.data.toList.map fun b => .int .u8 b.toNat, ⟨?_, fun w' _ => ?_, htyp⟩, ?_, ?_, ?_, by simp [isStr], fun _ => .inl ⟨s, rfl, rfl⟩⟩
        · show Sem.pure s.size = Sem.pure _
          rw [List.length_map, hsz]
        · simp only [Builtin.firstCells, List.length_map, hsz]
          have : (s.extract 0 s.size) = s := by
            apply ByteArray.ext
            rw [ByteArray.data_extract]
            show s.data.extract 0 s.data.size = s.data
            simp
          rw [this]
          simp only [Sem.run_pure]
          congr 1
          apply Array.ext'
          simp
        · generalize s.data.toList = bs
          induction bs with
          | nil => simpa using VRels.nil
          | cons b bs ih => simpa using VRels.cons (.int .u8 (b.toNat : Int)) ih
        · intro e he
          simp at he
          obtain ⟨a, _, rfl⟩ := he; rfl
        · simp
    · cases h1
  · simp [M.fail] at h

end Go.Abs
