/- The domain of the abstract runs: values whose addresses are names, objects, what it means that a world bears them; and how that lasts. -/
import Derived.Test.YtkplhhkmchihlaaGreatDoorTrie
import Derived.CallsIn
import Derived.Laws.Cells
namespace Go.Abs

/-- An element's cells, and its bytes (0: of no slice's). -/
structure EZ where
  z : Nat
  by_ : Nat
  deriving DecidableEq

/-- Where an object lies: its block, its first cell, the cells of an element, how many elements are known, how many more it has room for. -/
structure Place where
  blk : Nat
  shift : Nat
  ez : EZ
  cnt : Nat
  extra : Nat

abbrev Place.esz (p : Place) : Nat := p.ez.z

inductive AV where
  | bool (b : Bool)
  | int (k : IntKind) (n : Int)
  | str (s : List UInt8)
  | ptr (n i o : Nat)
  | pel (cs : List AV)
  | nilp
  | sl (z : EZ) (n i len cap : Nat)
  | isl (z : EZ) (es : List (List AV))
  | nils
  | zsl
  | any
  | map (n : Nat)
  | nilm
  | fn (f : Fn) (first captured : List AV)
  | nilf
  | agg (cs : List AV)
  | tup (cs : List AV)
  | nili

instance : Inhabited AV := ⟨.nilp⟩

abbrev AV.undef : AV := .tup []

/-- Does it fill one cell? -/
def AV.one : AV → Bool
  | .agg _ | .tup _ | .any => false
  | _ => true

def AV.cells : AV → List AV
  | .agg cs => cs
  | v => [v]

/-- Cells `vs` stand in `c` from `off` on. -/
def Seg (c : Array Value) (off : Nat) (vs : List Value) : Prop := ∀ j, j < vs.length → c[off + j]? = vs[j]?

abbrev Names := Nat → Option Place

def capOf (pl : Place) (i cap : Nat) : Nat := if i + cap = pl.cnt then cap + pl.extra else cap

mutual
inductive VRel (φ : Names) (S : Nat → Prop) (h : Array Obj) : AV → Value → Prop
  | bool (b : Bool) : VRel φ S h (.bool b) (.bool b)
  | int (k : IntKind) (n : Int) : VRel φ S h (.int k n) (.int k n)
  | str (s : ByteArray) : VRel φ S h (.str s.data.toList) (.string s)
  | ptr {n i o : Nat} {pl : Place} (hn : φ n = some pl) : VRel φ S h (.ptr n i o) (.pointer (some ⟨pl.blk, pl.shift + i * pl.esz + o, none⟩))
  | pel {cs : List AV} {vs : List Value} {b off : Nat} {c : Array Value} {t : TypeId} {fr : Nat × Nat} (hS : S b) (hh : h[b]? = some (.cells c t fr)) (hs : Seg c off vs) (hv : VRels φ S h cs vs) : VRel φ S h (.pel cs) (.pointer (some ⟨b, off, none⟩))
  | nilp : VRel φ S h .nilp (.pointer none)
  | sl {z : EZ} {n i len cap : Nat} {pl : Place} (hn : φ n = some pl) (hz : pl.ez = z) (hl : len ≤ cap) : VRel φ S h (.sl z n i len cap) (.slice (some ⟨pl.blk, pl.shift + i * pl.esz, none⟩) len (capOf pl i cap))
  | isl {z : EZ} {es : List (List AV)} {vs : List Value} {b off cap : Nat} {c : Array Value} {t : TypeId} {fr : Nat × Nat} (hS : S b) (hh : h[b]? = some (.cells c t fr)) (hs : Seg c off vs) (hz : ∀ e ∈ es, e.length = z.z)
      (hc : es.length ≤ cap) (hb : es.length * z.by_ ≤ 281474976710656) (hv : VRels φ S h es.flatten vs) : VRel φ S h (.isl z es) (.slice (some ⟨b, off, none⟩) es.length cap)
  | islNil {z : EZ} {cap : Nat} {a : Option Addr} : VRel φ S h (.isl z []) (.slice a 0 cap)
  | nils : VRel φ S h .nils (.slice none 0 0)
  | zsl {a : Option Addr} : VRel φ S h .zsl (.slice a 0 0)
  | any (v : Value) : VRel φ S h .any v
  | map {n : Nat} {pl : Place} (hn : φ n = some pl) : VRel φ S h (.map n) (.map (some pl.blk))
  | nilm : VRel φ S h .nilm (.map none)
  | fn {f : Fn} {as bs : List AV} {xs ys : List Value} (ha : VRels φ S h as xs) (hb : VRels φ S h bs ys) : VRel φ S h (.fn f as bs) (.func f xs.toArray ys.toArray)
  | nilf : VRel φ S h .nilf .nilFunc
  | agg {cs : List AV} {vs : List Value} (hv : VRels φ S h cs vs) : VRel φ S h (.agg cs) (.agg vs.toArray)
  | tup {cs : List AV} {vs : List Value} (hv : VRels φ S h cs vs) : VRel φ S h (.tup cs) (.tuple vs.toArray)
  | nili : VRel φ S h .nili .nilIface
inductive VRels (φ : Names) (S : Nat → Prop) (h : Array Obj) : List AV → List Value → Prop
  | nil : VRels φ S h [] []
  | cons {a : AV} {v : Value} {as : List AV} {vs : List Value} (hv : VRel φ S h a v) (ht : VRels φ S h as vs) : VRels φ S h (a :: as) (v :: vs)
end

/-- The names are kept, more may have come. -/
def Ext (φ φ' : Names) : Prop := ∀ n pl, φ n = some pl → φ' n = some pl

theorem Ext.refl (φ : Names) : Ext φ φ := fun _ _ h => h
theorem Ext.trans {a b c : Names} (h : Ext a b) (k : Ext b c) : Ext a c := fun n pl hn => k n pl (h n pl hn)

/-- The sealed blocks lie as they lay. -/
def Sealed (S : Nat → Prop) (h h' : Array Obj) : Prop := ∀ b, S b → h'[b]? = h[b]?

mutual
theorem VRel.mono {φ φ' : Names} {S S' : Nat → Prop} {h h' : Array Obj} (hφ : Ext φ φ') (hS : ∀ b, S b → S' b) (hh : Sealed S h h') : ∀ {a : AV} {v : Value}, VRel φ S h a v → VRel φ' S' h' a v
  | _, _, .bool b => .bool b
  | _, _, .int k n => .int k n
  | _, _, .str s => .str s
  | _, _, .ptr hn => .ptr (hφ _ _ hn)
  | _, _, .pel hb hc hs hv => .pel (hS _ hb) ((hh _ hb).trans hc) hs (VRels.mono hφ hS hh hv)
  | _, _, .nilp => .nilp
  | _, _, .sl hn hz hl => .sl (hφ _ _ hn) hz hl
  | _, _, .isl hb hc hs hz hcap hby hv => .isl (hS _ hb) ((hh _ hb).trans hc) hs hz hcap hby (VRels.mono hφ hS hh hv)
  | _, _, .islNil => .islNil
  | _, _, .nils => .nils
  | _, _, .zsl => .zsl
  | _, _, .any v => .any v
  | _, _, .map hn => .map (hφ _ _ hn)
  | _, _, .nilm => .nilm
  | _, _, .fn ha hb => .fn (VRels.mono hφ hS hh ha) (VRels.mono hφ hS hh hb)
  | _, _, .nilf => .nilf
  | _, _, .agg hv => .agg (VRels.mono hφ hS hh hv)
  | _, _, .tup hv => .tup (VRels.mono hφ hS hh hv)
  | _, _, .nili => .nili
theorem VRels.mono {φ φ' : Names} {S S' : Nat → Prop} {h h' : Array Obj} (hφ : Ext φ φ') (hS : ∀ b, S b → S' b) (hh : Sealed S h h') : ∀ {as : List AV} {vs : List Value}, VRels φ S h as vs → VRels φ' S' h' as vs
  | _, _, .nil => .nil
  | _, _, .cons hv ht => .cons (VRel.mono hφ hS hh hv) (VRels.mono hφ hS hh ht)
end

section lists
variable {φ : Names} {S : Nat → Prop} {h : Array Obj}

theorem VRels.length : ∀ {as : List AV} {vs : List Value}, VRels φ S h as vs → as.length = vs.length
  | _, _, .nil => rfl
  | _, _, .cons _ ht => by simp [ht.length]

theorem VRels.get : ∀ {as : List AV} {vs : List Value}, VRels φ S h as vs → ∀ {j : Nat} {a : AV}, as[j]? = some a → ∃ v, vs[j]? = some v ∧ VRel φ S h a v
  | _, _, .nil, j, a, hj => by simp at hj
  | _, _, .cons hv ht, j, a, hj => by
    cases j with
    | zero => simp at hj; subst hj; exact ⟨_, by simp, hv⟩
    | succ j => simp at hj ⊢; exact ht.get hj

theorem VRels.append : ∀ {as : List AV} {vs : List Value} {bs : List AV} {us : List Value}, VRels φ S h as vs → VRels φ S h bs us → VRels φ S h (as ++ bs) (vs ++ us)
  | _, _, _, _, .nil, k => k
  | _, _, _, _, .cons hv ht, k => .cons hv (ht.append k)

theorem VRels.take : ∀ {as : List AV} {vs : List Value} (_ : VRels φ S h as vs) (n : Nat), VRels φ S h (as.take n) (vs.take n)
  | _, _, .nil, n => by simp; exact .nil
  | _, _, .cons hv ht, n => by
    cases n with
    | zero => simp; exact .nil
    | succ n => simp; exact .cons hv (ht.take n)

theorem VRels.drop : ∀ {as : List AV} {vs : List Value} (_ : VRels φ S h as vs) (n : Nat), VRels φ S h (as.drop n) (vs.drop n)
  | _, _, .nil, n => by simp; exact .nil
  | _, _, .cons hv ht, n => by
    cases n with
    | zero => exact .cons hv ht
    | succ n => simp; exact ht.drop n

theorem VRels.set : ∀ {as : List AV} {vs : List Value} (_ : VRels φ S h as vs) {a : AV} {v : Value} (_ : VRel φ S h a v) (n : Nat), VRels φ S h (as.set n a) (vs.set n v)
  | _, _, .nil, _, _, _, n => by simp; exact .nil
  | _, _, .cons hv ht, _, _, k, n => by
    cases n with
    | zero => exact .cons k ht
    | succ n => exact .cons hv (ht.set k n)

theorem VRels.replicate {a : AV} {v : Value} (hv : VRel φ S h a v) : ∀ n, VRels φ S h (List.replicate n a) (List.replicate n v)
  | 0 => .nil
  | n + 1 => .cons hv (VRels.replicate hv n)

/-- A list of values that are related splits as the list of their likes does. -/
theorem VRels.split : ∀ {as bs : List AV} {vs : List Value}, VRels φ S h (as ++ bs) vs → ∃ us ws, vs = us ++ ws ∧ VRels φ S h as us ∧ VRels φ S h bs ws
  | [], _, vs, h0 => ⟨[], vs, rfl, .nil, h0⟩
  | a :: as, bs, _, h0 => by
    cases h0 with
    | cons hv ht =>
      obtain ⟨us, ws, rfl, h1, h2⟩ := VRels.split (as := as) ht
      exact ⟨_ :: us, ws, rfl, .cons hv h1, h2⟩

theorem VRels.one {a : AV} {v : Value} (hv : VRel φ S h a v) : VRels φ S h [a] [v] := .cons hv .nil

end lists

theorem Seg.append {c : Array Value} {off : Nat} {us ws : List Value} (h : Seg c off (us ++ ws)) : Seg c off us ∧ Seg c (off + us.length) ws := by
  constructor
  · intro j hj
    rw [h j (by simp; omega), List.getElem?_append_left hj]
  · intro j hj
    have := h (us.length + j) (by simp; omega)
    rw [← Nat.add_assoc] at this
    rw [this, List.getElem?_append_right (by omega)]
    simp

theorem Seg.take {c : Array Value} {off : Nat} {vs : List Value} (h : Seg c off vs) (n : Nat) : Seg c off (vs.take n) := by
  have := h
  rw [← List.take_append_drop n vs] at this
  exact this.append.1

theorem Seg.drop {c : Array Value} {off : Nat} {vs : List Value} (h : Seg c off vs) (n : Nat) (hn : n ≤ vs.length) : Seg c (off + n) (vs.drop n) := by
  have := h
  rw [← List.take_append_drop n vs] at this
  have := this.append.2
  rwa [List.length_take, Nat.min_eq_left hn] at this

theorem Seg.size {c : Array Value} {off : Nat} {vs : List Value} (h : Seg c off vs) (h0 : vs ≠ []) : off + vs.length ≤ c.size := by
  have hl : 0 < vs.length := List.length_pos_iff.2 h0
  have := h (vs.length - 1) (by omega)
  rw [List.getElem?_eq_getElem (by omega)] at this
  obtain ⟨hlt, _⟩ := Array.getElem?_eq_some_iff.1 this
  omega

end Go.Abs
