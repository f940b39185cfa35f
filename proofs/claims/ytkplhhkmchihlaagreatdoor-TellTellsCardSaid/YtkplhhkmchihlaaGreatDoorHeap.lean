/- Abstract heaps: objects under names; what it means that a heap of the model bears one; reading, writing, laying, dropping. -/
import Derived.Test.YtkplhhkmchihlaaGreatDoorDom
namespace Go.Abs

structure ALoop where
  state : LoopState
  pending : Option Code
  fn : FuncId
  tmps : List AV
  params : Array Tmp
  assign : Code
  body : Code
  defers : Nat

inductive AObj (X : Type) where
  | arr (t : TypeId) (es : List (List AV))
  | map (es : List (AV × AV))
  | loop (r : ALoop)
  | defs
  | adt (x : X)

/-- How an object of a package lies in a heap: its root block, its blocks, the sealed blocks that it may lean on. -/
structure Rep (X : Type) where
  R : X → Nat → Array Obj → (Nat → Prop) → (Nat → Prop) → Prop
  root : ∀ {x b h F S}, R x b h F S → F b
  live : ∀ {x b h F S}, R x b h F S → ∀ c, F c → c < h.size
  mono : ∀ {x b h F S h' S'}, R x b h F S → (∀ c, F c → h'[c]? = h[c]?) → (∀ c, S c → h'[c]? = h[c]?) → (∀ c, S c → S' c) → R x b h' F S'

abbrev Heap (X : Type) := T (AObj X)

variable {X : Type}

def flatPairs (es : List (AV × AV)) : List AV := es.flatMap fun p => [p.1, p.2]
def flatEntries (es : List MapEntry) : List Value := es.flatMap fun e => [e.key, e.val]

/-- A row of cells that is whole and not frozen. -/
structure ArrAt (φ : Names) (S : Nat → Prop) (h : Array Obj) (t : TypeId) (es : List (List AV)) (pl : Place) : Prop where
  len : es.length = pl.cnt
  wide : ∀ e ∈ es, e.length = pl.esz
  fit : pl.cnt * pl.ez.by_ ≤ 281474976710656 ∧ pl.shift % pl.ez.z = 0
  lies : ∃ c fr vs, h[pl.blk]? = some (.cells c t fr) ∧ VRels φ S h es.flatten vs ∧ Seg c pl.shift vs ∧ pl.shift + (pl.cnt + pl.extra) * pl.esz ≤ c.size ∧
    (∀ off, pl.shift ≤ off → off < pl.shift + (pl.cnt + pl.extra) * pl.esz → (decide (fr.1 ≤ off) && decide (off < fr.2)) = false)

theorem ArrAt.room {φ : Names} {S : Nat → Prop} {h : Array Obj} {t : TypeId} {es : List (List AV)} {pl : Place} (k : ArrAt φ S h t es pl) : pl.cnt * pl.ez.by_ ≤ 281474976710656 := k.fit.1

def ORel (R : Rep X) (φ : Names) (S : Nat → Prop) (h : Array Obj) : AObj X → Place → (Nat → Prop) → Prop
  | .arr t es, pl, fp => fp pl.blk ∧ (∀ b, fp b → b = pl.blk) ∧ ArrAt φ S h t es pl
  | .map es, pl, fp => fp pl.blk ∧ (∀ b, fp b → b = pl.blk) ∧ ∃ es' clk, h[pl.blk]? = some (.map es' clk) ∧ VRels φ S h (flatPairs es) (flatEntries es'.toList) ∧
      (es'.toList.map (·.born)).Pairwise (· < ·) ∧ ∀ e ∈ es'.toList, e.born < clk
  | .loop r, pl, fp => fp pl.blk ∧ (∀ b, fp b → b = pl.blk) ∧ ∃ ts d, h[pl.blk]? = some (.loop { state := r.state, pending := r.pending, fn := r.fn, tmps := ts, params := r.params, assign := r.assign, body := r.body, defers := d }) ∧
      VRels φ S h r.tmps ts.toList ∧ (φ r.defers).map (·.blk) = some d
  | .defs, pl, fp => fp pl.blk ∧ (∀ b, fp b → b = pl.blk) ∧ h[pl.blk]? = some (.deferred (some []))
  | .adt x, pl, fp => pl.shift = 0 ∧ R.R x pl.blk h fp S

structure HRelF (R : Rep X) (φ : Names) (F S : Nat → Prop) (H : Heap X) (h : Array Obj) (fp : Nat → Nat → Prop) : Prop where
  obj : ∀ n o, H.get n = some o → ∃ pl, φ n = some pl ∧ ORel R φ S h o pl (fp n)
  apart : ∀ n m o o', H.get n = some o → H.get m = some o' → n ≠ m → ∀ b, fp n b → fp m b → False
  inF : ∀ n o b, H.get n = some o → fp n b → F b
  liveF : ∀ b, F b → b < h.size
  liveS : ∀ b, S b → b < h.size
  disj : ∀ b, F b → S b → False

def HRel (R : Rep X) (φ : Names) (F S : Nat → Prop) (H : Heap X) (h : Array Obj) : Prop := ∃ fp, HRelF R φ F S H h fp

theorem ORel.root {R : Rep X} {φ : Names} {S : Nat → Prop} {h : Array Obj} {o : AObj X} {pl : Place} {fp : Nat → Prop} (k : ORel R φ S h o pl fp) : fp pl.blk := by
  cases o with
  | arr t es => exact k.1
  | map es => exact k.1
  | loop r => exact k.1
  | defs => exact k.1
  | adt x => exact R.root k.2

theorem ArrAt.mono {φ φ' : Names} {S S' : Nat → Prop} {h h' : Array Obj} {t : TypeId} {es : List (List AV)} {pl : Place} (k : ArrAt φ S h t es pl) (hφ : Ext φ φ') (hS : ∀ b, S b → S' b)
    (hh : Sealed S h h') (hb : h'[pl.blk]? = h[pl.blk]?) : ArrAt φ' S' h' t es pl := by
  obtain ⟨hl, hw, hrm, c, fr, vs, h1, h2, h3, h4, h5⟩ := k
  exact ⟨hl, hw, hrm, c, fr, vs, by rw [hb]; exact h1, h2.mono hφ hS hh, h3, h4, h5⟩

/-- An object lasts where its own blocks, and the sealed ones, last. -/
theorem ORel.mono {R : Rep X} {φ φ' : Names} {S S' : Nat → Prop} {h h' : Array Obj} {o : AObj X} {pl : Place} {fp : Nat → Prop} (k : ORel R φ S h o pl fp) (hφ : Ext φ φ') (hS : ∀ b, S b → S' b)
    (hh : Sealed S h h') (hb : ∀ b, fp b → h'[b]? = h[b]?) : ORel R φ' S' h' o pl fp := by
  have hroot := hb _ k.root
  cases o with
  | arr t es => exact ⟨k.1, k.2.1, k.2.2.mono hφ hS hh hroot⟩
  | map es =>
    obtain ⟨h1, h2, es', clk, h3, h4, h5⟩ := k
    exact ⟨h1, h2, es', clk, by rw [hroot]; exact h3, h4.mono hφ hS hh, h5⟩
  | loop r =>
    obtain ⟨h1, h2, ts, d, h3, h4, h5⟩ := k
    refine ⟨h1, h2, ts, d, by rw [hroot]; exact h3, h4.mono hφ hS hh, ?_⟩
    cases hd : φ r.defers with
    | none => rw [hd] at h5; cases h5
    | some p => rw [hφ _ _ hd]; rw [hd] at h5; exact h5
  | defs => exact ⟨k.1, k.2.1, by rw [hroot]; exact k.2.2⟩
  | adt x => exact ⟨k.1, R.mono k.2 hb hh hS⟩

/-- What an abstract run may have done to the heap of the model: of what lay outside F nothing turned; what is owned or sealed behind it lay in F, or is new. -/
structure Step (φ : Names) (F S : Nat → Prop) (h : Array Obj) (φ' : Names) (F' S' : Nat → Prop) (h' : Array Obj) : Prop where
  ext : Ext φ φ'
  size : h.size ≤ h'.size
  keep : ∀ b, b < h.size → ¬ F b → h'[b]? = h[b]?
  ownF : ∀ b, F' b → F b ∨ h.size ≤ b
  ownS : ∀ b, S' b → S b ∨ F b ∨ h.size ≤ b
  grow : ∀ b, S b → S' b

theorem Step.refl {φ : Names} {F S : Nat → Prop} {h : Array Obj} : Step φ F S h φ F S h :=
  ⟨Ext.refl _, Nat.le_refl _, fun _ _ _ => rfl, fun _ h => .inl h, fun _ h => .inl h, fun _ h => h⟩

theorem Step.trans {φ φ1 φ2 : Names} {F S F1 S1 F2 S2 : Nat → Prop} {h h1 h2 : Array Obj} (a : Step φ F S h φ1 F1 S1 h1) (b : Step φ1 F1 S1 h1 φ2 F2 S2 h2) : Step φ F S h φ2 F2 S2 h2 := by
  refine ⟨a.ext.trans b.ext, Nat.le_trans a.size b.size, fun c hc hF => ?_, fun c hc => ?_, fun c hc => ?_, fun c hc => b.grow c (a.grow c hc)⟩
  · rw [b.keep c (Nat.lt_of_lt_of_le hc a.size) (fun hf => (a.ownF c hf).elim hF (by omega)), a.keep c hc hF]
  · rcases b.ownF c hc with k | k
    · exact a.ownF c k
    · exact .inr (Nat.le_trans a.size k)
  · rcases b.ownS c hc with k | k | k
    · exact a.ownS c k
    · exact (a.ownF c k).elim (fun k => .inr (.inl k)) (fun k => .inr (.inr k))
    · exact .inr (.inr (Nat.le_trans a.size k))

/-- The same of worlds: what is outside of the heap is as it was. -/
structure WStep (φ : Names) (F S : Nat → Prop) (w : World) (φ' : Names) (F' S' : Nat → Prop) (w' : World) : Prop where
  st : Step φ F S w.heap φ' F' S' w'.heap
  os : w'.os = w.os
  out : w'.output = w.output

theorem WStep.refl {φ : Names} {F S : Nat → Prop} {w : World} : WStep φ F S w φ F S w := ⟨Step.refl, rfl, rfl⟩

theorem WStep.trans {φ φ1 φ2 : Names} {F S F1 S1 F2 S2 : Nat → Prop} {w w1 w2 : World} (a : WStep φ F S w φ1 F1 S1 w1) (b : WStep φ1 F1 S1 w1 φ2 F2 S2 w2) : WStep φ F S w φ2 F2 S2 w2 :=
  ⟨a.st.trans b.st, b.os.trans a.os, b.out.trans a.out⟩

theorem Step.here {φ φ' : Names} {F S F' S' : Nat → Prop} {w : World} {h' : Array Obj} (k : Step φ F S w.heap φ' F' S' h') : WStep φ F S w φ' F' S' { w with heap := h' } := ⟨k, rfl, rfl⟩

/-- The sealed blocks outlast a step. -/
theorem Step.sealed {R : Rep X} {φ φ' : Names} {F S F' S' : Nat → Prop} {h h' : Array Obj} {H : Heap X} (k : Step φ F S h φ' F' S' h') (r : HRel R φ F S H h) : Sealed S h h' := by
  obtain ⟨fp, r⟩ := r
  exact fun b hb => k.keep b (r.liveS b hb) fun hf => r.disj b hf hb

theorem Step.val {R : Rep X} {φ φ' : Names} {F S F' S' : Nat → Prop} {h h' : Array Obj} {H : Heap X} (k : Step φ F S h φ' F' S' h') (r : HRel R φ F S H h) {a : AV} {v : Value} (hv : VRel φ S h a v) : VRel φ' S' h' a v :=
  hv.mono k.ext k.grow (k.sealed r)

theorem Step.vals {R : Rep X} {φ φ' : Names} {F S F' S' : Nat → Prop} {h h' : Array Obj} {H : Heap X} (k : Step φ F S h φ' F' S' h') (r : HRel R φ F S H h) {as : List AV} {vs : List Value} (hv : VRels φ S h as vs) : VRels φ' S' h' as vs :=
  hv.mono k.ext k.grow (k.sealed r)

/-- A part of an abstract heap. -/
theorem HRel.weaken {R : Rep X} {φ : Names} {F S : Nat → Prop} {H H' : Heap X} {h : Array Obj} (r : HRel R φ F S H h) (hle : ∀ n o, H'.get n = some o → H.get n = some o) : HRel R φ F S H' h := by
  obtain ⟨fp, r⟩ := r
  exact ⟨fp, fun n o hn => r.obj n o (hle n o hn), fun n m o o' hn hm => r.apart n m o o' (hle _ _ hn) (hle _ _ hm), fun n o b hn => r.inF n o b (hle _ _ hn), r.liveF, r.liveS, r.disj⟩

/-- Where a name lies. -/
theorem HRel.place {R : Rep X} {φ : Names} {F S : Nat → Prop} {H : Heap X} {h : Array Obj} (r : HRel R φ F S H h) {n : Nat} {o : AObj X} (hn : H.get n = some o) : ∃ pl, φ n = some pl ∧ F pl.blk ∧ pl.blk < h.size := by
  obtain ⟨fp, r⟩ := r
  obtain ⟨pl, h1, h2⟩ := r.obj n o hn
  have := r.inF n o _ hn h2.root
  exact ⟨pl, h1, this, r.liveF _ this⟩

theorem HRel.arrAt {R : Rep X} {φ : Names} {F S : Nat → Prop} {H : Heap X} {h : Array Obj} (r : HRel R φ F S H h) {n : Nat} {t : TypeId} {es : List (List AV)} (hn : H.get n = some (.arr t es)) : ∃ pl, φ n = some pl ∧ ArrAt φ S h t es pl ∧ F pl.blk ∧ pl.blk < h.size := by
  obtain ⟨fp, r⟩ := r
  obtain ⟨pl, h1, h2⟩ := r.obj n _ hn
  have := r.inF n _ _ hn h2.1
  exact ⟨pl, h1, h2.2.2, this, r.liveF _ this⟩

/-- An object under a name, new or turned, in a heap of the model in which at most its own blocks were turned, or laid. -/
theorem HRelF.put {R : Rep X} {φ : Names} {F S : Nat → Prop} {H : Heap X} {h h' : Array Obj} {fp : Nat → Nat → Prop} (r : HRelF R φ F S H h fp) {n : Nat} {o : AObj X} {pl : Place} {φ' : Names} (fpn : Nat → Prop)
    (hφ : Ext φ φ') (hn : φ' n = some pl) (hnew : ∀ b, fpn b → ∀ m o', H.get m = some o' → m ≠ n → ¬ fp m b)
    (hkeep : ∀ b, b < h.size → ¬ fpn b → h'[b]? = h[b]?) (hsz : h.size ≤ h'.size) (hfl : ∀ b, fpn b → b < h'.size) (hfS : ∀ b, fpn b → ¬ S b)
    (ho : ORel R φ' S h' o pl fpn) : HRelF R φ' (fun b => F b ∨ fpn b) S (H.set n o) h' (fun m b => if m = n then fpn b else fp m b) := by
  have hsl : Sealed S h h' := fun b hb => hkeep b (r.liveS b hb) fun hf => hfS b hf hb
  refine ⟨?_, ?_, ?_, ?_, ?_, ?_⟩
  · intro m o' hm
    rw [T.get_set] at hm
    by_cases e : m = n
    · subst e; simp at hm; subst hm; exact ⟨pl, hn, by simpa using ho⟩
    · simp only [e, if_false] at hm ⊢
      obtain ⟨p, h1, h2⟩ := r.obj m o' hm
      refine ⟨p, hφ _ _ h1, h2.mono hφ (fun _ h => h) hsl fun b hb => hkeep b (r.liveF _ (r.inF m o' b hm hb)) fun hf => hnew b hf m o' hm e hb⟩
  · intro m k o1 o2 hm hk hne b hb1 hb2
    rw [T.get_set] at hm hk
    by_cases e : m = n
    · subst e
      simp only [if_true] at hb1
      have e2 : ¬ k = m := fun e => hne e.symm
      simp only [e2, if_false] at hk hb2
      exact hnew b hb1 k o2 hk e2 hb2
    · simp only [e, if_false] at hm hb1
      by_cases e2 : k = n
      · subst e2
        simp only [if_true] at hb2
        exact hnew b hb2 m o1 hm e hb1
      · simp only [e2, if_false] at hk hb2
        exact r.apart m k o1 o2 hm hk hne b hb1 hb2
  · intro m o' b hm hb
    rw [T.get_set] at hm
    by_cases e : m = n
    · subst e; simp only [if_true] at hb; exact .inr hb
    · simp only [e, if_false] at hm hb; exact .inl (r.inF m o' b hm hb)
  · intro b hb
    exact hb.elim (fun k => Nat.lt_of_lt_of_le (r.liveF b k) hsz) (hfl b)
  · intro b hb; exact Nat.lt_of_lt_of_le (r.liveS b hb) hsz
  · intro b hb hs
    exact hb.elim (fun k => r.disj b k hs) (fun k => hfS b k hs)

theorem HRelF.weaken {R : Rep X} {φ : Names} {F S : Nat → Prop} {H H' : Heap X} {h : Array Obj} {fp : Nat → Nat → Prop} (r : HRelF R φ F S H h fp) (hle : ∀ n o, H'.get n = some o → H.get n = some o) : HRelF R φ F S H' h fp :=
  ⟨fun n o hn => r.obj n o (hle n o hn), fun n m o o' hn hm => r.apart n m o o' (hle _ _ hn) (hle _ _ hm), fun n o b hn => r.inF n o b (hle _ _ hn), r.liveF, r.liveS, r.disj⟩

theorem HRel.put {R : Rep X} {φ : Names} {F S : Nat → Prop} {H : Heap X} {h h' : Array Obj} (r : HRel R φ F S H h) {n : Nat} {o : AObj X} {pl : Place} {φ' : Names} (fpn : Nat → Prop)
    (hφ : Ext φ φ') (hn : φ' n = some pl) (hnew : ∀ b, fpn b → (∀ m o', H.get m = some o' → m ≠ n → ∀ fp, HRelF R φ F S H h fp → ¬ fp m b))
    (hkeep : ∀ b, b < h.size → ¬ fpn b → h'[b]? = h[b]?) (hsz : h.size ≤ h'.size) (hfl : ∀ b, fpn b → b < h'.size) (hfS : ∀ b, fpn b → ¬ S b)
    (ho : ORel R φ' S h' o pl fpn) : HRel R φ' (fun b => F b ∨ fpn b) S (H.set n o) h' := by
  obtain ⟨fp, r⟩ := r
  exact ⟨_, r.put fpn hφ hn (fun b hb m o' hm hne => hnew b hb m o' hm hne fp r) hkeep hsz hfl hfS ho⟩

theorem HRel.congrF {R : Rep X} {φ : Names} {F F' S : Nat → Prop} {H : Heap X} {h : Array Obj} (r : HRel R φ F S H h) (e : ∀ b, F b ↔ F' b) : HRel R φ F' S H h := by
  have : F = F' := funext fun b => propext (e b)
  rw [← this]; exact r

end Go.Abs
