/- What a function does from an empty heap, upon values that name nothing, it does in every heap. -/
import Derived.Test.YtkplhhkmchihlaaGreatDoorSym
namespace Go.Abs
variable {X : Type} {R : Rep X} {P : Program} {φ : Names} {F S : Nat → Prop} {H : Heap X}

mutual
/-- A value that bears no name. -/
def AV.plain : AV → Bool
  | .ptr .. | .sl .. | .map .. => false
  | .pel cs => AV.plains cs
  | .isl _ es => AV.plainss es
  | .fn _ a b => AV.plains a && AV.plains b
  | .agg cs => AV.plains cs
  | .tup cs => AV.plains cs
  | _ => true
def AV.plains : List AV → Bool
  | [] => true
  | v :: vs => AV.plain v && AV.plains vs
def AV.plainss : List (List AV) → Bool
  | [] => true
  | v :: vs => AV.plains v && AV.plainss vs
end

theorem AV.plains_append : ∀ (a b : List AV), AV.plains (a ++ b) = (AV.plains a && AV.plains b)
  | [], b => by simp [AV.plains]
  | x :: a, b => by simp [AV.plains, AV.plains_append a b, Bool.and_assoc]

theorem AV.plains_flatten : ∀ (es : List (List AV)), AV.plainss es = AV.plains es.flatten
  | [] => rfl
  | e :: es => by simp [AV.plainss, AV.plains_append, AV.plains_flatten es]

mutual
theorem VRel.plain {φ φ' : Names} {S : Nat → Prop} {h : Array Obj} : ∀ {a : AV} {v : Value}, a.plain = true → VRel φ S h a v → VRel φ' S h a v
  | _, _, _, .bool b => .bool b
  | _, _, _, .int k n => .int k n
  | _, _, _, .str s => .str s
  | _, _, hp, .ptr hn => by simp [AV.plain] at hp
  | _, _, hp, .pel hb hc hs hv => .pel hb hc hs (VRels.plain (by simpa [AV.plain] using hp) hv)
  | _, _, _, .nilp => .nilp
  | _, _, hp, .sl hn hz hl => by simp [AV.plain] at hp
  | _, _, hp, .isl hb hc hs hz hcap hby hv => .isl hb hc hs hz hcap hby (VRels.plain (by rw [← AV.plains_flatten]; simpa [AV.plain] using hp) hv)
  | _, _, _, .islNil => .islNil
  | _, _, _, .nils => .nils
  | _, _, _, .zsl => .zsl
  | _, _, _, .any v => .any v
  | _, _, hp, .map hn => by simp [AV.plain] at hp
  | _, _, _, .nilm => .nilm
  | _, _, hp, .fn ha hb => .fn (VRels.plain (by simp only [AV.plain, Bool.and_eq_true] at hp; exact hp.1) ha) (VRels.plain (by simp only [AV.plain, Bool.and_eq_true] at hp; exact hp.2) hb)
  | _, _, _, .nilf => .nilf
  | _, _, hp, .agg hv => .agg (VRels.plain (by simpa [AV.plain] using hp) hv)
  | _, _, hp, .tup hv => .tup (VRels.plain (by simpa [AV.plain] using hp) hv)
  | _, _, _, .nili => .nili
theorem VRels.plain {φ φ' : Names} {S : Nat → Prop} {h : Array Obj} : ∀ {as : List AV} {vs : List Value}, AV.plains as = true → VRels φ S h as vs → VRels φ' S h as vs
  | _, _, _, .nil => .nil
  | _, _, hp, .cons hv ht => .cons (VRel.plain (by simp only [AV.plains, Bool.and_eq_true] at hp; exact hp.1) hv) (VRels.plain (by simp only [AV.plains, Bool.and_eq_true] at hp; exact hp.2) ht)
end

/-- A result that leans on nothing. -/
def AV.bare : AV → Bool
  | .bool _ | .int .. | .str _ | .nilp | .nili | .nils => true
  | _ => false

theorem VRel.bare {φ φ' : Names} {S S' : Nat → Prop} {h h' : Array Obj} {a : AV} {v : Value} (hp : a.bare = true) (hv : VRel φ S h a v) : VRel φ' S' h' a v := by
  cases hv <;> first | (simp [AV.bare] at hp; done) | constructor

/-- Nothing that lay there has turned. -/
theorem HRel.kept {h h' : Array Obj} (r : HRel R φ F S H h) (hsz : h.size ≤ h'.size) (hk : ∀ b, b < h.size → h'[b]? = h[b]?) : HRel R φ F S H h' ∧ Step φ F S h φ F S h' := by
  obtain ⟨fp, r⟩ := r
  refine ⟨⟨fp, fun n o hn => ?_, r.apart, r.inF, fun b hb => Nat.lt_of_lt_of_le (r.liveF b hb) hsz, fun b hb => Nat.lt_of_lt_of_le (r.liveS b hb) hsz, r.disj⟩, Ext.refl _, hsz, fun b hb _ => hk b hb, fun b hb => .inl hb, fun b hb => .inl hb, fun b hb => hb⟩
  obtain ⟨pl, h1, h2⟩ := r.obj n o hn
  exact ⟨pl, h1, h2.mono (Ext.refl _) (fun _ h => h) (fun b hb => hk b (r.liveS b hb)) fun b hb => hk b (r.liveF b (r.inF n o b hn hb))⟩

theorem HRel.leaf {h : Array Obj} (hS : ∀ b, S b → b < h.size) : HRel R (fun _ => none) (fun _ => False) S (.leaf : Heap X) h :=
  ⟨fun _ _ => False, fun n o hn => by simp at hn, fun _ _ _ _ hn => by simp at hn, fun _ _ _ hn => by simp at hn, fun _ h => h.elim, hS, fun _ h => h.elim⟩

theorem CalledF.mono {f : FuncId} {vs : List Value} {w : World} {Q Q' : Ending → World → Prop} (h : CalledF P f vs w Q) (hq : ∀ e w', Q e w' → Q' e w') : CalledF P f vs w Q' := by
  rcases h with ⟨h1, h2⟩ | ⟨r, w', h1, h2⟩
  · exact .inl ⟨h1, h2.mono hq⟩
  · exact .inr ⟨r, w', h1, hq _ _ h2⟩

section
variable {E : Cfg}

/-- What a run from the empty heap says. -/
theorem pure_end {w : World} {c c' : Nat} {v : AV} {H' : Heap X} {H1 : Heap X} {d d' : Nat} {e : Ending} {w' : World} (hr : HRel R φ F S H w.heap) (hb : v.bare = true)
    (hend : EndOK R (fun _ => none) (fun _ => False) S w c c' v H' e w') (hH : H1 = H) : EndOK R φ F S w d d' v H1 e w' := by
  subst hH
  cases e with
  | returned r =>
    obtain ⟨φ', F', S', q1, q2, q3, q4⟩ := hend
    obtain ⟨k1, k2⟩ := hr.kept q3.st.size fun b hb => q3.st.keep b hb id
    exact ⟨φ, F, S, q1.bare hb, k1, ⟨k2, q3.os, q3.out⟩, fun _ _ => rfl⟩
  | panicked => exact hend.elim
  | outgrown => exact hend.elim

/-- A function that needs nothing of the heap: what is known of it. -/
theorem FuncOK.pure {f : FuncId} {m : List AV → M X AV} (hm : FuncOK R E f m) (hG : ∀ g a, E.G g = some a → a.plain = true) (spec : List AV → Option AV)
    (hs : ∀ xs v, spec xs = some v → AV.plains xs = true ∧ v.bare = true ∧ ∃ b c H' c' l, m xs b .leaf c = some (v, H', c', l)) : FuncOK R E f fun xs => M.lift (spec xs) := by
  intro xs b H c v H' c' l h φ F S w vs hr hg hx hfree
  obtain ⟨h1, rfl, rfl⟩ := lift_some h
  obtain ⟨hp, hb, b2, c2, H2, c3, l2, hrun⟩ := hs xs v h1
  have hS : ∀ b, S b → b < w.heap.size := by obtain ⟨fp, r⟩ := hr; exact r.liveS
  refine (hm hrun (HRel.leaf hS) ⟨fun n a hn => (hg.val n a hn).plain (hG n a hn), hg.raw⟩ (hx.plain hp) (fun _ _ _ => rfl)).mono fun e w' he => ?_
  exact pure_end hr hb he rfl

theorem callA_func (hmix : E.P.follows .mixedOrders = true) (hnum : ∀ (f : FuncId) (fn : Func), E.P.funcs[f]? = some fn → (fn.name == "runtime.NumGoroutine") = false) {O : FuncId → Option (List AV → M X AV)}
    (hG : ∀ f m, O f = some m → ∀ xs, Good (m xs)) (hO : ∀ f m, O f = some m → FuncOK R E f m) (d : Nat) (f : FuncId) (hf : O f = none) : FuncOK R E f (fun xs => callA E O (d + 1) (.fn (.func f) [] []) xs) := by
  intro xs b H c v H' c' l h
  simp only [callA, hf, List.nil_append, List.append_nil] at h
  exact body_ok hmix hnum (callA_ok hmix hnum hG hO d) (callA_good hG d) f h

end
end Go.Abs
