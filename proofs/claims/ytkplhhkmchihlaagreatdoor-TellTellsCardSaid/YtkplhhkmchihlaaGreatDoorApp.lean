/- The builtin append, as the model runs it: in place, anew, or beyond all room. -/
import Derived.Test.YtkplhhkmchihlaaGreatDoorOk7
import Derived.Room.AppendAsks
namespace Go.Abs
variable {P : Program}

/-- What is appended: how much, and its cells. -/
structure Src (P : Program) (size : Nat) (tx : TypeId) (x : Value) (n : Nat) (news : List Value) (w : World) : Prop where
  len : Builtin.lenOf x = Sem.pure n
  cells : ∀ w' : World, w'.heap = w.heap → (Builtin.firstCells size n x).run P w' = .ok news.toArray w'
  typ : ∃ d, P.underlying tx = some d ∧ ∀ k, d ≠ .int k

theorem run_append_in {t tx ty e : TypeId} {i : TypeInfo} (w : World) (ht : P.underlying t = some (.slice e)) (hi : P.info? e = some i) {x : Value} {n : Nat} {news : List Value} (hx : Src P i.size tx x n news w)
    (base : Option Addr) (len cap : Nat) (hle : len + n ≤ cap) :
    (Builtin.append_ #[t, tx] ty #[.slice base len cap, x]).run P w =
      (match base with
        | some a => (storeCells (a.add (len * i.size)) news).run P w
        | none => .ok () w).andThen fun _ w' => .ok (.slice base (len + n) cap) w' := by
  obtain ⟨d, hd, hnd⟩ := hx.typ
  have hc := hx.cells w rfl
  have hl : (Builtin.lenOf x).run P w = .ok n w := by rw [hx.len]; rfl
  cases base with
  | none => simp [Builtin.append_, run_und w ht, run_und w hd, sizeOf, run_info w hi, hl, hle, hc, Result.andThen]
  | some a =>
    simp [Builtin.append_, run_und w ht, run_und w hd, sizeOf, run_info w hi, hl, hle, hc]

theorem run_append_re {t tx ty e : TypeId} {i : TypeInfo} {z : Value} (w : World) (ht : P.underlying t = some (.slice e)) (hi : P.info? e = some i) (hz : i.zero = some z) (hb : i.bytes ≠ 0) {x : Value} {n : Nat} {news : List Value}
    (hx : Src P i.size tx x n news w) (base : Option Addr) (len cap : Nat) (olds : List Value) (hold : ∀ w' : World, w'.heap = w.heap → (Builtin.firstCells i.size len (.slice base len cap)).run P w' = .ok olds.toArray w')
    (hlt : cap < len + n) (hfit : Builtin.nextslicecap (len + n) cap * i.bytes ≤ 281474976710656) :
    (Builtin.append_ #[t, tx] ty #[.slice base len cap, x]).run P w =
      .ok (.slice (some ⟨w.heap.size, 0, none⟩) (len + n) (grownCap w (len + n) cap e)) (w.drew.alloc (.cells (olds.toArray ++ news.toArray ++ Builtin.zeroCells z.cells (grownCap w (len + n) cap e - (len + n))) e)) := by
  obtain ⟨d, hd, hnd⟩ := hx.typ
  have hl : ∀ w' : World, (Builtin.lenOf x).run P w' = .ok n w' := fun w' => by rw [hx.len]; rfl
  have hn : ¬ (len + n ≤ cap) := by omega
  have hf' : ¬ (281474976710656 < Builtin.nextslicecap (len + n) cap * i.bytes) := by omega
  have hc := hx.cells w.drew rfl
  have ho := hold w.drew rfl
  unfold grownCap
  simp only [Builtin.append_, List.getElem?_toArray, List.getElem?_cons_zero, List.getElem?_cons_succ, Sem.run_bind, run_und w ht, Result.andThen_ok]
  simp [run_und w hd, sizeOf, run_info w hi, run_info w.drew hi, hl, hn, hb, hf', hc, ho, newRow, zeroValue, hz, Question.forced]
  rw [show (olds ++ news).toArray = olds.toArray ++ news.toArray from by simp, Array.append_assoc]

end Go.Abs
