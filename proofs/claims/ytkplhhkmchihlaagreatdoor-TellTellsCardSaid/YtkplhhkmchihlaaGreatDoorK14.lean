/- TellTells: the row's contract. -/
import Derived.Test.YtkplhhkmchihlaaGreatDoorK13
import Derived.OpenShut
import Derived.Lay
import Derived.Lib.LaidTab
import Derived.SevenTiedAt
import Derived.LaidMore
namespace Go.Proofs.YtkplhhkmchihlaaGreatDoor.tellTells
open Go.ChangeShapes Go.WideShapes Go.ChangeAt Go.RowKit
open Go.Abs (VRel VRels AV Seg Its itemE)

theorem array6 {cs : Array Value} (h : cs.size = 6) : ∃ a b c d e f, cs = #[a, b, c, d, e, f] := by
  obtain ⟨l⟩ := cs
  match l, h with
  | [a, b, c, d, e, f], _ => exact ⟨a, b, c, d, e, f, rfl⟩

theorem c22 : Tryz.prog.cellsOf 22 = 1 := by kernel_rfl
theorem c9 : Tryz.prog.cellsOf 9 = 1 := by kernel_rfl
theorem c23 : Tryz.prog.cellsOf 23 = 1 := by kernel_rfl
theorem c4 : Tryz.prog.cellsOf 4 = 1 := by kernel_rfl
theorem c3 : Tryz.prog.cellsOf 3 = 1 := by kernel_rfl
theorem c29 : Tryz.prog.cellsOf 29 = 2 := by kernel_rfl
theorem c25 : Tryz.prog.cellsOf 25 = 6 := by kernel_rfl
theorem by29 : Tryz.prog.bytesOf 29 = 32 := by kernel_rfl

/-- What the row's list gives: the table of powers of ten. -/
theorem table {W : World} (h : laidMetH Tryz.prog Rows.tellTellsRow.laid W) : ∃ t fr, W.heap[0]? = some (.cells (Lib.pow10Tab.map fun z => Value.int .u64 z).toArray t fr) := by
  rw [MakeChecks.laidMetH_plain _ _ _ (by kernel_rfl)] at h
  obtain ⟨ps, hl, _, _⟩ := h
  obtain ⟨g1, t1, cs1, fuel1, p1, q1, _, _, _, _, hl, _⟩ := hl
  obtain ⟨g2, t2, cs2, fuel2, p2, q2, _, _, _, _, hl, _⟩ := hl
  obtain ⟨g3, t3, cs3, fuel3, p3, q3, hg, ht, hv, hd, _, _⟩ := hl
  obtain rfl := Option.some.inj ((show Tryz.prog.globalNamed "internal/strconv.uint64pow10" = some 0 by kernel_rfl).symm.trans hg)
  obtain rfl := Option.some.inj ((show (Tryz.prog.globals[0]?).map (·.type) = some 178 by kernel_rfl).symm.trans ht)
  have hdat : (Rows.laid_internal_strconv_uint64pow10 : DataW Unit) = Lib.tabData .u64 Lib.pow10Tab := by kernel_rfl
  rw [hdat] at hd
  have hc := Lib.cells_of_tab Tryz.underlying178 Tryz.underlying77 (by kernel_rfl) (by kernel_rfl) hd
  unfold World.var? at hv
  rw [hg] at hv
  simp only [Option.bind_some] at hv
  cases hb : W.heap[0]? with
  | none => rw [hb] at hv; cases hv
  | some o =>
    rw [hb] at hv
    cases o with
    | cells c t fr =>
      simp only [Option.some.injEq] at hv
      refine ⟨t, fr, ?_⟩
      rw [hv]
      congr 2
      apply Array.ext'
      simpa using hc
    | _ => simp at hv

/-- A list out of what its places are. -/
theorem list_of {α : Type} {p : Nat → α → Prop} : ∀ (n : Nat), (∀ i, i < n → ∃ a, p i a) → ∃ l : List α, l.length = n ∧ ∀ i a, l[i]? = some a → p i a
  | 0, _ => ⟨[], rfl, by simp⟩
  | n + 1, h => by
    obtain ⟨l, h1, h2⟩ := list_of n fun i hi => h i (by omega)
    obtain ⟨a, ha⟩ := h n (by omega)
    refine ⟨l ++ [a], by simp [h1], fun i b hb => ?_⟩
    by_cases hi : i < n
    · rw [List.getElem?_append_left (by omega)] at hb
      exact h2 i b hb
    · have hi' : i = n := by
        have := (List.getElem?_eq_some_iff.1 hb).1
        simp at this; omega
      subst hi'
      rw [List.getElem?_append_right (by omega), h1] at hb
      simp at hb; subst hb; exact ha

theorem seg_pairs {c : Array Value} : ∀ (m : List (Value × Value)) (off : Nat), (∀ i q, m[i]? = some q → c[off + i * 2]? = some q.1 ∧ c[off + i * 2 + 1]? = some q.2) → Seg c off (m.map fun q => [q.1, q.2]).flatten
  | [], off, _ => fun j hj => by simp at hj
  | q :: m, off, h => by
    have ih := seg_pairs m (off + 2) fun i p hi => by
      have := h (i + 1) p (by simpa using hi)
      rw [show off + 2 + i * 2 = off + (i + 1) * 2 by omega]
      exact this
    have h0 := h 0 q rfl
    intro j hj
    match j with
    | 0 => simpa using h0.1
    | 1 => simpa using h0.2
    | j + 2 =>
      have := ih j (by simp only [List.map_cons, List.flatten_cons, List.length_append, List.length_cons, List.length_nil] at hj; omega)
      rw [show off + (j + 2) = off + 2 + j by omega, this]
      simp

theorem rel_pairs {φ : Go.Abs.Names} {S : Nat → Prop} {h : Array Obj} : ∀ (m : List (ByteArray × ByteArray)),
    VRels φ S h ((m.map fun q => (q.1.data.toList, q.2.data.toList)).map itemE).flatten ((m.map fun q => (Value.string q.1, Value.string q.2)).map fun q => [q.1, q.2]).flatten
  | [] => .nil
  | q :: m => .cons (.str q.1) (.cons (.str q.2) (rel_pairs m))

/-- The slice of items, as a sealed one. -/
theorem items_rel {W : World} {b off len cap : Nat} {S : Nat → Prop} {m : List (ByteArray × ByteArray)} (hS : S b) (hl : m.length = len) (h0 : 0 < len) (hc : len ≤ cap) (hb : len * 32 ≤ 281474976710656)
    (hcell : ∀ i q, m[i]? = some q → W.cell? ⟨b, off + i * 2, none⟩ = some (.string q.1) ∧ W.cell? ⟨b, off + i * 2 + 1, none⟩ = some (.string q.2)) :
    VRel (fun _ => none) S W.heap (.isl ⟨2, 32⟩ ((m.map fun q => (q.1.data.toList, q.2.data.toList)).map itemE)) (.slice (some ⟨b, off, none⟩) len cap) := by
  have hm0 : m[0]? = some m[0] := List.getElem?_eq_getElem (by omega)
  have hfirst := (hcell 0 _ hm0).1
  obtain ⟨c, t, fr, hh⟩ : ∃ c t fr, W.heap[b]? = some (.cells c t fr) := by
    unfold World.cell? at hfirst
    cases hb : W.heap[b]? with
    | none => simp [hb] at hfirst
    | some o =>
      cases o with
      | cells c t fr => exact ⟨c, t, fr, rfl⟩
      | _ => simp [hb] at hfirst
  have hcl : ∀ k, W.cell? ⟨b, k, none⟩ = c[k]? := fun k => by simp [World.cell?, hh]
  have hseg := seg_pairs (c := c) (m.map fun q => (Value.string q.1, Value.string q.2)) off fun i q hi => by
    obtain ⟨p, hp, rfl⟩ := List.mem_map.1 (List.mem_of_getElem? hi)
    rw [List.getElem?_map] at hi
    obtain ⟨p', hp', he⟩ := Option.map_eq_some_iff.1 hi
    have := hcell i p' hp'
    rw [hcl, hcl] at this
    rw [← he]
    exact this
  have hlen : ((m.map fun q => (q.1.data.toList, q.2.data.toList)).map itemE).length = len := by simpa using hl
  have := VRel.isl (φ := fun _ => none) (S := S) (z := ⟨2, 32⟩) (es := (m.map fun q => (q.1.data.toList, q.2.data.toList)).map itemE) (cap := cap) hS hh hseg
    (by
      intro e he
      obtain ⟨p, _, rfl⟩ := List.mem_map.1 he
      rfl) (by omega) (by rw [hlen]; exact hb) (rel_pairs m)
  rw [hlen] at this
  exact this

set_option maxRecDepth 100000 in
theorem contract (H : Type) (enc : TypeId × Value → H) (W : World) (base : Nat) (args : Array Value) (ds gs : List (DataW H)) (before : List MemPlace)
    (hval : ∀ (j : Nat) t v, Tryz.f3.params[j]? = some t → args[j]? = some v → Value.okWide Tryz.prog W .any base t v)
    (hW : DataW.Whole enc Tryz.prog Tryz.f3.params.toList Rows.tellTellsSpec.vars false W args.toList ds gs before)
    (hsz : (DataW.weightsEach Tryz.prog (Tryz.f3.params.toList ++ Rows.tellTellsSpec.plain.varTypes Tryz.prog) (ds ++ gs)).all (· ≤ reachBytes) = true) (hL : laidMetH Tryz.prog Rows.tellTellsRow.laid W) :
    Calls Tryz.prog 3 args W fun e W' => ∃ v, e = .returned v ∧ Rows.tellTellsSpec.post enc Tryz.prog Tryz.f3 false true false false W args v W' := by
  have hW' := hW
  obtain ⟨p, q, hA0, hV, rfl, hfz, hnd⟩ := hW
  have hA : DataW.TrodAll enc Tryz.prog W 0 (fun _ => true) true Tryz.f3.params.toList args.toList ds p := hA0
  rw [Tryz.params3] at hA hval hsz
  obtain ⟨v0, d0, rfl, rfl, h0⟩ := trodAll_one hA
  obtain ⟨rfl, rfl⟩ := trodVars_none hV
  obtain ⟨cs, rfl, hcs⟩ := okWide_struct Tryz.underlying25 (hval 0 25 v0 rfl rfl)
  rw [c25] at hcs
  obtain ⟨x0, x1, x2, x3, x4, x5, rfl⟩ := array6 hcs
  have hread := h0
  obtain ⟨fuel, hf⟩ := h0
  obtain ⟨xs, k, _, hx, _, hlen, hfields⟩ := DataW.trod_struct Tryz.underlying25 hf
  simp only [Prod.mk.injEq] at hx
  obtain ⟨hd0, hp0⟩ := hx
  match xs, hlen with
  | [y0, y1, y2, y3, y4, y5], _ =>
    have f0 := hfields 0 _ rfl
    have f1 := hfields 1 _ rfl
    have f2 := hfields 2 _ rfl
    have f3 := hfields 3 _ rfl
    have f4 := hfields 4 _ rfl
    have f5 := hfields 5 _ rfl
    simp only [Value.cells] at f0 f1 f2 f3 f4 f5
    obtain ⟨n, e0, hy0, w0⟩ := DataW.trod_int Tryz.underlying22 f0
    obtain ⟨s, e1, hy1, w1⟩ := DataW.trod_string Tryz.underlying9 f1
    obtain ⟨more, e3, hy3⟩ := DataW.trod_bool Tryz.underlying4 f3
    obtain ⟨u, e4, hy4, w4⟩ := DataW.trod_string Tryz.underlying9 f4
    obtain ⟨nd, e5, hy5, w5⟩ := DataW.trod_int Tryz.underlying3 f5
    simp [c22, c9, c4, c3] at e0 e1 e3 e4 e5
    subst e0 e1 e3 e4 e5
    simp [c23] at f2
    subst hy0 hy1 hy3 hy4 hy5
    have htab := table hL
    have h00 : 0 < W.heap.size := by
      obtain ⟨t, fr, h⟩ := htab
      exact (Array.getElem?_eq_some_iff.1 h).1
    have hn : n ≤ 9223372036854775807 := by
      simp only [Lit.wf, Bool.and_eq_true, decide_eq_true_eq] at w0
      have : IntKind.i64.max = 9223372036854775807 := rfl
      omega
    -- the weights
    have hwt : ∀ m ∈ DataW.weightsEach Tryz.prog [22, 9, 23, 4, 9, 3] [(DataW.lit (.int .i64 n) : DataW H), .lit (.string s.data.toList), y2.1, .lit (.bool more), .lit (.string u.data.toList), .lit (.int .i64 nd)], m ≤ reachBytes := by
      subst hd0
      simp only [List.all_eq_true, decide_eq_true_eq] at hsz
      intro m hm
      refine hsz m ?_
      simp only [DataW.weightsEach, DataW.weights, Tryz.underlying25, List.map_cons, List.map_nil, List.cons_append, List.append_nil, List.nil_append] at hm ⊢
      simp at hm ⊢
      rcases hm with h | h | h <;> simp [h]
    have hsl : s.size ≤ 180000000000000 := by
      have := hwt s.data.toList.length (by simp [DataW.weightsEach, DataW.weights])
      have e : s.data.toList.length = s.size := by rw [Array.length_toList]; rfl
      have er : reachBytes = 140737488351232 := rfl
      omega
    -- what the row says, out of the walk
    have fin : ∀ {it : AV} {l : List (List UInt8 × List UInt8)} {S : Nat → Prop}, S 0 → (∀ b, S b → b < W.heap.size) → Its it l → VRel (fun _ => none) S W.heap it x2 →
        Calls Tryz.prog 3 #[.agg #[.int .i64 n, .string s, x2, .bool more, .string u, .int .i64 nd]] W fun e W' => ∃ v, e = .returned v ∧ Rows.tellTellsSpec.post enc Tryz.prog Tryz.f3 false true false false W #[.agg #[.int .i64 n, .string s, x2, .bool more, .string u, .int .i64 nd]] v W' := by
      intro it l S hS0 hSl hit hv
      refine (Go.Abs.tt_calls W htab hS0 hSl hit hv hn hsl).mono fun e W' hh => ?_
      obtain ⟨he, hos, hout, hws, hk⟩ := hh
      subst he
      have hkept : ∀ may, W.keptBut W' may := fun may => ⟨hos, hout, fun i hi => by rw [hk i hi]; split <;> simp_all⟩
      have hb : Below W.heap.size W { W with heap := W'.heap } := ⟨rfl, rfl, rfl, hws, hk⟩
      have hlt : ∀ x ∈ p, x.block < W.heap.size := fun x hx => by simpa using hW'.lt x (by simpa using hx)
      have hback := Below.trod (P := Tryz.prog) (t := 25) (by kernel_rfl) (by kernel_rfl) (of_decide_eq_true (by kernel_rfl)) hread hb hlt
      have hback' : DataW.Trod enc Tryz.prog W' 0 (fun b => decide (b < W.heap.size)) true 25 (.agg #[.int .i64 n, .string s, x2, .bool more, .string u, .int .i64 nd]) d0 p := DataW.Trod.of_heap (w := { W with heap := W'.heap }) (w' := W') (show ({ W with heap := W'.heap } : World).heap = W'.heap from rfl) hback
      refine ⟨_, rfl, _, _, _, [], p, [], hW', ?_, ?_, ?_, hkept _, fun h => by cases h⟩
      · exact trodAll_cons_mk (shut_bool Tryz.underlying4 _) trodAll_mk0
      · exact trodAll_mk1 hback'
      · rfl
    rcases Go.Deep.open_slice_pairs Tryz.underlying23 Tryz.underlying29 c29 rfl rfl c9 c9 f2 with ⟨hx2, _⟩ | ⟨a, len, cap, m, kk, V0, V1, D0, D1, P0, P1, hx2, _, hlc, _, hm, hy2, hcell⟩
    · simp only [List.cons.injEq, and_true] at hx2
      subst hx2
      exact fin (it := .nils) (l := []) (S := fun b => b = 0) rfl (fun b hb => by rw [hb]; exact h00) .nils .nils
    · simp only [List.cons.injEq, and_true] at hx2
      subst hx2
      simp only [if_true] at hm
      subst hm
      by_cases hl0 : len = 0
      · subst hl0
        exact fin (it := .isl ⟨2, 32⟩ (([] : List (List UInt8 × List UInt8)).map itemE)) (l := []) (S := fun b => b = 0) rfl (fun b hb => by rw [hb]; exact h00) (.isl []) .islNil
      · obtain ⟨b, off, spot⟩ := a
        have hspot : spot = none := by simpa [Addr.add] using World.cell?_spot (hcell 0 (by omega)).1
        subst hspot
        have hstr : ∀ i, i < len → ∃ q : ByteArray × ByteArray, W.cell? ⟨b, off + i * 2, none⟩ = some (.string q.1) ∧ W.cell? ⟨b, off + i * 2 + 1, none⟩ = some (.string q.2) := by
          intro i hi
          obtain ⟨k0, k1, t0, t1⟩ := hcell i (by omega)
          obtain ⟨s0, q0, _, _⟩ := DataW.trod_string Tryz.underlying9 t0
          obtain ⟨s1, q1, _, _⟩ := DataW.trod_string Tryz.underlying9 t1
          simp only [List.cons.injEq, and_true] at q0 q1
          rw [add_plain] at k0 k1
          exact ⟨(s0, s1), by rw [← q0]; exact k0, by rw [← q1, Nat.add_assoc]; exact k1⟩
        obtain ⟨ml, hml, hmc⟩ := list_of len hstr
        have hblt : b < W.heap.size := World.block_lt_of_cell? _ _ (hcell 0 (by omega)).1
        have hbyte : len * 32 ≤ 281474976710656 := by
          have hy21 : y2.1 = .slice ((List.range len).map fun i => .agg [D0 i, D1 i]) ((List.range (m - len)).map fun j => .agg [D0 (len + j), D1 (len + j)]) := by rw [hy2]
          have := hwt (((List.range len).map fun i => (DataW.agg [D0 i, D1 i] : DataW H)).length + ((List.range (m - len)).map fun j => (DataW.agg [D0 (len + j), D1 (len + j)] : DataW H)).length |> (· * Tryz.prog.bytesOf 29)) (by
            rw [hy21]
            simp [DataW.weightsEach, DataW.weights, Tryz.underlying23])
          have er : reachBytes = 140737488351232 := rfl
          simp only [List.length_map, List.length_range, by29] at this
          omega
        exact fin (S := fun b' => b' = 0 ∨ b' = b) (.inl rfl) (fun b' hb => by rcases hb with e | e <;> rw [e] <;> assumption) (.isl _) (items_rel (.inr rfl) hml (by omega) hlc hbyte hmc)

end Go.Proofs.YtkplhhkmchihlaaGreatDoor.tellTells
