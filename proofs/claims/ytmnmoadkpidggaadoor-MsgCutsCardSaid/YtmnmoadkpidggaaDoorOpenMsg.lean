/- A message, as an argument's reading tells it. No condition. -/
import Derived.Test.YtmnmoadkpidggaaDoorOpen
import Derived.Test.YtmnmoadkpidggaaDoorMsgC
namespace Go.Proofs.YtmnmoadkpidggaaDoor
set_option linter.unusedSimpArgs false
set_option linter.unusedVariables false
open Go.RowKit Go.ChangeShapes Go.WideShapes

theorem len4 {α : Type _} {l : List α} (h : l.length = 4) : ∃ a b c d, l = [a, b, c, d] := by
  match l, h with
  | [a, b, c, d], _ => exact ⟨a, b, c, d, rfl⟩
theorem len5 {α : Type _} {l : List α} (h : l.length = 5) : ∃ a b c d e, l = [a, b, c, d, e] := by
  match l, h with
  | [a, b, c, d, e], _ => exact ⟨a, b, c, d, e, rfl⟩
theorem len6 {α : Type _} {l : List α} (h : l.length = 6) : ∃ a b c d e f, l = [a, b, c, d, e, f] := by
  match l, h with
  | [a, b, c, d, e, f], _ => exact ⟨a, b, c, d, e, f, rfl⟩
theorem len9 {α : Type _} {l : List α} (h : l.length = 9) : ∃ a b c d e f g h i, l = [a, b, c, d, e, f, g, h, i] := by
  match l, h with
  | [a, b, c, d, e, f, g, h, i], _ => exact ⟨a, b, c, d, e, f, g, h, i, rfl⟩

section
variable {H : Type} {en : TypeId × Value → H} {w : World} {base : Nat} {spare : Nat → Bool} {held : Bool}
theorem one_int {n : Nat} {c : Value} {o : Option (DataW H × List MemPlace)} (h : DataW.trod en Tryd.prog w base spare held n 2 [c] = o) (ho : ∃ y, o = some y) : ∃ a, c = .int .i64 a ∧ I64 a := by
  obtain ⟨y, rfl⟩ := ho
  obtain ⟨a, ha, _, wa⟩ := DataW.trod_int Tryd.underlying2 h
  exact ⟨a, (List.cons.inj ha).1, bounds_i64 wa⟩
set_option maxRecDepth 100000 in
theorem rd_row : Rd en Tryd.prog w base spare held encRow (fun r => ∀ n ∈ r.l, I64 n) 67 := by
  intro n cs y h
  obtain ⟨xs, m, rfl, rfl, hl, hlen, hf⟩ := DataW.trod_array Tryd.underlying67 h
  have e5 : Tryd.prog.cellsOf 67 = 5 := by kernel_rfl
  have e1 : Tryd.prog.cellsOf 2 = 1 := by kernel_rfl
  obtain ⟨c0, c1, c2, c3, c4, rfl⟩ := len5 (hl.trans e5)
  obtain ⟨y0, y1, y2, y3, y4, rfl⟩ := len5 hlen
  have h0 := hf 0 (by omega)
  have h1 := hf 1 (by omega)
  have h2 := hf 2 (by omega)
  have h3 := hf 3 (by omega)
  have h4 := hf 4 (by omega)
  simp only [e1, Nat.zero_mul, Nat.one_mul, Nat.mul_one, List.drop_zero, List.drop_succ_cons, List.take_succ_cons, List.take_zero, List.getElem?_cons_zero, List.getElem?_cons_succ] at h0 h1 h2 h3 h4
  obtain ⟨a0, rfl, w0⟩ := one_int h0 ⟨_, rfl⟩
  obtain ⟨a1, rfl, w1⟩ := one_int h1 ⟨_, rfl⟩
  obtain ⟨a2, rfl, w2⟩ := one_int h2 ⟨_, rfl⟩
  obtain ⟨a3, rfl, w3⟩ := one_int h3 ⟨_, rfl⟩
  obtain ⟨a4, rfl, w4⟩ := one_int h4 ⟨_, rfl⟩
  refine ⟨⟨a0, a1, a2, a3, a4⟩, rfl, fun x hx => ?_⟩
  simp only [Row.l, List.mem_cons, List.not_mem_nil, or_false] at hx
  rcases hx with rfl | rfl | rfl | rfl | rfl <;> assumption

set_option maxRecDepth 100000 in
theorem open_msg {r : Reach} {b0 : Nat} {v : Value} {d : DataW H} {p : List MemPlace} (hval : Value.okWide Tryd.prog w r b0 47 v) (h : DataW.Trod en Tryd.prog w base spare held 47 v d p) :
    ∃ (m : Msg) (lv : Value), v = msgV m lv ∧ m.ok ∧ SlRow w lv m.l := by
  have e9 : Tryd.prog.cellsOf 47 = 9 := by kernel_rfl
  unfold Value.okWide at hval
  rw [Tryd.underlying47] at hval
  obtain ⟨ca, rfl, hsz, ts, hts, _, hrow⟩ := hval
  have ht9 : Tryd.prog.cellTypes Tryd.prog.depth 47 = some [3, 2, 2, 2, 2, 2, 2, 2, 45] := by kernel_rfl
  obtain rfl := Option.some.inj (ht9.symm.trans hts)
  obtain ⟨fuel, hf0⟩ := h
  obtain ⟨xs, n, rfl, hx, hl, hlen, hf⟩ := DataW.trod_struct Tryd.underlying47 hf0
  obtain ⟨cl⟩ := ca
  simp only [Value.cells] at hl hf hf0
  obtain ⟨c0, c1, c2, c3, c4, c5, c6, c7, c8, rfl⟩ := len9 (hl.trans e9)
  obtain ⟨y0, y1, y2, y3, rfl⟩ := len4 (show xs.length = 4 from hlen)
  have h0 := hf 0 _ rfl
  have h1 := hf 1 _ rfl
  have h2 := hf 2 _ rfl
  have h3 := hf 3 _ rfl
  have f0 : Tryd.prog.cellsOf 3 = 1 := by kernel_rfl
  have f1 : Tryd.prog.cellsOf 2 = 1 := by kernel_rfl
  have f2 : Tryd.prog.cellsOf 44 = 6 := by kernel_rfl
  have f3 : Tryd.prog.cellsOf 45 = 1 := by kernel_rfl
  simp only [f0, f1, f2, f3, List.drop_zero, List.drop_succ_cons, List.take_succ_cons, List.take_zero, List.getElem?_cons_zero, List.getElem?_cons_succ] at h0 h1 h2 h3
  obtain ⟨k, hk, _, wk⟩ := DataW.trod_int Tryd.underlying3 h0
  obtain rfl := (List.cons.inj hk).1
  obtain ⟨s, rfl, ws⟩ := one_int h1 ⟨_, rfl⟩
  obtain ⟨zs, m, rfl, _, hzl, hzn, hz⟩ := DataW.trod_array Tryd.underlying44 h2
  obtain ⟨z0, z1, z2, z3, z4, z5, rfl⟩ := len6 hzn
  have g0 := hz 0 (by omega)
  have g1 := hz 1 (by omega)
  have g2 := hz 2 (by omega)
  have g3 := hz 3 (by omega)
  have g4 := hz 4 (by omega)
  have g5 := hz 5 (by omega)
  simp only [f1, Nat.zero_mul, Nat.one_mul, Nat.mul_one, List.drop_zero, List.drop_succ_cons, List.take_succ_cons, List.take_zero, List.getElem?_cons_zero, List.getElem?_cons_succ] at g0 g1 g2 g3 g4 g5
  obtain ⟨a0, rfl, w0⟩ := one_int g0 ⟨_, rfl⟩
  obtain ⟨a1, rfl, w1⟩ := one_int g1 ⟨_, rfl⟩
  obtain ⟨a2, rfl, w2⟩ := one_int g2 ⟨_, rfl⟩
  obtain ⟨a3, rfl, w3⟩ := one_int g3 ⟨_, rfl⟩
  obtain ⟨a4, rfl, w4⟩ := one_int g4 ⟨_, rfl⟩
  obtain ⟨a5, rfl, w5⟩ := one_int g5 ⟨_, rfl⟩
  obtain ⟨u, hu, hc8⟩ := hrow 8 c8 rfl
  obtain rfl : 45 = u := Option.some.inj hu
  have hsh : ∃ a len cap, c8 = .slice a len cap := by
    rcases Deep.open_slice Tryd.underlying45 h3 with ⟨hcs, _⟩ | ⟨a', len', cap', m, n, D, Pl, hcs, _⟩
    · exact ⟨_, _, _, (List.cons.inj hcs).1⟩
    · exact ⟨_, _, _, (List.cons.inj hcs).1⟩
  obtain ⟨a, len, cap, rfl⟩ := hsh
  have hw : Value.okWide Tryd.prog w r b0 45 (.slice a len cap) := by
    unfold Value.okWide; rw [Tryd.underlying45]; exact hc8
  obtain ⟨l, hll, hsl, hok⟩ := open_rows (enc := encRow) (Ok := fun r => ∀ n ∈ r.l, I64 n) Tryd.underlying45 (by kernel_rfl) encRow_len rd_row (slice_spot Tryd.underlying45 hw) (show DataW.Trod en Tryd.prog w base spare held 45 (.slice a len cap) _ _ from ⟨_, h3⟩)
  refine ⟨⟨k, s, [a0, a1, a2, a3, a4, a5], l⟩, .slice a len cap, by simp [msgV], ⟨bounds_i64 wk, ws, rfl, ?_, hok⟩, hsl⟩
  intro x hx
  simp only [List.mem_cons, List.not_mem_nil, or_false] at hx
  rcases hx with rfl | rfl | rfl | rfl | rfl | rfl <;> assumption
end
end Go.Proofs.YtmnmoadkpidggaaDoor
