/- Messages out of bytes: words on a message's cells. No condition. -/
import Derived.Test.YtmnmoadkpidggaaDoorMsgC
namespace Go.Proofs.YtmnmoadkpidggaaDoor
set_option linter.unusedSimpArgs false
set_option linter.unusedVariables false
open Go.RowKit

/-- A message's cells in a block of the call's own. -/
structure MAt (w : World) (b : Nat) (k s : Int) (L : List Int) (lv : Value) : Prop where
  c0 : w.cell? ⟨b, 0, none⟩ = some (.int .i64 k)
  c1 : w.cell? ⟨b, 1, none⟩ = some (.int .i64 s)
  arr : RowAt encN 1 w b 2 L
  c8 : w.cell? ⟨b, 8, none⟩ = some lv
  free : ∀ o, o < 9 → w.frozen? ⟨b, o, none⟩ = false
  len : L.length = 6

theorem MAt.md {S : Nat → Prop} {w w' : World} {b : Nat} {k s : Int} {L : List Int} {lv : Value} (h : MAt w b k s L lv) (hm : Md S w w') (hn : ¬ S b) : MAt w' b k s L lv :=
  ⟨hm.cellv h.c0 hn, hm.cellv h.c1 hn, hm.row encN_len h.arr hn, hm.cellv h.c8 hn, fun o ho => by
    rw [World.frozen?_of_block (w := w) (hm.block b (lt_of_cell h.c0) hn)]; exact h.free o ho, h.len⟩
theorem MAt.bel {w w' : World} {b : Nat} {k s : Int} {L : List Int} {lv : Value} (h : MAt w b k s L lv) (hB : Bel w w') : MAt w' b k s L lv := h.md (Md.of (S := fun _ => False) hB) (fun h => h)
theorem MAt.a {w : World} {b : Nat} {k s : Int} {a0 a1 a2 a3 a4 a5 : Int} {lv : Value} (h : MAt w b k s [a0, a1, a2, a3, a4, a5] lv) :
    w.cell? ⟨b, 2, none⟩ = some (.int .i64 a0) ∧ w.cell? ⟨b, 3, none⟩ = some (.int .i64 a1) ∧ w.cell? ⟨b, 4, none⟩ = some (.int .i64 a2) ∧ w.cell? ⟨b, 5, none⟩ = some (.int .i64 a3) ∧ w.cell? ⟨b, 6, none⟩ = some (.int .i64 a4) ∧ w.cell? ⟨b, 7, none⟩ = some (.int .i64 a5) :=
  ⟨num_cell h.arr (i := 0) (by simp), num_cell h.arr (i := 1) (by simp), num_cell h.arr (i := 2) (by simp), num_cell h.arr (i := 3) (by simp), num_cell h.arr (i := 4) (by simp), num_cell h.arr (i := 5) (by simp)⟩
theorem MAt.mk6 {w : World} {b : Nat} {k s : Int} {a0 a1 a2 a3 a4 a5 : Int} {lv : Value} (h0 : w.cell? ⟨b, 0, none⟩ = some (.int .i64 k)) (h1 : w.cell? ⟨b, 1, none⟩ = some (.int .i64 s)) (h2 : w.cell? ⟨b, 2, none⟩ = some (.int .i64 a0)) (h3 : w.cell? ⟨b, 3, none⟩ = some (.int .i64 a1)) (h4 : w.cell? ⟨b, 4, none⟩ = some (.int .i64 a2)) (h5 : w.cell? ⟨b, 5, none⟩ = some (.int .i64 a3)) (h6 : w.cell? ⟨b, 6, none⟩ = some (.int .i64 a4)) (h7 : w.cell? ⟨b, 7, none⟩ = some (.int .i64 a5)) (h8 : w.cell? ⟨b, 8, none⟩ = some lv) (hf : ∀ o, o < 9 → w.frozen? ⟨b, o, none⟩ = false) : MAt w b k s [a0, a1, a2, a3, a4, a5] lv := by
  refine ⟨h0, h1, fun i hi j hj => ?_, h8, hf, rfl⟩
  obtain rfl : j = 0 := by omega
  have hi6 : i = 0 ∨ i = 1 ∨ i = 2 ∨ i = 3 ∨ i = 4 ∨ i = 5 := by simp at hi; omega
  rcases hi6 with rfl | rfl | rfl | rfl | rfl | rfl
  · exact h2
  · exact h3
  · exact h4
  · exact h5
  · exact h6
  · exact h7
/-- A new block that holds a message. -/
theorem MAt.new {w : World} {T : TypeId} {k s a0 a1 a2 a3 a4 a5 : Int} {lv : Value} : MAt (w.alloc (.cells #[.int .i64 k, .int .i64 s, .int .i64 a0, .int .i64 a1, .int .i64 a2, .int .i64 a3, .int .i64 a4, .int .i64 a5, lv] T)) w.heap.size k s [a0, a1, a2, a3, a4, a5] lv :=
  MAt.mk6 (new_cell _ _ _ 0 rfl) (new_cell _ _ _ 1 rfl) (new_cell _ _ _ 2 rfl) (new_cell _ _ _ 3 rfl) (new_cell _ _ _ 4 rfl) (new_cell _ _ _ 5 rfl) (new_cell _ _ _ 6 rfl) (new_cell _ _ _ 7 rfl) (new_cell _ _ _ 8 rfl) (fun o _ => new_free _ _ _ o rfl)
/-- One of the six is written. -/
theorem MAt.setA {w : World} {b : Nat} {k s : Int} {L : List Int} {lv : Value} (h : MAt w b k s L lv) {i : Nat} (hi : i < 6) (n : Int) : MAt (w.setCell ⟨b, 2 + i, none⟩ (.int .i64 n)) b k s (L.set i n) lv := by
  have hl := h.len
  refine ⟨(cell_set_other (Or.inr (by show 0 ≠ 2 + i; omega))).trans h.c0, (cell_set_other (Or.inr (by show 1 ≠ 2 + i; omega))).trans h.c1, ?_, (cell_set_other (Or.inr (by show 8 ≠ 2 + i; omega))).trans h.c8, fun o ho => by rw [frozen_set]; exact h.free o ho, by simpa using hl⟩
  have hm : MutAt encN 1 w b 2 L := ⟨h.arr, fun i hi j hj => h.free _ (by omega)⟩
  have := (hm.set encN_len (i := i) (c := 0) (by omega) (by omega) (u := .int .i64 n) (y := n) rfl).1
  simpa using this
theorem MAt.setK {w : World} {b : Nat} {k s : Int} {L : List Int} {lv : Value} (h : MAt w b k s L lv) (n : Int) : MAt (w.setCell ⟨b, 0, none⟩ (.int .i64 n)) b n s L lv := by
  refine ⟨cell_set_same h.c0, (cell_set_other (Or.inr (by simp))).trans h.c1, fun i hi j hj => ?_, (cell_set_other (Or.inr (by simp))).trans h.c8, fun o ho => by rw [frozen_set]; exact h.free o ho, h.len⟩
  rw [cell_set_other (Or.inr (by show 2 + i * 1 + j ≠ 0; omega))]; exact h.arr i hi j hj
theorem MAt.setL {w : World} {b : Nat} {k s : Int} {L : List Int} {lv : Value} (h : MAt w b k s L lv) (v : Value) : MAt (w.setCell ⟨b, 8, none⟩ v) b k s L v := by
  have hl := h.len
  refine ⟨(cell_set_other (Or.inr (by simp))).trans h.c0, (cell_set_other (Or.inr (by simp))).trans h.c1, fun i hi j hj => ?_, cell_set_same h.c8, fun o ho => by rw [frozen_set]; exact h.free o ho, hl⟩
  rw [cell_set_other (Or.inr (by show 2 + i * 1 + j ≠ 8; omega))]; exact h.arr i hi j hj

/-- What stands there already is written: nothing has changed. -/
theorem set_id {w : World} {b o : Nat} {u : Value} (h : w.cell? ⟨b, o, none⟩ = some u) : w.setCell ⟨b, o, none⟩ u = w := by
  have hh : (w.setCell ⟨b, o, none⟩ u).heap = w.heap := by
    apply Array.ext_getElem?
    intro i
    simp only [World.setCell]
    rw [Array.getElem?_modify]
    split
    · rename_i hb
      subst hb
      simp only [World.cell?] at h
      cases hw : w.heap[b]? with
      | none => rfl
      | some ob =>
        rw [hw] at h
        cases ob <;> simp
        case cells c e f =>
          simp at h
          apply Array.ext_getElem?
          intro j
          rw [Array.getElem?_setIfInBounds]
          split
          · rename_i hj
            subst hj
            rw [h]; split
            · rfl
            · rename_i hj; rw [Array.getElem?_eq_none (by omega)] at h; cases h
          · rfl
    · rfl
  cases w
  simp only [World.setCell] at hh ⊢
  simp only [hh]
/-- What a loop of reads has put down: what was read, then noughts. -/
def padTo (n : Nat) (l : List Int) : List Int := l ++ List.replicate (n - l.length) 0
theorem padTo_nil (n : Nat) : padTo n [] = List.replicate n 0 := by simp [padTo]
theorem padTo_full {n : Nat} {l : List Int} (h : l.length = n) : padTo n l = l := by simp [padTo, h]
theorem padTo_set {n : Nat} {l : List Int} {x : Int} (h : l.length < n) : (padTo n l).set l.length x = padTo n (l ++ [x]) := by
  unfold padTo
  obtain ⟨m, hm⟩ : ∃ m, n - l.length = m + 1 := ⟨n - l.length - 1, by omega⟩
  rw [hm, List.set_append_right _ _ (Nat.le_refl _), Nat.sub_self, List.replicate_succ, List.set_cons_zero, List.length_append, List.length_singleton, show n - (l.length + 1) = m by omega, List.append_assoc]
  rfl
theorem rdN_snoc (b : List UInt8) (n : Nat) (s : St) : rdN b (n + 1) s = ((rdN b n s).1 ++ [(rd1 b (rdN b n s).2).1], (rd1 b (rdN b n s).2).2) := by
  rw [rdN_add]; rfl
theorem rdRows_snoc (b : List UInt8) : ∀ (n : Nat) (s : St), rdRows b (n + 1) s = ((rdRows b n s).1 ++ [Row.of (rdN b 5 (rdRows b n s).2).1], (rdN b 5 (rdRows b n s).2).2) := by
  intro n
  induction n with
  | zero => intro s; rfl
  | succ n ih =>
    intro s
    have e : ∀ m s, rdRows b (m + 1) s = (Row.of (rdN b 5 s).1 :: (rdRows b m (rdN b 5 s).2).1, (rdRows b m (rdN b 5 s).2).2) := fun m s => rfl
    rw [e (n + 1) s, ih, e n s]; rfl
theorem rdRows_len (b : List UInt8) : ∀ (n : Nat) (s : St), (rdRows b n s).1.length = n := by
  intro n
  induction n with
  | zero => intro s; rfl
  | succ n ih => intro s; rw [rdRows_snoc, List.length_append, ih]; rfl
theorem rd1_I64 (b : List UInt8) (s : St) : I64 (rd1 b s).1 := by
  unfold rd1
  split
  · split
    · have := decU_lt (b.drop s.at_)
      generalize (decU (b.drop s.at_)).1 = u at this
      unfold I64 zag
      split <;> omega
    · show I64 0; unfold I64; omega
  · show I64 0; unfold I64; omega
theorem Fresh.md {α : Type} {enc : α → List Value} {k B : Nat} {S : Nat → Prop} {w w' : World} {v : Value} {l : List α} (h : Fresh enc k B w v l) (hm : Md S w w') (hk : ∀ x, (enc x).length = k) (hn : ∀ g, v.ownBlock = some g → ¬ S g) : Fresh enc k B w' v l := by
  rcases h with h | ⟨g, cap, h1, h2, h3, h4, h5, h6, h7⟩
  · exact Or.inl h
  · have hg : ¬ S g := hn g (by rw [h1]; rfl)
    refine Or.inr ⟨g, cap, h1, h2, h3, h4, Nat.lt_of_lt_of_le h5 hm.size, hm.row hk h6 hg, fun i hi j hj => ?_⟩
    rw [World.frozen?_of_block (w := w) (hm.block g h5 hg)]; exact h7 i hi j hj
theorem Fresh.clip {α : Type} {enc : α → List Value} {k B n : Nat} {w : World} {a : Option Addr} {c : Nat} {l : List α} (hn : l.length = n) (h : Fresh enc k B w (.slice a n c) l) : Fresh enc k B w (.slice a n n) l := by
  subst hn
  rcases h with ⟨h1, h2⟩ | ⟨g, cap, h1, h2, h3, h4, h5, h6⟩
  · injection h1 with e1 e2 e3
    subst e1 h2
    exact Or.inl ⟨rfl, rfl⟩
  · injection h1 with e1 e2 e3
    subst e1
    exact Or.inr ⟨g, l.length, rfl, Nat.le_refl _, Nat.le_trans h2 h3, h4, h5, h6⟩
/-- A row of a call's own that reads are put into. -/
structure NumsAt (w : World) (b : Nat) (L : List Int) : Prop where
  arr : ∀ i (h : i < L.length), w.cell? ⟨b, i, none⟩ = some (.int .i64 L[i])
  free : ∀ i, i < L.length → w.frozen? ⟨b, i, none⟩ = false
theorem NumsAt.md {S : Nat → Prop} {w w' : World} {b : Nat} {L : List Int} (h : NumsAt w b L) (hm : Md S w w') (hn : ¬ S b) : NumsAt w' b L :=
  ⟨fun i hi => hm.cellv (h.arr i hi) hn, fun i hi => hm.frz (h.arr i hi) hn (h.free i hi)⟩
theorem NumsAt.set {w : World} {b : Nat} {L : List Int} (h : NumsAt w b L) {i : Nat} (hi : i < L.length) (x : Int) : NumsAt (w.setCell ⟨b, i, none⟩ (.int .i64 x)) b (L.set i x) := by
  refine ⟨fun j hj => ?_, fun j hj => by rw [frozen_set]; exact h.free j (by simpa using hj)⟩
  by_cases e : j = i
  · subst e; rw [cell_set_same (h.arr j hi)]; simp
  · rw [cell_set_other (Or.inr (by simpa using e)), h.arr j (by simpa using hj)]; simp [List.getElem_set_ne (Ne.symm e)]
theorem NumsAt.new5 {w : World} {T : TypeId} : NumsAt (w.alloc (.cells #[.int .i64 0, .int .i64 0, .int .i64 0, .int .i64 0, .int .i64 0] T)) w.heap.size [0, 0, 0, 0, 0] := by
  refine ⟨fun i hi => ?_, fun i _ => new_free _ _ _ i rfl⟩
  have h5 : i = 0 ∨ i = 1 ∨ i = 2 ∨ i = 3 ∨ i = 4 := by simp at hi; omega
  rcases h5 with rfl | rfl | rfl | rfl | rfl <;> exact new_cell _ _ _ _ rfl
theorem NumsAt.r5 {w : World} {b : Nat} {x0 x1 x2 x3 x4 : Int} (h : NumsAt w b [x0, x1, x2, x3, x4]) :
    w.cell? ⟨b, 0, none⟩ = some (.int .i64 x0) ∧ w.cell? ⟨b, 1, none⟩ = some (.int .i64 x1) ∧ w.cell? ⟨b, 2, none⟩ = some (.int .i64 x2) ∧ w.cell? ⟨b, 3, none⟩ = some (.int .i64 x3) ∧ w.cell? ⟨b, 4, none⟩ = some (.int .i64 x4) :=
  ⟨h.arr 0 (by simp), h.arr 1 (by simp), h.arr 2 (by simp), h.arr 3 (by simp), h.arr 4 (by simp)⟩
end Go.Proofs.YtmnmoadkpidggaaDoor
