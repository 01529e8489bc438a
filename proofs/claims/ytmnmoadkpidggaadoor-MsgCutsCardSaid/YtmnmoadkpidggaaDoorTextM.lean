/- Messages as texts: msg.Text: its contract. Condition: numbers that can be told. -/
import Derived.Test.YtmnmoadkpidggaaDoorWords
import Derived.Test.YtmnmoadkpidggaaDoorMsgD
import Derived.Test.YtmnmoadkpidggaaDoorAppend
namespace Go.Proofs.YtmnmoadkpidggaaDoor
set_option linter.unusedSimpArgs false
set_option linter.unusedVariables false
open Go.RowKit

def rowT (r : Row) : List UInt8 := [32, 91] ++ wordsS r.l ++ [93]
def textM (m : Msg) : List UInt8 := wordsS [m.k, m.s] ++ [32] ++ wordsS m.a ++ m.l.flatMap rowT
/-- A message that can be told. -/
def TellsM (w : World) (m : Msg) : Prop := Tells w m.k ∧ Tells w m.s ∧ m.a.length = 6 ∧ (∀ n ∈ m.a, Tells w n) ∧ ∀ r ∈ m.l, ∀ n ∈ r.l, Tells w n
theorem rowT_len {w : World} {r : Row} (h : ∀ n ∈ r.l, Tells w n) : (rowT r).length ≤ 120 := by
  have := wordsS_len w r.l h
  unfold rowT
  have h5 : r.l.length = 5 := rfl
  simp; omega
theorem rowsT_len {w : World} : ∀ (l : List Row) (_ : ∀ r ∈ l, ∀ n ∈ r.l, Tells w n), (l.flatMap rowT).length ≤ l.length * 120 := by
  intro l
  induction l with
  | nil => intro _; simp
  | cons r t ih =>
    intro h
    have h1 := rowT_len (h r (by simp))
    have h2 := ih (fun x hx => h x (by simp [hx]))
    rw [List.flatMap_cons, List.length_append, List.length_cons, Nat.add_mul]; omega

set_option maxRecDepth 100000 in
set_option maxHeartbeats 2000000 in
theorem msg_Text (m : Msg) (lv : Value) (w : World) (ht : TellsM w m) (hs : SlRow w lv m.l) (hl : m.l.length ≤ 1000) :
    Calls Tryd.prog 23 #[msgV m lv] w fun e w' => e = .returned (.string ⟨(textM m).toArray⟩) ∧ Bel w w' := by
  obtain ⟨tk, ts, hal, hta, htr⟩ := ht
  obtain ⟨k, s, a, l⟩ := m
  obtain ⟨la, lc, rfl⟩ := slot_shape hs
  have HS := Lib.hid hs
  have HTR := Lib.hid htr
  have HTA := Lib.hid hta
  have HT2 : Hid (∀ n ∈ [k, s], Tells w n) := fun n hn => by
    simp only [List.mem_cons, List.not_mem_nil, or_false] at hn
    rcases hn with rfl | rfl
    · exact tk
    · exact ts
  have hl2 := wordsS_len w [k, s] HT2.out
  have hl6 := wordsS_len w a hta
  dsimp only at hal hl
  match a, hal with
  | [a0, a1, a2, a3, a4, a5], _ =>
    clear hs htr hta tk ts
    have HX : Hid (textM ⟨k, s, [a0, a1, a2, a3, a4, a5], l⟩ = wordsS [k, s] ++ [32] ++ wordsS [a0, a1, a2, a3, a4, a5] ++ l.flatMap rowT) := rfl
    generalize textM ⟨k, s, [a0, a1, a2, a3, a4, a5], l⟩ = TX at HX ⊢
    unfold msgV
    dsimp only
    simp only [List.length_cons, List.length_nil] at hl2 hl6
    have HW2 := Lib.hid (fun n W (h1 : W.cell? ⟨n, 0, none⟩ = some (.int .i64 k)) (h2 : W.cell? ⟨n, 1, none⟩ = some (.int .i64 s)) (hB : Bel w W) => msg_words (.slice (some ⟨n, 0, none⟩) 2 2) [k, s] W (sln_of rfl (Nat.le_refl _) (by unfold maxLen; omega) (fun i hi => by
      have hi2 : i = 0 ∨ i = 1 := by simp at hi; omega
      rcases hi2 with rfl | rfl
      · exact h1
      · exact h2)) (by simp) (by simp) (fun x hx => (HT2.out x hx).bel hB))
    have HW6 := Lib.hid (fun W (M : MAt W w.heap.size k s [a0, a1, a2, a3, a4, a5] (.slice la l.length lc)) (hB : Bel w W) => msg_words (.slice (some ⟨w.heap.size, 2, none⟩) 6 6) [a0, a1, a2, a3, a4, a5] W (sln_of rfl (Nat.le_refl _) (by unfold maxLen; omega) (fun i hi => num_cell M.arr hi)) (by simp) (by simp) (fun x hx => (HTA.out x hx).bel hB))
    generalize wordsS [k, s] = t2 at HX hl2 HW2
    generalize wordsS [a0, a1, a2, a3, a4, a5] = t6 at HX hl6 HW6
    have A1 := fun (W : World) => str_add Tryd.prog W t2 [32] (by omega) (by decide)
    have A2 := fun (W : World) => str_add Tryd.prog W (t2 ++ [32]) t6 (by simp; omega) (by omega)
    obtain ⟨z1, hu1⟩ : ∃ u, u = (⟨(t2 ++ [32]).toArray⟩ : ByteArray) := ⟨_, rfl⟩
    rw [← hu1] at A1 A2
    obtain ⟨z2, hu2⟩ : ∃ u, u = (⟨(t2 ++ [32] ++ t6).toArray⟩ : ByteArray) := ⟨_, rfl⟩
    rw [← hu2] at A2
    have HZ : Hid (Lib.strCells z2 = Lib.byteCells (t2 ++ [32] ++ t6)) := by unfold Hid; rw [hu2]; rfl
    have hz : z2.size ≤ 1000 := by rw [hu2]; simp [ByteArray.size]; omega
    have ht0 : (t2 ++ [32] ++ t6).length ≤ 1000 := by simp; omega
    generalize t2 ++ [32] ++ t6 = t0 at HX HZ ht0
    clear hu1 hu2 hl2 hl6
    go_enter Tryd.func23, Tryd.ntmps23
    go_wp2_with fail
    obtain ⟨W0, hW0⟩ : ∃ W0, W0 = (w.alloc (.cells #[.int .i64 k, .int .i64 s, .int .i64 a0, .int .i64 a1, .int .i64 a2, .int .i64 a3, .int .i64 a4, .int .i64 a5, .slice la l.length lc] 47)).alloc (.cells #[.pointer none, .slice none 0 0] 108) := ⟨_, rfl⟩
    have HM0 : Hid (MAt W0 w.heap.size k s [a0, a1, a2, a3, a4, a5] (.slice la l.length lc)) := by rw [hW0]; exact MAt.new.bel (Bel.rfl'.al _)
    have hB0 : Bel w W0 := by rw [hW0]; exact (Bel.rfl'.al _).al _
    have hs0 : W0.heap.size = w.heap.size + 2 := by rw [hW0]; simp
    have HB0 : Hid (Lib.BuilderAt 108 5 (w.heap.size + 1) (w.heap.size + 1) (.pointer none) [] W0) := by
      rw [hW0]
      exact ⟨Nat.le_refl _, _, by simpa using heap_alloc_new (w.alloc _) _, World.ownsRow_nil _ _ _ _, by simp [Value.ownBlock]⟩
    have c0 := HM0.out.c0
    have c1 := HM0.out.c1
    rw [← hW0]
    clear hW0
    have HWS := Lib.hid (fun W (hB : Bel W0 W) => bld_Write (w.heap.size + 1) (w.heap.size + 1) [] z2 W (Or.inl (bld_bel HB0.out hB)) (by simp; omega) (by have := hB.size; omega))
    go_region_held3 (fun w' => w'.cell? ⟨w.heap.size, 0, none⟩ = some (.int .i64 k) ∧ w'.cell? ⟨w.heap.size, 1, none⟩ = some (.int .i64 s))
      (first | go_keep | (go_split_ands; exact ⟨(hb3.cell (p := ⟨w.heap.size, 0, none⟩) (Nat.lt_succ_self _)).trans (by assumption), (hb3.cell (p := ⟨w.heap.size, 1, none⟩) (Nat.lt_succ_self _)).trans (by assumption)⟩) | (go_split_ands; exact ⟨hb2.cellv (by assumption), hb2.cellv (by assumption)⟩) | (go_split_ands; exact ⟨hb.cellv (by assumption), hb.cellv (by assumption)⟩))
      (first | (go_at_call 52; (with_reducible refine (HW2.out _ _ ?_ ?_ ((hB0.al _).dr)).mono ?_); (exact new_cell W0 _ _ 0 hs0); (exact new_cell W0 _ _ 1 hs0); rintro e w' ⟨rfl, hb⟩) | (go_at_call 52; (with_reducible refine (HW6.out _ (HM0.out.bel (((Bel.rfl'.al _).dr).step hb)) (((hB0.al _).dr).step hb)).mono ?_); rintro e w'' ⟨rfl, hb2⟩) | (go_at_call 51; (with_reducible refine (HWS.out _ ((((Bel.rfl'.al _).dr).step hb).step hb2)).mono ?_); rintro e w3 ⟨rfl, hbld, hb3⟩) | fail)
    all_goals
      have HBw : Bel w w3 := below_bel ((((hB0.al _).dr).step hb).step hb2) hb3 (by omega)
      have M2 := HM0.out.bel ((((Bel.rfl'.al _).dr).step hb).step hb2)
      have c8 : w3.cell? ⟨w.heap.size, 8, none⟩ = some (.slice la l.length lc) := (hb3.cell (p := ⟨w.heap.size, 8, none⟩) (Nat.lt_succ_self _)).trans M2.c8
      have hs3 : w.heap.size + 2 ≤ w3.heap.size := by
        have e1 := hb.size
        have e2 := hb2.size
        have e3 := hb3.size
        simp at e1
        omega
      have HBD : Hid (Lib.BuilderAt 108 5 (w.heap.size + 1) (w.heap.size + 1) (.pointer (some ⟨w.heap.size + 1, 0, none⟩)) (Lib.byteCells (t0 ++ (l.take 0).flatMap rowT)) w3) := by
        unfold Hid
        rw [List.take_zero, List.flatMap_nil, List.append_nil, ← HZ.out]; simpa using hbld
      clear hbld hb3 hb2 hb M2
      go_wp2_with fail
      go_loopw [21] (fun jv wr => ∃ j : Nat, j ≤ l.length ∧ jv = .int .i64 j ∧ Bel w wr ∧ w.heap.size + 2 ≤ wr.heap.size ∧ Hid (Lib.BuilderAt 108 5 (w.heap.size + 1) (w.heap.size + 1) (.pointer (some ⟨w.heap.size + 1, 0, none⟩)) (Lib.byteCells (t0 ++ (l.take j).flatMap rowT)) wr)) (fun jv _ => l.length - (intOf jv).toNat)
      case atStart => exact ⟨0, by omega, rfl, HBw, hs3, HBD.out⟩
      case round =>
        obtain ⟨j, hj, rfl, hBr, hsr, HBR⟩ := hrel
        have hxl : (t0 ++ (l.take j).flatMap rowT).length ≤ 1000000 := by
          have h1 := rowsT_len (w := w) (l.take j) (fun r hr => HTR.out r (List.mem_of_mem_take hr))
          rw [List.length_take] at h1
          rw [List.length_append]
          omega
        by_cases hlt : j < l.length
        · have hsl := HS.out.bel encRow_len hBr
          rcases hsl with ⟨_, h0⟩ | ⟨b, o, cap, hq, hcap, hmm, hrow⟩
          · rw [h0] at hlt; simp at hlt
          obtain ⟨rfl, rfl⟩ : la = some ⟨b, o, none⟩ ∧ lc = cap := by injection hq with e1 _ e2; exact ⟨e1, e2⟩
          obtain ⟨r0, r1, r2, r3, r4⟩ := row_cells hrow hlt
          have HT : Hid ((l.take (j + 1)).flatMap rowT = (l.take j).flatMap rowT ++ rowT l[j]) := by
            unfold Hid; rw [List.take_succ_eq_append_getElem hlt, List.flatMap_append]; simp
          have HXR := Lib.hid (HTR.out l[j] (List.getElem_mem hlt))
          clear hq hrow
          generalize l[j] = r at r0 r1 r2 r3 r4 HT HXR
          have hji : (0 : Int) ≤ (j : Int) := by omega
          have hwl := wordsS_len w r.l HXR.out
          have h5 : r.l.length = 5 := rfl
          have HRT : Hid (rowT r = [32, 91] ++ wordsS r.l ++ [93]) := rfl
          have HWR := Lib.hid (fun W (hB : Bel w W) (h : SlN W (.slice (some ⟨wr.heap.size, 0, none⟩) 5 5) r.l) => msg_words (.slice (some ⟨wr.heap.size, 0, none⟩) 5 5) r.l W h (by simp [Row.l]) (by simp [Row.l]) (fun x hx => (HXR.out x hx).bel hB))
          generalize wordsS r.l = tr at HWR HRT hwl
          rw [h5] at hwl
          have B1 := fun (W : World) => str_add Tryd.prog W [32, 91] tr (by decide) (by omega)
          have B2 := fun (W : World) => str_add Tryd.prog W ([32, 91] ++ tr) [93] (by simp; omega) (by decide)
          obtain ⟨z3, hu3⟩ : ∃ u, u = (⟨([32, 91] ++ tr).toArray⟩ : ByteArray) := ⟨_, rfl⟩
          rw [← hu3] at B1 B2
          rw [← HRT.out] at B2
          clear hu3 h5
          go_wp2_with fail
          refine (HWR.out _ (hBr.al _) (sln_of rfl (Nat.le_refl _) (by simp [maxLen, Row.l]) (fun i hi => ?_))).mono ?_
          · have hi2 : i = 0 ∨ i = 1 ∨ i = 2 ∨ i = 3 ∨ i = 4 := by simp [Row.l] at hi; omega
            rcases hi2 with rfl | rfl | rfl | rfl | rfl
            · exact new_cell _ _ _ 0 rfl
            · exact new_cell _ _ _ 1 rfl
            · exact new_cell _ _ _ 2 rfl
            · exact new_cell _ _ _ 3 rfl
            · exact new_cell _ _ _ 4 rfl
          rintro en w5 ⟨rfl, hb5⟩
          have hs5 := hb5.size
          simp at hs5
          have hB5 : Bel w w5 := (hBr.al _).step hb5
          have hsz : (⟨(rowT r).toArray⟩ : ByteArray).size ≤ 200 := by simp [ByteArray.size, HRT.out]; omega
          have HWS2 := Lib.hid (bld_Write (w.heap.size + 1) (w.heap.size + 1) _ ⟨(rowT r).toArray⟩ w5 (Or.inr (bld_bel HBR.out ((Bel.rfl'.al _).step hb5))) (by rw [Lib.byteCells_length]; omega) (by omega))
          clear hb5
          go_wp2_with fail
          refine HWS2.out.mono ?_
          rintro en w6 ⟨rfl, hbd, hb6⟩
          have hs6 := hb6.size
          have HB6 := Lib.hid hbd
          clear hbd
          go_wp2_with fail
          go_roundw
          case rel =>
            refine ⟨j + 1, hlt, by go_num, below_bel hB5 hb6 (by omega), by omega, ?_⟩
            unfold Hid
            rw [HT.out, ← List.append_assoc, Lib.byteCells_append]
            exact HB6.out
          case measure => simp [intOf]; omega
        · obtain rfl : j = l.length := by omega
          rw [List.take_of_length_le (Nat.le_refl _), ← HX.out] at HBR
          have HST := Lib.hid (Tryd.Builder_String_any (w.heap.size + 1) (w.heap.size + 1) TX wr (Or.inr HBR.out) (by omega))
          go_wp2_with fail
          refine HST.out.mono ?_
          rintro en w6 ⟨rfl, hb6⟩
          go_wp2_with fail
          go_ret
          exact ⟨rfl, below_bel hBr hb6 (by omega)⟩
end Go.Proofs.YtmnmoadkpidggaaDoor
