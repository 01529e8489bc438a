/- Messages: msg.Same: its contract. Condition: the rows read as lists. -/
import Derived.Test.YtmnmoadkpidggaaDoorMsgD
import Derived.ChangeKeysEq
namespace Go.Proofs.YtmnmoadkpidggaaDoor
set_option linter.unusedSimpArgs false
set_option linter.unusedVariables false
open Go.RowKit

theorem i64_info : (Tryd.prog.info? 2).map (fun i => (i.zero, i.size, i.bytes)) = some (some (.int .i64 0), 1, 8) := by kernel_rfl
theorem rows_neq (p1 p2 p3 p4 p5 q1 q2 q3 q4 q5 : Int) (W : World) : (binOp .neq 67 (.agg #[.int .i64 p1, .int .i64 p2, .int .i64 p3, .int .i64 p4, .int .i64 p5]) (.agg #[.int .i64 q1, .int .i64 q2, .int .i64 q3, .int .i64 q4, .int .i64 q5])).run Tryd.prog W = .ok (.bool (!decide ((⟨p1, p2, p3, p4, p5⟩ : Row) = ⟨q1, q2, q3, q4, q5⟩))) W := by
  obtain ⟨i0, hi, hz0, hz1, hz2⟩ := info_parts i64_info
  rw [run_neq_struct, run_equalIn_array W 9999 _ _ Tryd.underlying67 hi, show List.range 5 = [0, 1, 2, 3, 4] from rfl]
  have hc : Tryd.prog.cellsOf 2 = 1 := by kernel_rfl
  have he : ∀ (W : World) (a b : Int), (Op.equalIn 9999 2 (.int .i64 a) (.int .i64 b)).run Tryd.prog W = .ok (a == b) W := fun W a b => run_equalIn_int (P := Tryd.prog) (w := W) (d := 9998) (t := 2) (k := .i64) (k' := .i64) (a := a) (b := b) (h := Tryd.underlying2)
  simp only [Op.eqItems, hc]
  go_simp
  by_cases h1 : p1 = q1 <;> by_cases h2 : p2 = q2 <;> by_cases h3 : p3 = q3 <;> by_cases h4 : p4 = q4 <;> by_cases h5 : p5 = q5 <;> simp [h1, h2, h3, h4, h5]
theorem six_eql (p1 p2 p3 p4 p5 p6 q1 q2 q3 q4 q5 q6 : Int) (W : World) : (binOp .eql 44 (.agg #[.int .i64 p1, .int .i64 p2, .int .i64 p3, .int .i64 p4, .int .i64 p5, .int .i64 p6]) (.agg #[.int .i64 q1, .int .i64 q2, .int .i64 q3, .int .i64 q4, .int .i64 q5, .int .i64 q6])).run Tryd.prog W = .ok (.bool (decide ([p1, p2, p3, p4, p5, p6] = [q1, q2, q3, q4, q5, q6]))) W := by
  obtain ⟨i0, hi, hz0, hz1, hz2⟩ := info_parts i64_info
  rw [run_eql_struct, run_equalIn_array W 9999 _ _ Tryd.underlying44 hi, show List.range 6 = [0, 1, 2, 3, 4, 5] from rfl]
  have hc : Tryd.prog.cellsOf 2 = 1 := by kernel_rfl
  have he : ∀ (W : World) (a b : Int), (Op.equalIn 9999 2 (.int .i64 a) (.int .i64 b)).run Tryd.prog W = .ok (a == b) W := fun W a b => run_equalIn_int (P := Tryd.prog) (w := W) (d := 9998) (t := 2) (k := .i64) (k' := .i64) (a := a) (b := b) (h := Tryd.underlying2)
  simp only [Op.eqItems, hc]
  go_simp
  by_cases h1 : p1 = q1 <;> by_cases h2 : p2 = q2 <;> by_cases h3 : p3 = q3 <;> by_cases h4 : p4 = q4 <;> by_cases h5 : p5 = q5 <;> by_cases h6 : p6 = q6 <;> simp [h1, h2, h3, h4, h5, h6]
theorem take_succ_eq {α : Type} {l1 l2 : List α} {k : Nat} (h1 : k < l1.length) (h2 : k < l2.length) (he : l1.take k = l2.take k) (hx : l1[k] = l2[k]) : l1.take (k + 1) = l2.take (k + 1) := by
  rw [List.take_succ_eq_append_getElem h1, List.take_succ_eq_append_getElem h2, he, hx]

set_option maxHeartbeats 400000 in
theorem rows_Equal (v1 v2 : Value) (l1 l2 : List Row) (w : World) (h1 : SlRow w v1 l1) (h2 : SlRow w v2 l2) (hn1 : l1.length ≤ 1000000) (hn2 : l2.length ≤ 1000000) :
    Calls Tryd.prog 61 #[v1, v2] w fun e w' => e = .returned (.bool (decide (l1 = l2))) ∧ Bel w w' := by
  by_cases hl : l1.length = l2.length
  · rcases h1 with ⟨rfl, rfl⟩ | ⟨b1, o1, cap1, rfl, hcap1, hm1, hc1⟩
    · obtain rfl : l2 = [] := List.length_eq_zero_iff.1 hl.symm
      have hv2 : ∃ a c, v2 = .slice a 0 c := by
        rcases h2 with ⟨rfl, _⟩ | ⟨b, o, c, rfl, _⟩
        · exact ⟨_, _, rfl⟩
        · exact ⟨_, _, rfl⟩
      obtain ⟨a, c, rfl⟩ := hv2
      clear h2
      go_enter Tryd.func61, Tryd.ntmps61
      go_wp2
      go_loop [13] (fun i => i = .int .i64 0) (fun _ => 0)
      case atStart => rfl
      case round =>
        subst hrel
        go_wp2
        go_ret
        exact ⟨by simp, Bel.rfl'⟩
    · rcases h2 with ⟨rfl, rfl⟩ | ⟨b2, o2, cap2, rfl, hcap2, hm2, hc2⟩
      · obtain rfl : l1 = [] := List.length_eq_zero_iff.1 hl
        clear hc1
        go_enter Tryd.func61, Tryd.ntmps61
        go_wp2
        go_loop [13] (fun i => i = .int .i64 0) (fun _ => 0)
        case atStart => rfl
        case round =>
          subst hrel
          go_wp2
          go_ret
          exact ⟨by simp, Bel.rfl'⟩
      · rw [← hl] at hcap2 ⊢
        have HC1 := Lib.hid hc1
        have HC2 := Lib.hid hc2
        have HL := Lib.hid hl
        clear hc1 hc2 hl
        go_enter Tryd.func61, Tryd.ntmps61
        go_wp2
        go_loopw [13] (fun i wr => ∃ k : Nat, k ≤ l1.length ∧ i = .int .i64 k ∧ Bel w wr ∧ Hid (l1.take k = l2.take k)) (fun i _ => l1.length - (intOf i).toNat)
        case atStart => exact ⟨0, by omega, rfl, Bel.rfl', by simp [Hid]⟩
        case round =>
          obtain ⟨k, hk, rfl, hB, HP⟩ := hrel
          by_cases hlt : k < l1.length
          · have hlt2 : k < l2.length := by rw [← HL.out]; exact hlt
            obtain ⟨d0, d1, d2, d3, d4⟩ := row_cells (HC1.out.bel encRow_len hB) hlt
            obtain ⟨e0, e1, e2, e3, e4⟩ := row_cells (HC2.out.bel encRow_len hB) hlt2
            generalize hx : l1[k] = x at d0 d1 d2 d3 d4
            generalize hy : l2[k] = y at e0 e1 e2 e3 e4
            have HX := Lib.hid hx
            have HY := Lib.hid hy
            clear hx hy
            obtain ⟨p1, p2, p3, p4, p5⟩ := x
            obtain ⟨q1, q2, q3, q4, q5⟩ := y
            have hi0 : (0 : Int) ≤ (k : Int) := by omega
            have hi1 : (k : Int) < (l1.length : Int) := by omega
            have hne := fun W => rows_neq p1 p2 p3 p4 p5 q1 q2 q3 q4 q5 W
            by_cases hq : (⟨p1, p2, p3, p4, p5⟩ : Row) = ⟨q1, q2, q3, q4, q5⟩
            · have hqq : decide ((⟨p1, p2, p3, p4, p5⟩ : Row) = ⟨q1, q2, q3, q4, q5⟩) = true := by simpa using hq
              rw [hqq] at hne
              have HT := Lib.hid (take_succ_eq hlt hlt2 HP.out (by rw [HX.out, HY.out]; exact hq))
              simp only [Bool.not_true] at hne
              clear hq hqq
              go_wp2
              go_quiet (fail)
              go_wp2
              go_roundw
              case rel => exact ⟨k + 1, hlt, by go_num, hB.dn _, HT.out⟩
              case measure => simp [intOf]; omega
            · have hqq : decide ((⟨p1, p2, p3, p4, p5⟩ : Row) = ⟨q1, q2, q3, q4, q5⟩) = false := by simpa using hq
              rw [hqq] at hne
              have HT : Hid (¬ l1 = l2) := by
                intro e; subst e; exact hq (by rw [← HX.out, ← HY.out])
              simp only [Bool.not_false] at hne
              clear hq hqq
              go_wp2
              go_quiet (fail)
              go_wp2
              go_ret
              exact ⟨by rw [decide_eq_false HT.out]; rfl, hB.dn _⟩
          · obtain rfl : k = l1.length := by omega
            have HT : Hid (l1 = l2) := by
              have := HP.out
              rw [List.take_of_length_le (Nat.le_refl _), List.take_of_length_le (by rw [HL.out]; exact Nat.le_refl _)] at this
              exact this
            go_wp2
            go_ret
            exact ⟨by rw [decide_eq_true HT.out]; rfl, hB⟩
  · have hv1 : ∃ a c, v1 = .slice a l1.length c := by
      rcases h1 with ⟨rfl, rfl⟩ | ⟨b, o, c, rfl, _⟩
      · exact ⟨_, _, rfl⟩
      · exact ⟨_, _, rfl⟩
    have hv2 : ∃ a c, v2 = .slice a l2.length c := by
      rcases h2 with ⟨rfl, rfl⟩ | ⟨b, o, c, rfl, _⟩
      · exact ⟨_, _, rfl⟩
      · exact ⟨_, _, rfl⟩
    obtain ⟨a1, c1, rfl⟩ := hv1
    obtain ⟨a2, c2, rfl⟩ := hv2
    have HT : Hid (¬ l1 = l2) := by intro e; subst e; exact hl rfl
    have hl' : ((l1.length : Int) != (l2.length : Int)) = true := by rw [bne_iff_ne]; omega
    clear h1 h2 hl
    go_enter Tryd.func61, Tryd.ntmps61
    go_wp2
    go_ret
    exact ⟨by rw [decide_eq_false HT.out]; rfl, Bel.rfl'⟩

/-- Two messages are one: all that they have. -/
def sameM (m n : Msg) : Bool := decide (m.k = n.k) && decide (m.s = n.s) && decide (m.a = n.a) && decide (m.l = n.l)
theorem sameM_self (m : Msg) : sameM m m = true := by simp [sameM]
set_option maxRecDepth 100000 in
set_option maxHeartbeats 1000000 in
theorem msg_Same (m n : Msg) (v1 v2 : Value) (w : World) (h1 : SlRow w v1 m.l) (h2 : SlRow w v2 n.l) (hn1 : m.l.length ≤ 1000000) (hn2 : n.l.length ≤ 1000000) (ha1 : m.a.length = 6) (ha2 : n.a.length = 6) :
    Calls Tryd.prog 26 #[msgV m v1, msgV n v2] w fun e w' => e = .returned (.bool (sameM m n)) ∧ Bel w w' := by
  have HEQ := Lib.hid (fun W (hB : Bel w W) => rows_Equal v1 v2 m.l n.l W (h1.bel encRow_len hB) (h2.bel encRow_len hB) hn1 hn2)
  obtain ⟨a0, c0, rfl⟩ := slot_shape h1
  obtain ⟨a1, c1, rfl⟩ := slot_shape h2
  clear h1 h2
  obtain ⟨k, s, a, l⟩ := m
  obtain ⟨k2, s2, b, l2⟩ := n
  dsimp only at ha1 ha2 HEQ
  match a, ha1, b, ha2 with
  | [p1, p2, p3, p4, p5, p6], _, [q1, q2, q3, q4, q5, q6], _ =>
    have h6 := fun W => six_eql p1 p2 p3 p4 p5 p6 q1 q2 q3 q4 q5 q6 W
    unfold msgV sameM
    dsimp only
    generalize decide ([p1, p2, p3, p4, p5, p6] = [q1, q2, q3, q4, q5, q6]) = x6 at h6 ⊢
    generalize decide (l = l2) = xl at HEQ ⊢
    go_enter Tryd.func26, Tryd.ntmps26
    by_cases e1 : k = k2
    · by_cases e2 : s = s2
      · have e1b : (k == k2) = true := by simp [e1]
        have e2b : (s == s2) = true := by simp [e2]
        cases x6 with
        | true =>
          go_wp2_with fail
          refine (HEQ.out _ ((Bel.rfl'.al _).al _)).mono ?_
          rintro e w' ⟨rfl, hb⟩
          go_wp2_with fail
          go_ret
          exact ⟨by simp [e1, e2], ((Bel.rfl'.al _).al _).step hb⟩
        | false =>
          go_wp2_with fail
          go_ret
          exact ⟨by simp [e1, e2], (Bel.rfl'.al _).al _⟩
      · have e2b : (s == s2) = false := by simp [e2]
        have e1b : (k == k2) = true := by simp [e1]
        go_wp2_with fail
        go_ret
        exact ⟨by simp [e1, e2], (Bel.rfl'.al _).al _⟩
    · have e1b : (k == k2) = false := by simp [e1]
      go_wp2_with fail
      go_ret
      exact ⟨by simp [e1], (Bel.rfl'.al _).al _⟩
end Go.Proofs.YtmnmoadkpidggaaDoor
