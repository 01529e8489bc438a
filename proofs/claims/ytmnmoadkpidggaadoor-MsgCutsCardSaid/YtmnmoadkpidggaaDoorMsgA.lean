/- Messages: which kinds there are, how many rows each has, what is wrong with a message's numbers: the program's and the reference's: one plain function. Condition: int64 numbers. -/
import Derived.Test.YtmnmoadkpidggaaDoorDecB
import Derived.Test.YtmnmoadkpidggaaDoorEnc
import Derived.Test.YtmnmoadkpidggaaDoorWrongs
namespace Go.Proofs.YtmnmoadkpidggaaDoor
set_option linter.unusedSimpArgs false
set_option linter.unusedVariables false
open Go.RowKit

theorem known_cases (k : Int) : (knownK k = false ∧ (k < 1 ∨ (15 < k ∧ k < 33) ∨ (38 < k ∧ k < 65) ∨ 68 < k)) ∨ (knownK k = true ∧ ((1 ≤ k ∧ k ≤ 15) ∨ (33 ≤ k ∧ k ≤ 38) ∨ (65 ≤ k ∧ k ≤ 68))) := by
  unfold knownK
  by_cases h1 : 1 ≤ k ∧ k ≤ 15
  · right; simp [h1]
  · by_cases h2 : 33 ≤ k ∧ k ≤ 38
    · right; simp [h2]
    · by_cases h3 : 65 ≤ k ∧ k ≤ 68
      · right; simp [h3]
      · left; simp [h1, h2, h3]; omega

theorem ret_bool {a b : Bool} (h : a = b) : Ending.returned (.bool a) = .returned (.bool b) := by rw [h]
theorem msg_Known (k : Int) (w : World) : Calls Tryd.prog 44 #[.int .i64 k] w fun e w' => e = .returned (.bool (knownK k)) ∧ w' = w := by
  rcases known_cases k with ⟨e, h | ⟨h1, h2⟩ | ⟨h1, h2⟩ | h⟩ | ⟨e, ⟨h1, h2⟩ | ⟨h1, h2⟩ | ⟨h1, h2⟩⟩
  all_goals
    rw [e]; clear e
    go_enter Tryd.func44, Tryd.ntmps44
    go_wp2
    go_ret
    exact ⟨ret_bool (by first | rfl | (simp; done) | (simp; omega)), rfl⟩
theorem ref_Known (k : Int) (w : World) : Calls Tryd.prog 30 #[.int .i64 k] w fun e w' => e = .returned (.bool (knownK k)) ∧ w' = w := by
  rcases known_cases k with ⟨e, h | ⟨h1, h2⟩ | ⟨h1, h2⟩ | h⟩ | ⟨e, ⟨h1, h2⟩ | ⟨h1, h2⟩ | ⟨h1, h2⟩⟩
  all_goals
    rw [e]; clear e
    go_enter Tryd.func30, Tryd.ntmps30
    go_wp2
    go_ret
    exact ⟨ret_bool (by first | rfl | (simp; done) | (simp; omega)), rfl⟩
theorem rows_cases (k : Int) : (k = 8 ∧ rowsK k = (1, 50)) ∨ (k = 37 ∧ rowsK k = (0, 50)) ∨ (k = 11 ∧ rowsK k = (2, 4)) ∨ (k = 67 ∧ rowsK k = (0, 64)) ∨ ((k == 8) = false ∧ (k == 37) = false ∧ (k == 11) = false ∧ (k == 67) = false ∧ rowsK k = (0, 0)) := by
  unfold rowsK
  by_cases h1 : k = 8
  · left; exact ⟨h1, by rw [if_pos h1]⟩
  · by_cases h2 : k = 37
    · right; left; exact ⟨h2, by rw [if_neg h1, if_pos h2]⟩
    · by_cases h3 : k = 11
      · right; right; left; exact ⟨h3, by rw [if_neg h1, if_neg h2, if_pos h3]⟩
      · by_cases h4 : k = 67
        · right; right; right; left; exact ⟨h4, by rw [if_neg h1, if_neg h2, if_neg h3, if_pos h4]⟩
        · right; right; right; right
          exact ⟨by simp [h1], by simp [h2], by simp [h3], by simp [h4], by rw [if_neg h1, if_neg h2, if_neg h3, if_neg h4]⟩

theorem msg_Rows (k : Int) (w : World) : Calls Tryd.prog 43 #[.int .i64 k] w fun e w' => e = .returned (.tuple #[.int .i64 (rowsK k).1, .int .i64 (rowsK k).2]) ∧ w' = w := by
  rcases rows_cases k with ⟨rfl, e⟩ | ⟨rfl, e⟩ | ⟨rfl, e⟩ | ⟨rfl, e⟩ | ⟨h1, h2, h3, h4, e⟩
  all_goals
    rw [e]; clear e
    go_enter Tryd.func43, Tryd.ntmps43
    go_wp2
    go_ret2
    exact ⟨rfl, rfl⟩
theorem ref_Rows (k : Int) (w : World) : Calls Tryd.prog 29 #[.int .i64 k] w fun e w' => e = .returned (.tuple #[.int .i64 (rowsK k).1, .int .i64 (rowsK k).2]) ∧ w' = w := by
  rcases rows_cases k with ⟨rfl, e⟩ | ⟨rfl, e⟩ | ⟨rfl, e⟩ | ⟨rfl, e⟩ | ⟨h1, h2, h3, h4, e⟩
  all_goals
    rw [e]; clear e
    go_enter Tryd.func29, Tryd.ntmps29
    go_wp2
    go_ret2
    exact ⟨rfl, rfl⟩
theorem rows_bd (k : Int) : 0 ≤ (rowsK k).1 ∧ (rowsK k).1 ≤ 64 ∧ 0 ≤ (rowsK k).2 ∧ (rowsK k).2 ≤ 64 := by
  rcases rows_cases k with ⟨_, e⟩ | ⟨_, e⟩ | ⟨_, e⟩ | ⟨_, e⟩ | ⟨_, _, _, _, e⟩ <;> rw [e] <;> decide
theorem cutK_bd (k : Int) : 0 ≤ cutK k ∧ cutK k ≤ 255 := by unfold cutK; split; omega; split <;> omega

theorem ref_cut (k : Int) (w : World) : Calls Tryd.prog 49 #[.int .i64 k] w fun e w' => e = .returned (.int .i64 (cutK k)) ∧ w' = w := by
  unfold cutK
  by_cases h1 : k < 0
  · rw [if_pos h1]
    go_enter Tryd.func49, Tryd.ntmps49
    go_wp2
    go_ret
    exact ⟨rfl, rfl⟩
  · rw [if_neg h1]
    by_cases h2 : 255 < k
    · rw [if_pos h2]
      go_enter Tryd.func49, Tryd.ntmps49
      go_wp2
      go_ret
      exact ⟨rfl, rfl⟩
    · rw [if_neg h2]
      go_enter Tryd.func49, Tryd.ntmps49
      go_wp2
      go_ret
      exact ⟨rfl, rfl⟩

theorem ErAt.shape {w : World} {v : Value} {e : Er} (h : ErAt w v e) : v = .nilIface ∨ ∃ T x, v = .iface T x := by
  cases e with
  | nil => exact Or.inl h
  | no n => exact Or.inr ⟨_, _, h⟩
  | fault p a e => obtain ⟨b, ev, rfl, _⟩ := h; exact Or.inr ⟨_, _, rfl⟩
theorem msg_fault (k : Int) (ev : Value) (er : Er) (w : World) (h : ErAt w ev er) : Calls Tryd.prog 58 #[.int .i64 k, ev] w fun e w' => ∃ v, e = .returned v ∧ ErAt w' v (.fault msgW (cutK k) er) ∧ Bel w w' := by
  have hsh := h.shape
  have HE := Lib.hid h
  clear h
  have hk : cutK k = min (max k 0) 255 := by unfold cutK; split; omega; split <;> omega
  rw [hk]
  clear hk
  rcases hsh with rfl | ⟨T, x, rfl⟩
  all_goals
    go_enter Tryd.func58, Tryd.ntmps58
    go_wp2
    go_ret
    exact ⟨_, rfl, ⟨_, _, rfl, by simp [msgW], by simp, by simp, HE.out.bel (Bel.rfl'.al _)⟩, Bel.rfl'.al _⟩

def OkNo (k s n : Int) : Prop := mayN k s n = 0
theorem may_cases (k s n : Int) : (mayN k s n = 5 ∧ ((k < 0 ∨ 255 < k) ∨ (0 ≤ k ∧ k ≤ 255 ∧ knownK k = false))) ∨ (mayN k s n = 1 ∧ 0 ≤ k ∧ k ≤ 255 ∧ knownK k = true ∧ s < 0) ∨ (mayN k s n = 4 ∧ 0 ≤ k ∧ k ≤ 255 ∧ knownK k = true ∧ ¬ s < 0 ∧ (n < (rowsK k).1 ∨ (¬ n < (rowsK k).1 ∧ (rowsK k).2 < n))) ∨ (mayN k s n = 0 ∧ 0 ≤ k ∧ k ≤ 255 ∧ knownK k = true ∧ ¬ s < 0 ∧ ¬ n < (rowsK k).1 ∧ ¬ (rowsK k).2 < n) := by
  unfold mayN
  by_cases h1 : k < 0 ∨ 255 < k ∨ knownK k = false
  · left
    rw [if_pos h1]
    refine ⟨rfl, ?_⟩
    by_cases h2 : k < 0 ∨ 255 < k
    · exact Or.inl h2
    · rcases h1 with h | h | h
      · exact Or.inl (Or.inl h)
      · exact Or.inl (Or.inr h)
      · exact Or.inr ⟨by omega, by omega, h⟩
  · right
    rw [if_neg h1]
    have hk : knownK k = true := by
      cases hq : knownK k with
      | true => rfl
      | false => exact absurd (Or.inr (Or.inr hq)) h1
    by_cases h2 : s < 0
    · left; rw [if_pos h2]; exact ⟨rfl, by omega, by omega, hk, h2⟩
    · right
      rw [if_neg h2]
      by_cases h3 : n < (rowsK k).1
      · left; rw [if_pos (Or.inl h3)]; exact ⟨rfl, by omega, by omega, hk, h2, Or.inl h3⟩
      · by_cases h4 : (rowsK k).2 < n
        · left; rw [if_pos (Or.inr h4)]; exact ⟨rfl, by omega, by omega, hk, h2, Or.inr ⟨h3, h4⟩⟩
        · right; rw [if_neg (by omega)]; exact ⟨rfl, by omega, by omega, hk, h2, h3, h4⟩

set_option maxRecDepth 100000 in
set_option maxHeartbeats 1000000 in
theorem msg_may (k s n : Int) (w : World) (hk : I64 k) : Calls Tryd.prog 45 #[.int .i64 k, .int .i64 s, .int .i64 n] w fun e w' => ∃ v, e = .returned v ∧ ErAt w' v (mayS k s n) ∧ Bel w w' := by
  have HI := num_In k 0 255 w
  have HK := Lib.hid (msg_Known k w)
  have HR := Lib.hid (fun W => msg_Rows k W)
  have HF := Lib.hid (fun m W => msg_fault k (.iface 87 (.int .i64 m)) (.no m) W rfl)
  have hE : mayS k s n = if mayN k s n = 0 then .nil else .fault msgW (cutK k) (.no (mayN k s n)) := rfl
  rw [hE]; clear hE
  generalize cutK k = c at HF ⊢
  have hcs := may_cases k s n
  generalize mayN k s n = m at hcs ⊢
  generalize rowsK k = r at hcs HR
  obtain ⟨lo, hi⟩ := r
  rcases hcs with ⟨rfl, h | ⟨h1, h2, h3⟩⟩ | ⟨rfl, h1, h2, h3, h4⟩ | ⟨rfl, h1, h2, h3, h4, h5 | ⟨h5, h6⟩⟩ | ⟨rfl, h1, h2, h3, h4, h5, h6⟩
  · rw [show decide (0 ≤ k ∧ k ≤ 255) = false by simp; omega] at HI
    have HI := Lib.hid HI
    clear h
    go_enter Tryd.func45, Tryd.ntmps45
    go_wp2_with fail
    refine HI.out.mono ?_
    rintro e w1 ⟨rfl, rfl⟩
    go_wp2_with fail
    refine (HF.out 5 _).mono ?_
    rintro e w1 ⟨v, rfl, hv, hb⟩
    have HV := Lib.hid hv
    clear hv
    go_wp2_with fail
    go_ret
    exact ⟨_, rfl, HV.out, hb⟩
  all_goals
    rw [show decide (0 ≤ k ∧ k ≤ 255) = true by simp; omega] at HI
    have HI := Lib.hid HI
    rw [h3] at HK
    clear h3
    go_enter Tryd.func45, Tryd.ntmps45
    go_wp2_with fail
    refine HI.out.mono ?_
    rintro e w1 ⟨rfl, rfl⟩
    go_wp2_with fail
    refine HK.out.mono ?_
    rintro e w1 ⟨rfl, rfl⟩
  · go_wp2_with fail
    refine (HF.out 5 _).mono ?_
    rintro e w1 ⟨v, rfl, hv, hb⟩
    have HV := Lib.hid hv
    clear hv
    go_wp2_with fail
    go_ret
    exact ⟨_, rfl, HV.out, hb⟩
  · go_wp2_with fail
    refine (HF.out 1 _).mono ?_
    rintro e w1 ⟨v, rfl, hv, hb⟩
    have HV := Lib.hid hv
    clear hv
    go_wp2_with fail
    go_ret
    exact ⟨_, rfl, HV.out, hb⟩
  · go_wp2_with fail
    refine (HR.out _).mono ?_
    rintro e w1 ⟨rfl, rfl⟩
    go_wp2_with fail
    refine (HF.out 4 _).mono ?_
    rintro e w1 ⟨v, rfl, hv, hb⟩
    have HV := Lib.hid hv
    clear hv
    go_wp2_with fail
    go_ret
    exact ⟨_, rfl, HV.out, hb⟩
  · go_wp2_with fail
    refine (HR.out _).mono ?_
    rintro e w1 ⟨rfl, rfl⟩
    go_wp2_with fail
    refine (HF.out 4 _).mono ?_
    rintro e w1 ⟨v, rfl, hv, hb⟩
    have HV := Lib.hid hv
    clear hv
    go_wp2_with fail
    go_ret
    exact ⟨_, rfl, HV.out, hb⟩
  · go_wp2_with fail
    refine (HR.out _).mono ?_
    rintro e w1 ⟨rfl, rfl⟩
    go_wp2_with fail
    go_ret
    exact ⟨_, rfl, rfl, Bel.rfl'⟩

set_option maxRecDepth 100000 in
set_option maxHeartbeats 1000000 in
theorem ref_wrong (k s n : Int) (w : World) (hk : I64 k) : Calls Tryd.prog 48 #[.int .i64 k, .int .i64 s, .int .i64 n] w fun e w' => e = .returned (.int .i64 (mayN k s n)) ∧ w' = w := by
  have HK := Lib.hid (ref_Known k w)
  have HR := Lib.hid (fun W => ref_Rows k W)
  have hcs := may_cases k s n
  generalize mayN k s n = m at hcs ⊢
  generalize rowsK k = r at hcs HR
  obtain ⟨lo, hi⟩ := r
  rcases hcs with ⟨rfl, (h | h) | ⟨h1, h2, h3⟩⟩ | ⟨rfl, h1, h2, h3, h4⟩ | ⟨rfl, h1, h2, h3, h4, h5 | ⟨h5, h6⟩⟩ | ⟨rfl, h1, h2, h3, h4, h5, h6⟩
  · go_enter Tryd.func48, Tryd.ntmps48
    go_wp2_with fail
    go_ret
    exact ⟨rfl, rfl⟩
  · have h' : ¬ k < 0 := by omega
    go_enter Tryd.func48, Tryd.ntmps48
    go_wp2_with fail
    go_ret
    exact ⟨rfl, rfl⟩
  all_goals
    rw [h3] at HK
    clear h3
    have h1' : ¬ k < 0 := by omega
    have h2' : ¬ 255 < k := by omega
    go_enter Tryd.func48, Tryd.ntmps48
    go_wp2_with fail
    refine HK.out.mono ?_
    rintro e w1 ⟨rfl, rfl⟩
    go_wp2_with fail
  · go_ret
    exact ⟨rfl, rfl⟩
  all_goals
    refine (HR.out _).mono ?_
    rintro e w1 ⟨rfl, rfl⟩
    go_wp2_with fail
    go_ret
    exact ⟨rfl, rfl⟩
end Go.Proofs.YtmnmoadkpidggaaDoor
