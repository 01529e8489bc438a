/- Package codec: the reader: Of, uint, Int, Err, Left: their contracts. Condition: the bytes read as a list; few enough for memory. -/
import Derived.Test.YtmnmoadkpidggaaDoorBytes
import Derived.Test.YtmnmoadkpidggaaDoorMsgP
import Derived.Test.YtmnmoadkpidggaaDoorErr
import Derived.Laws.BitsAllLaws
import Derived.Laws.BitsLemmas
namespace Go.Proofs.YtmnmoadkpidggaaDoor
set_option linter.unusedSimpArgs false
set_option linter.unusedVariables false
open Go.RowKit

theorem decGo_step (l : List UInt8) (f i v : Nat) {c : UInt8} (h : l[i]? = some c) : decGo l (f + 1) i v = if (i = 9 ∧ 1 < c.toNat) ∨ (0 < i ∧ c.toNat = 0) then (0, 0, 2)
      else if c.toNat < 128 then (v + c.toNat % 128 * 2 ^ (7 * i), i + 1, 0) else decGo l f (i + 1) (v + c.toNat % 128 * 2 ^ (7 * i)) := by rw [decGo, h]
theorem decGo_end (l : List UInt8) (f i v : Nat) (h : l[i]? = none) : decGo l (f + 1) i v = (0, 0, 3) := by rw [decGo, h]

set_option maxRecDepth 100000 in
set_option maxHeartbeats 4000000 in
theorem dec_uint (d at_ : Nat) (bv : Value) (bs : List UInt8) (w : World) (h0 : w.cell? ⟨d, 0, none⟩ = some bv) (hs : SlB w bv bs) (h1 : w.cell? ⟨d, 1, none⟩ = some (.int .i64 at_)) (hf : w.frozen? ⟨d, 1, none⟩ = false) (hle : at_ ≤ bs.length) (hn : bs.length ≤ 1000000000) :
    Calls Tryd.prog 81 #[.pointer (some ⟨d, 0, none⟩)] w fun e w' => e = .returned (.tuple #[.int .u64 (decU (bs.drop at_)).1, .int .i64 (decU (bs.drop at_)).2.2]) ∧
      ((decU (bs.drop at_)).2.2 = 0 ∧ (∃ w1, Bel w w1 ∧ w' = w1.setCell ⟨d, 1, none⟩ (.int .i64 (at_ + (decU (bs.drop at_)).2.1 : Nat))) ∨ (decU (bs.drop at_)).2.2 ≠ 0 ∧ Bel w w') := by
  obtain ⟨a0, c0, rfl⟩ := slot_shape hs
  have HS := Lib.hid hs
  clear hs
  have hG : Hid (decU (bs.drop at_) = decGo (bs.drop at_) 10 0 0) := rfl
  generalize decU (bs.drop at_) = R at hG ⊢
  go_enter Tryd.func81, Tryd.ntmps81
  go_wp2_with fail
  go_loopw [4, 7] (fun vv iv wr => ∃ i v : Nat, i ≤ 9 ∧ iv = .int .i64 i ∧ vv = .int .u64 v ∧ v < 2 ^ (7 * i) ∧ Bel w wr ∧ Hid (R = decGo (bs.drop at_) (10 - i) i v)) (fun _ iv _ => 10 - (intOf iv).toNat)
  case atStart => exact ⟨0, 0, by omega, rfl, rfl, by omega, Bel.rfl', hG.out⟩
  case round =>
    obtain ⟨i, v, hi, rfl, rfl, hv, hB, HR⟩ := hrel
    have e0 := hB.cellv h0
    have e1 := hB.cellv h1
    have ef : wr.frozen? ⟨d, 1, none⟩ = false := by rw [hB.frozen (p := ⟨d, 1, none⟩) (lt_of_cell h1)]; exact hf
    by_cases hlt : at_ + i < bs.length
    · have hget : (bs.drop at_)[i]? = some bs[at_ + i] := by rw [List.getElem?_drop, List.getElem?_eq_getElem hlt]
      rcases HS.out with ⟨_, rfl⟩ | ⟨b, o, cap, hq, hcap, hm, hr⟩
      · simp at hlt
      obtain ⟨rfl, rfl⟩ : a0 = some ⟨b, o, none⟩ ∧ c0 = cap := by injection hq with e1 _ e2; exact ⟨e1, e2⟩
      have ec := byte_cell (hr.bel encB_len hB) hlt
      have HD := Lib.hid (fun f => decGo_step (bs.drop at_) f i v hget)
      clear hq hget
      have hc256 : bs[at_ + i].toNat < 256 := bs[at_ + i].toNat_lt
      generalize bs[at_ + i] = c at ec HD hc256
      generalize c.toNat = cn at ec HD hc256
      obtain ⟨r, hr2⟩ : ∃ r : Nat, r = cn % 128 := ⟨_, rfl⟩
      have hr3 : r < 128 := by omega
      have E1 : bits BinOp.and IntKind.u8 (cn : Int) 127 = (r : Int) := by
        rw [show (127 : Int) = ((127 : Nat) : Int) from rfl, u8_and_nat _ _ hc256 (by omega), nat_mask7, hr2]
      rw [← hr2] at HD
      have hif : 10 - i = (9 - i) + 1 := by omega
      rw [hif] at HR
      have HR := HR.out
      rw [HD.out] at HR
      obtain ⟨m, hm2⟩ : ∃ m : Nat, m = v + r * 2 ^ (7 * i) := ⟨_, rfl⟩
      rw [← hm2] at HR
      have hp0 : 0 < 2 ^ (7 * i) := Nat.pow_pos (by omega)
      have hmb : m < 2 ^ (7 * (i + 1)) := by
        have e : 2 ^ (7 * (i + 1)) = 128 * 2 ^ (7 * i) := by rw [show 7 * (i + 1) = 7 + 7 * i by omega, Nat.pow_add]
        have : r * 2 ^ (7 * i) ≤ 127 * 2 ^ (7 * i) := Nat.mul_le_mul_right _ (by omega)
        omega
      have E2 : ∀ p : Int, p = ((2 ^ (7 * i) : Nat) : Int) → (i ≤ 8 ∨ r ≤ 1) → bits BinOp.or IntKind.u64 (v : Int) ((r : Int) * p) = (m : Int) := by
        intro p hp h8
        have hle : 2 ^ (7 * i) ≤ 9223372036854775808 := by
          have : 2 ^ (7 * i) ≤ 2 ^ 63 := Nat.pow_le_pow_right (by omega) (by omega)
          omega
        have hmul : r * 2 ^ (7 * i) < 18446744073709551616 := by
          rcases h8 with h8 | h8
          · have h56 : 2 ^ (7 * i) ≤ 2 ^ 56 := Nat.pow_le_pow_right (by omega) (by omega)
            have : r * 2 ^ (7 * i) ≤ 127 * 2 ^ (7 * i) := Nat.mul_le_mul_right _ (by omega)
            omega
          · have : r * 2 ^ (7 * i) ≤ 1 * 2 ^ (7 * i) := Nat.mul_le_mul_right _ h8
            omega
        rw [hp, ← Int.natCast_mul, u64_or_nat _ _ (by omega) hmul, Nat.or_comm, nat_join (7 * i) _ v (Nat.mul_mod_left _ _) hv, Nat.add_comm, hm2]
      clear hm2
      have E20 : i = 0 → bits BinOp.or IntKind.u64 (v : Int) (r : Int) = (m : Int) := by
        intro h
        have := E2 1 (by rw [h]; rfl) (Or.inl (by omega))
        rwa [Int.mul_one] at this
      have hcase : ((i = 9 ∧ 1 < cn) ∨ (0 < i ∧ cn = 0)) ∨ (¬ ((i = 9 ∧ 1 < cn) ∨ (0 < i ∧ cn = 0)) ∧ cn < 128) ∨ (¬ ((i = 9 ∧ 1 < cn) ∨ (0 < i ∧ cn = 0)) ∧ ¬ cn < 128 ∧ i ≤ 8) := by omega
      have hr4 : i = 9 → cn ≤ 1 → r ≤ 1 := by omega
      clear hr2
      have E2 := Lib.hid E2
      have E20 := Lib.hid E20
      have hr4 := Lib.hid hr4
      have hi10 : i = 0 ∨ i = 1 ∨ i = 2 ∨ i = 3 ∨ i = 4 ∨ i = 5 ∨ i = 6 ∨ i = 7 ∨ i = 8 ∨ i = 9 := by omega
      have hw0 : IntKind.i64.wrap (at_ : Int) = at_ := by simp [IntKind.wrap, IntKind.bits, IntKind.signed]; omega
      have hw1 : (0 : Int) ≤ (at_ : Int) := by omega
      have hw2 : (at_ : Int) < (bs.length : Int) := by omega
      rcases hcase with hbad | ⟨hok, hlast⟩ | ⟨hok, hmore, hi8⟩
      · have HR3 : Hid (R = (0, 0, 2)) := by unfold Hid; rw [HR, if_pos hbad]
        clear HR E2 E20
        have hc2 : (i = 9 ∧ (((cn : Int) == 0) = false) ∧ (1 : Int) < (cn : Int)) ∨ (0 < i ∧ (((cn : Int) == 0) = true) ∧ ¬ (1 : Int) < (cn : Int)) := by
          rcases hbad with ⟨h, h'⟩ | ⟨h, h'⟩
          · exact Or.inl ⟨h, by simp; omega, by omega⟩
          · exact Or.inr ⟨h, by simp [h'], by omega⟩
        clear hbad
        rcases hc2 with ⟨h9, t0, t1⟩ | ⟨hpos, t0, t1⟩
        · subst h9
          clear hi10
          go_wp2_with fail
          go_quiet (fail)
          go_wp2_with fail
          go_quiet (fail)
          go_wp2_with fail
          go_ret2
          exact ⟨by rw [HR3.out]; rfl, Or.inr ⟨by rw [HR3.out]; decide, (hB.dn _)⟩⟩
        · rcases hi10 with rfl | rfl | rfl | rfl | rfl | rfl | rfl | rfl | rfl | rfl
          · omega
          all_goals
            go_wp2_with fail
            go_quiet (fail)
            go_wp2_with fail
            go_quiet (fail)
            go_wp2_with fail
            go_ret2
            exact ⟨by rw [HR3.out]; rfl, Or.inr ⟨by rw [HR3.out]; decide, (hB.dn _)⟩⟩
      · have HR3 : Hid (R = (m, i + 1, 0)) := by unfold Hid; rw [HR, if_neg hok, if_pos hlast]
        clear HR
        have t2 : (cn : Int) < 128 := by omega
        rcases hi10 with rfl | rfl | rfl | rfl | rfl | rfl | rfl | rfl | rfl | rfl
        · have E2' := E20.out rfl
          simp only [Nat.add_zero] at ec hlt
          clear hok
          go_wp2_with fail
          go_quiet (fail)
          go_wp2_with fail
          go_quiet (fail)
          go_wp2_with fail
          go_ret2
          exact ⟨by rw [HR3.out]; rfl, Or.inl ⟨by rw [HR3.out], _, hB.dn _, by rw [HR3.out]; rfl⟩⟩
        · have E2' := E2.out 128 (by decide) (Or.inl (by omega))
          have t0 : ((cn : Int) == 0) = false := by simp; omega
          clear hok
          go_wp2_with fail
          go_quiet (fail)
          go_wp2_with fail
          go_quiet (fail)
          go_wp2_with fail
          go_ret2
          exact ⟨by rw [HR3.out]; rfl, Or.inl ⟨by rw [HR3.out], _, hB.dn _, by rw [HR3.out]; rfl⟩⟩
        · have E2' := E2.out 16384 (by decide) (Or.inl (by omega))
          have t0 : ((cn : Int) == 0) = false := by simp; omega
          clear hok
          go_wp2_with fail
          go_quiet (fail)
          go_wp2_with fail
          go_quiet (fail)
          go_wp2_with fail
          go_ret2
          exact ⟨by rw [HR3.out]; rfl, Or.inl ⟨by rw [HR3.out], _, hB.dn _, by rw [HR3.out]; rfl⟩⟩
        · have E2' := E2.out 2097152 (by decide) (Or.inl (by omega))
          have t0 : ((cn : Int) == 0) = false := by simp; omega
          clear hok
          go_wp2_with fail
          go_quiet (fail)
          go_wp2_with fail
          go_quiet (fail)
          go_wp2_with fail
          go_ret2
          exact ⟨by rw [HR3.out]; rfl, Or.inl ⟨by rw [HR3.out], _, hB.dn _, by rw [HR3.out]; rfl⟩⟩
        · have E2' := E2.out 268435456 (by decide) (Or.inl (by omega))
          have t0 : ((cn : Int) == 0) = false := by simp; omega
          clear hok
          go_wp2_with fail
          go_quiet (fail)
          go_wp2_with fail
          go_quiet (fail)
          go_wp2_with fail
          go_ret2
          exact ⟨by rw [HR3.out]; rfl, Or.inl ⟨by rw [HR3.out], _, hB.dn _, by rw [HR3.out]; rfl⟩⟩
        · have E2' := E2.out 34359738368 (by decide) (Or.inl (by omega))
          have t0 : ((cn : Int) == 0) = false := by simp; omega
          clear hok
          go_wp2_with fail
          go_quiet (fail)
          go_wp2_with fail
          go_quiet (fail)
          go_wp2_with fail
          go_ret2
          exact ⟨by rw [HR3.out]; rfl, Or.inl ⟨by rw [HR3.out], _, hB.dn _, by rw [HR3.out]; rfl⟩⟩
        · have E2' := E2.out 4398046511104 (by decide) (Or.inl (by omega))
          have t0 : ((cn : Int) == 0) = false := by simp; omega
          clear hok
          go_wp2_with fail
          go_quiet (fail)
          go_wp2_with fail
          go_quiet (fail)
          go_wp2_with fail
          go_ret2
          exact ⟨by rw [HR3.out]; rfl, Or.inl ⟨by rw [HR3.out], _, hB.dn _, by rw [HR3.out]; rfl⟩⟩
        · have E2' := E2.out 562949953421312 (by decide) (Or.inl (by omega))
          have t0 : ((cn : Int) == 0) = false := by simp; omega
          clear hok
          go_wp2_with fail
          go_quiet (fail)
          go_wp2_with fail
          go_quiet (fail)
          go_wp2_with fail
          go_ret2
          exact ⟨by rw [HR3.out]; rfl, Or.inl ⟨by rw [HR3.out], _, hB.dn _, by rw [HR3.out]; rfl⟩⟩
        · have E2' := E2.out 72057594037927936 (by decide) (Or.inl (by omega))
          have t0 : ((cn : Int) == 0) = false := by simp; omega
          clear hok
          go_wp2_with fail
          go_quiet (fail)
          go_wp2_with fail
          go_quiet (fail)
          go_wp2_with fail
          go_ret2
          exact ⟨by rw [HR3.out]; rfl, Or.inl ⟨by rw [HR3.out], _, hB.dn _, by rw [HR3.out]; rfl⟩⟩
        · have E2' := E2.out 9223372036854775808 (by decide) (Or.inr (hr4.out rfl (by omega)))
          have hr1 : (r : Int) ≤ 1 := by have := hr4.out rfl (by omega); omega
          have t0 : ((cn : Int) == 0) = false := by simp; omega
          have t1 : ¬ (1 : Int) < (cn : Int) := by omega
          clear hok
          go_wp2_with fail
          go_quiet (fail)
          go_wp2_with fail
          go_quiet (fail)
          go_wp2_with fail
          go_ret2
          exact ⟨by rw [HR3.out]; rfl, Or.inl ⟨by rw [HR3.out], _, hB.dn _, by rw [HR3.out]; rfl⟩⟩
      · have HR3 : Hid (R = decGo (bs.drop at_) (10 - (i + 1)) (i + 1) m) := by
          unfold Hid
          rw [HR, if_neg hok, if_neg hmore, show 10 - (i + 1) = 9 - i by omega]
        clear HR
        have t2 : ¬ (cn : Int) < 128 := by omega
        rcases hi10 with rfl | rfl | rfl | rfl | rfl | rfl | rfl | rfl | rfl | rfl
        · have E2' := E20.out rfl
          simp only [Nat.add_zero] at ec hlt
          clear hok
          go_wp2_with fail
          go_quiet (fail)
          go_wp2_with fail
          go_quiet (fail)
          go_wp2_with fail
          go_roundw
          case rel => exact ⟨_, m, by omega, by go_num, rfl, hmb, hB.dn _, HR3.out⟩
          case measure => simp [intOf]
        · have E2' := E2.out 128 (by decide) (Or.inl (by omega))
          have t0 : ((cn : Int) == 0) = false := by simp; omega
          clear hok
          go_wp2_with fail
          go_quiet (fail)
          go_wp2_with fail
          go_quiet (fail)
          go_wp2_with fail
          go_roundw
          case rel => exact ⟨_, m, by omega, by go_num, rfl, hmb, hB.dn _, HR3.out⟩
          case measure => simp [intOf]
        · have E2' := E2.out 16384 (by decide) (Or.inl (by omega))
          have t0 : ((cn : Int) == 0) = false := by simp; omega
          clear hok
          go_wp2_with fail
          go_quiet (fail)
          go_wp2_with fail
          go_quiet (fail)
          go_wp2_with fail
          go_roundw
          case rel => exact ⟨_, m, by omega, by go_num, rfl, hmb, hB.dn _, HR3.out⟩
          case measure => simp [intOf]
        · have E2' := E2.out 2097152 (by decide) (Or.inl (by omega))
          have t0 : ((cn : Int) == 0) = false := by simp; omega
          clear hok
          go_wp2_with fail
          go_quiet (fail)
          go_wp2_with fail
          go_quiet (fail)
          go_wp2_with fail
          go_roundw
          case rel => exact ⟨_, m, by omega, by go_num, rfl, hmb, hB.dn _, HR3.out⟩
          case measure => simp [intOf]
        · have E2' := E2.out 268435456 (by decide) (Or.inl (by omega))
          have t0 : ((cn : Int) == 0) = false := by simp; omega
          clear hok
          go_wp2_with fail
          go_quiet (fail)
          go_wp2_with fail
          go_quiet (fail)
          go_wp2_with fail
          go_roundw
          case rel => exact ⟨_, m, by omega, by go_num, rfl, hmb, hB.dn _, HR3.out⟩
          case measure => simp [intOf]
        · have E2' := E2.out 34359738368 (by decide) (Or.inl (by omega))
          have t0 : ((cn : Int) == 0) = false := by simp; omega
          clear hok
          go_wp2_with fail
          go_quiet (fail)
          go_wp2_with fail
          go_quiet (fail)
          go_wp2_with fail
          go_roundw
          case rel => exact ⟨_, m, by omega, by go_num, rfl, hmb, hB.dn _, HR3.out⟩
          case measure => simp [intOf]
        · have E2' := E2.out 4398046511104 (by decide) (Or.inl (by omega))
          have t0 : ((cn : Int) == 0) = false := by simp; omega
          clear hok
          go_wp2_with fail
          go_quiet (fail)
          go_wp2_with fail
          go_quiet (fail)
          go_wp2_with fail
          go_roundw
          case rel => exact ⟨_, m, by omega, by go_num, rfl, hmb, hB.dn _, HR3.out⟩
          case measure => simp [intOf]
        · have E2' := E2.out 562949953421312 (by decide) (Or.inl (by omega))
          have t0 : ((cn : Int) == 0) = false := by simp; omega
          clear hok
          go_wp2_with fail
          go_quiet (fail)
          go_wp2_with fail
          go_quiet (fail)
          go_wp2_with fail
          go_roundw
          case rel => exact ⟨_, m, by omega, by go_num, rfl, hmb, hB.dn _, HR3.out⟩
          case measure => simp [intOf]
        · have E2' := E2.out 72057594037927936 (by decide) (Or.inl (by omega))
          have t0 : ((cn : Int) == 0) = false := by simp; omega
          clear hok
          go_wp2_with fail
          go_quiet (fail)
          go_wp2_with fail
          go_quiet (fail)
          go_wp2_with fail
          go_roundw
          case rel => exact ⟨_, m, by omega, by go_num, rfl, hmb, hB.dn _, HR3.out⟩
          case measure => simp [intOf]
        · omega
    · have hget : (bs.drop at_)[i]? = none := List.getElem?_eq_none (by simp; omega)
      have HR3 : Hid (R = (0, 0, 3)) := by
        unfold Hid
        rw [HR.out, show 10 - i = (9 - i) + 1 by omega, decGo_end _ _ _ _ hget]
      have hge : (bs.length : Int) ≤ (at_ : Int) + (i : Int) := by omega
      have hge2 : bs.length ≤ at_ + i := by omega
      clear hget HR hlt
      go_wp2_with fail
      go_quiet (fail)
      go_wp2_with fail
      go_ret2
      exact ⟨by rw [HR3.out]; rfl, Or.inr ⟨by rw [HR3.out]; decide, hB.dn _⟩⟩
end Go.Proofs.YtmnmoadkpidggaaDoor
