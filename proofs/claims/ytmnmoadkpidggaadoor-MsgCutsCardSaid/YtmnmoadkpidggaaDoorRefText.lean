/- The reference's number as a text: the decimal numeral. Condition: an int64 number. -/
import Derived.Test.YtmnmoadkpidggaaDoorRefSz
import Derived.Test.YtmnmoadkpidggaaDoorTxt
namespace Go.Proofs.YtmnmoadkpidggaaDoor
set_option linter.unusedSimpArgs false
set_option linter.unusedVariables false
open Go.RowKit

theorem one_byte (W : World) (n : Int) (T : TypeId) :
    (convert 22 9 (.slice (some ⟨W.heap.size, 0, none⟩) 1 1)).run Tryd.prog (W.alloc (.cells #[.int .u8 n] T)) = .ok (.string ⟨[UInt8.ofNat n.toNat].toArray⟩) (W.alloc (.cells #[.int .u8 n] T)) := by
  have := run_convert_bytes_arg (P := Tryd.prog) (W.alloc (.cells #[.int .u8 n] T)) 22 5 Tryd.underlying22 Tryd.underlying5 W.heap.size 0 1 1 [n] rfl (by
    intro i hi
    obtain rfl : i = 0 := by omega
    simp) 9 Tryd.underlying9
  rw [this]
  rfl

/-- What of the numeral is still to come. -/
def preD (x : Nat) : List UInt8 := if x < 10 then [] else Lib.decDigits (x / 10)
theorem preD_step (x : Nat) : Lib.decDigits x = preD x ++ [UInt8.ofNat (48 + x % 10)] := by
  unfold preD
  by_cases h : x < 10
  · rw [if_pos h, Lib.decDigits_one h, Nat.mod_eq_of_lt h]; rfl
  · rw [if_neg h, Lib.decDigits, dif_neg h]
theorem itoa_nat (n : Int) : Lib.itoa n = (if n < 0 then [45] else []) ++ Lib.decDigits n.natAbs := by
  unfold Lib.itoa
  by_cases h : n < 0
  · rw [if_pos h, if_pos h]; rfl
  · rw [if_neg h, if_neg h, show n.toNat = n.natAbs by omega]; rfl
theorem dec_len {n : Int} (h : I64 n) : (Lib.decDigits n.natAbs).length ≤ 21 := by
  have h1 := Lib.itoa_length_le n h.1 h.2
  rw [itoa_nat, List.length_append] at h1
  omega
theorem dig_u8 (x : Nat) : IntKind.u8.wrap (48 + ((x % 10 : Nat) : Int)) = ((48 + x % 10 : Nat) : Int) := by
  have : x % 10 < 10 := Nat.mod_lt _ (by omega)
  simp [IntKind.wrap, IntKind.bits, IntKind.signed]; omega

set_option maxRecDepth 100000 in
set_option maxHeartbeats 1000000 in
theorem ref_Text (n : Int) (w : World) (h : I64 n) : Calls Tryd.prog 54 #[.int .i64 n] w fun e w' => e = .returned (.string ⟨(Lib.itoa n).toArray⟩) ∧ Bel w w' := by
  have HS := ref_size n w h
  have hu : sizeS n = ((n.natAbs : Nat) : Int) := rfl
  have hle : n.natAbs ≤ 9223372036854775808 := by unfold I64 at h; omega
  have hlen := dec_len h
  have E := Lib.hid (itoa_nat n)
  rw [hu] at HS
  have HS := Lib.hid HS
  generalize n.natAbs = u at HS hle hlen E
  have HL := Lib.hid hlen
  clear h hlen hu
  have em : ∀ x : Nat, Int.tmod (x : Int) 10 = ((x % 10 : Nat) : Int) := fun x => Int.ofNat_tmod x 10
  have eq : ∀ x : Nat, Int.tdiv (x : Int) 10 = ((x / 10 : Nat) : Int) := fun x => Int.ofNat_tdiv x 10
  have m10 : ∀ x : Nat, x % 10 < 10 := fun x => Nat.mod_lt _ (by omega)
  have CV := fun W m => one_byte W m 5
  go_enter Tryd.func54, Tryd.ntmps54
  have emu := em u
  have mu := m10 u
  go_wp2_with fail
  refine HS.out.mono ?_
  rintro e w1 ⟨rfl, rfl⟩
  go_wp2_with fail
  go_loopw [3, 4] (fun xv ov wr => ∃ x : Nat, ∃ o : List UInt8, xv = .int .u64 x ∧ ov = .string ⟨o.toArray⟩ ∧ x ≤ 9223372036854775808 ∧ Bel w1 wr ∧ Hid (Lib.decDigits u = preD x ++ o)) (fun xv _ _ => (intOf xv).toNat)
  case atStart => exact ⟨u, [UInt8.ofNat (48 + u % 10)], rfl, rfl, hle, Bel.rfl'.al _, preD_step u⟩
  case round =>
    obtain ⟨x, o, rfl, rfl, hx, hB, HP⟩ := hrel
    by_cases hlt : x < 10
    · have ho : Hid (Lib.decDigits u = o) := by
        have := HP.out
        unfold preD at this
        rw [if_pos hlt] at this
        exact this
      have hol : o.length ≤ 21 := by rw [← ho.out]; exact HL.out
      have hlt' : (x : Int) < 10 := by omega
      by_cases hn : n < 0
      · have A1 := fun (W : World) => str_add Tryd.prog W [45] o (by decide) (by omega)
        have E2 : Hid (Lib.itoa n = [45] ++ o) := by unfold Hid; rw [E.out, if_pos hn, ho.out]
        clear hol
        go_wp2_with fail
        go_ret
        exact ⟨by rw [E2.out]; rfl, hB⟩
      · have E2 : Hid (Lib.itoa n = o) := by unfold Hid; rw [E.out, if_neg hn, ho.out]; rfl
        go_wp2_with fail
        go_ret
        exact ⟨by rw [E2.out]; rfl, hB⟩
    · have hlt' : ¬ (x : Int) < 10 := by omega
      have hge : 10 ≤ (x : Int) := by omega
      have HP1 : Hid (Lib.decDigits u = preD (x / 10) ++ ([UInt8.ofNat (48 + x / 10 % 10)] ++ o)) := by
        unfold Hid
        rw [HP.out, ← List.append_assoc, ← preD_step (x / 10)]
        unfold preD
        rw [if_neg hlt]
      have hol : o.length ≤ 21 := by
        have := HL.out
        rw [HP.out, List.length_append] at this
        omega
      have hx2 : x / 10 ≤ 9223372036854775808 := by omega
      have hx3 : x / 10 < x := by omega
      go_wp2_with fail
      go_roundw
      case rel => exact ⟨x / 10, [UInt8.ofNat (48 + x / 10 % 10)] ++ o, by simp, by simp; apply ByteArray.ext; simp, hx2, hB.al _, HP1.out⟩
      case measure => simp [intOf]; omega
end Go.Proofs.YtmnmoadkpidggaaDoor
