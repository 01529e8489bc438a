/- The law LegsShuffled walked: it returns true. Condition: the argument reads as a list of legs; the numbers are bytes. -/
import Derived.Test.YtdigfjpknckpfaaDoorNet
import Derived.Test.YtdigfjpknckpfaaDoorLegS
namespace Go.Proofs.YtdigfjpknckpfaaDoor
set_option linter.unusedSimpArgs false
set_option linter.unusedVariables false
open Go.RowKit

theorem leg_info : (Tryd.prog.info? 39).map (fun i => (i.zero, i.size, i.bytes)) = some (some (.agg #[.int .i64 0, .int .i64 0, .int .i64 0]), 3, 24) := by kernel_rfl

theorem wrong_no (a : Option Addr) (n c : Nat) (x : Int) (w : World) : (Instr.field 36 (.agg #[.slice a n c, .int .i64 x]) 1).run Tryd.prog w = .ok (.int .i64 x) w := by kernel_rfl

set_option maxRecDepth 100000 in
set_option maxHeartbeats 4000000 in
theorem shuffled_walk (v1 : Value) (l : List Leg) (a1 a2 : Int) (w : World) (h1 : SlLeg w v1 l) (hl : ∀ x ∈ l, LegOk x) (ha1 : 0 ≤ a1) (ha1' : a1 ≤ 255) (ha2 : 0 ≤ a2) (ha2' : a2 ≤ 255) :
    Calls Tryd.prog 4 #[v1, .int .u8 a1, .int .u8 a2] w fun e w' => e = .returned (.bool true) ∧ Bel w w' := by
  obtain ⟨b1, c1, e1⟩ := sl_len h1
  have K := Lib.hid (known17 w)
  by_cases q1 : l.length < 2
  · subst e1
    have q1' : (l.length : Int) < 2 := by omega
    clear h1 hl
    go_enter Tryd.func4, Tryd.ntmps4
    go_wp2_with fail
    refine K.out.mono ?_
    rintro e w1 ⟨rfl, hB1⟩
    go_wp2_with fail
    go_ret
    exact ⟨rfl, hB1⟩
  have q1' : ¬ (l.length : Int) < 2 := by omega
  by_cases q2 : 4 < l.length
  · subst e1
    have q2' : (4 : Int) < (l.length : Int) := by omega
    clear h1 hl
    go_enter Tryd.func4, Tryd.ntmps4
    go_wp2_with fail
    refine K.out.mono ?_
    rintro e w1 ⟨rfl, hB1⟩
    go_wp2_with fail
    go_ret
    exact ⟨rfl, hB1⟩
  have q2' : ¬ (4 : Int) < (l.length : Int) := by omega
  have HO := Lib.hid (fun W (hW : Bel w W) => legs_Of v1 l W (h1.bel encLeg_len hW) (by omega))
  have HR := fun u W (hu : SlLeg W u l) => ref_Check u l W hu (by omega)
  by_cases q3 : checkS l = .nil
  · rw [q3] at HR
    have HR := Lib.hid HR
    obtain ⟨t, rfl⟩ := Int.eq_ofNat_of_zero_le ha1
    obtain ⟨y, rfl⟩ := Int.eq_ofNat_of_zero_le ha2
    have ek : Int.tmod (y : Int) 4 = ((y % 4 : Nat) : Int) := Int.ofNat_tmod y 4
    have hk4 : y % 4 < 4 := Nat.mod_lt _ (by omega)
    generalize y % 4 = kk at ek hk4
    have HCA := Lib.hid (fun W (hW : Bel w W) => legs_Canon_ok v1 l W (h1.bel encLeg_len hW) (by omega) q3)
    have K3 := Lib.hid (check_ok q3).2.2.1
    have HCM := fun (h4 : ∀ x ∈ rotS l t, x.r * ((1 + kk : Nat) : Int) ≤ 4) v W (hW : SlLeg W v ((rotS l t).map (scl (1 + kk : Nat)))) => legs_Canon_ok v _ W hW (by simp [rotS_len]; omega) (check_shuf (by omega) q3 (rotS_perm l t) h4)
    have HCE := Lib.hid (fun h4 => canon_shuf (k := 1 + kk) (by omega) q3 (rotS_perm l t) h4)
    have HCM := Lib.hid HCM
    have HS := Lib.hid h1
    obtain ⟨i0, hi, hz0, hz1, hz2⟩ := info_parts leg_info
    clear h1 hl q3
    subst e1
    go_enter Tryd.func4, Tryd.ntmps4
    go_wp2_with fail
    refine K.out.mono ?_
    rintro e w1 ⟨rfl, hB1⟩
    go_wp2_with fail
    refine (HO.out _ hB1).mono ?_
    rintro e w2 ⟨v2, rfl, hf2, hB2⟩
    go_wp2_with fail
    refine (HR.out _ _ hf2.sl).mono ?_
    rintro e w3 ⟨v3, rfl, ⟨pv, rfl, hsl, _⟩, hB3⟩
    obtain ⟨pa, pn, pc, rfl⟩ := sl_shape hsl
    clear hsl hf2
    rw [show numOf .nil = 0 from rfl]
    have hB4 := (hB1.step hB2).step hB3
    have hfd := wrong_no pa pn pc 0
    go_wp2_with fail
    go_loopw [8, 9] (fun v i wr => ∃ k : Nat, k ≤ l.length ∧ i = .int .i64 k ∧ Bel w3 wr ∧ wr.ownsRow w3.heap.size 39 3 v k ((((rotS l t).take k).map (scl (1 + kk : Nat))).flatMap encLeg) ∧ Hid (∀ x ∈ (rotS l t).take k, x.r * ((1 + kk : Nat) : Int) ≤ 4)) (fun _ i _ => l.length - (intOf i).toNat)
    case atStart => exact ⟨0, by omega, rfl, Bel.rfl', World.ownsRow_nil _ _ _ _, fun x h => by simp at h⟩
    case round =>
      obtain ⟨k, hk, rfl, hB, hown, HP⟩ := hrel
      by_cases hlt : k < l.length
      · obtain ⟨b, o, rfl, hc, hcap, hbw⟩ : ∃ b o, b1 = some ⟨b, o, none⟩ ∧ RowAt encLeg 3 wr b o l ∧ l.length ≤ c1 ∧ b < w.heap.size := by
          rcases HS.out with ⟨h, _⟩ | ⟨b, o, c, h, h2, _, hr⟩
          · simp only [Value.slice.injEq] at h; omega
          · injection h with e1 _ e2; exact ⟨b, o, e1, hr.bel encLeg_len (hB4.step hB), by omega, lt_of_cell (leg_cells hr hlt).1⟩
        have hne0 : ¬ l.length = 0 := by omega
        have hne1 : ¬ (l.length : Int) = 0 := by omega
        have hmod : Int.tmod ((k : Int) + (t : Int)) (l.length : Int) = (((k + t) % l.length : Nat) : Int) := by
          rw [← Int.natCast_add]; exact Int.ofNat_tmod _ _
        have hj : (k + t) % l.length < l.length := Nat.mod_lt _ (by omega)
        have hrg := rotS_get hlt hj
        have hkr : k < (rotS l t).length := by rw [rotS_len]; exact hlt
        have HX : Hid ((((rotS l t).take (k + 1)).map (scl (1 + kk : Nat))).flatMap encLeg = (((rotS l t).take k).map (scl (1 + kk : Nat))).flatMap encLeg ++ [.int .i64 (rotS l t)[k].s, .int .i64 (rotS l t)[k].g, .int .i64 ((rotS l t)[k].r * (1 + (kk : Int)))]) := by
          unfold Hid; rw [List.take_succ_eq_append_getElem hkr, List.map_append, List.flatMap_append]; simp [encLeg, scl]
        have HP1 : Hid ((rotS l t)[k].r * (1 + (kk : Int)) ≤ 4 → ∀ x ∈ (rotS l t).take (k + 1), x.r * ((1 + kk : Nat) : Int) ≤ 4) := by
          intro h x hx
          rw [List.take_succ_eq_append_getElem hkr] at hx
          rcases List.mem_append.1 hx with hx | hx
          · exact HP.out x hx
          · rw [List.mem_singleton.1 hx]; simpa using h
        rw [hrg] at HX HP1
        obtain ⟨d0, d1, d2⟩ := leg_cells hc hj
        obtain ⟨_, _, r1, r4⟩ := bad_facts (K3.out l[(k + t) % l.length] (List.getElem_mem hj))
        clear hc hrg hkr
        generalize l[(k + t) % l.length] = x at d0 d1 d2 r1 r4 HX HP1
        generalize (k + t) % l.length = j at d0 d1 d2 hmod hj
        have hji : (0 : Int) ≤ (j : Int) := by omega
        have hji2 : (j : Int) < (l.length : Int) := by omega
        have hP : 1 ≤ x.r * (1 + (kk : Int)) ∧ x.r * (1 + (kk : Int)) ≤ 16 := by
          have : kk = 0 ∨ kk = 1 ∨ kk = 2 ∨ kk = 3 := by omega
          rcases this with rfl | rfl | rfl | rfl <;> omega
        have hw2 : IntKind.i64.wrap (x.r * (1 + (kk : Int))) = x.r * (1 + (kk : Int)) := by
          generalize x.r * (1 + (kk : Int)) = q at *; simp [IntKind.wrap, IntKind.bits, IntKind.signed]; omega
        have OW := Lib.hid hown
        have hne : u8.ownBlock ≠ some b := fun h => by have := (hown.lt _ h).1; have := hB4.size; omega
        clear hown
        have hbs := hB.size
        by_cases hq : 4 < x.r * (1 + (kk : Int))
        · go_wp2_with fail
          go_ret
          exact ⟨rfl, (hB4.step hB).al _⟩
        · have hq4 : x.r * (1 + (kk : Int)) ≤ 4 := by omega
          have HP2 := Lib.hid (HP1.out hq4)
          go_wp2_with (at_builtin; refine wpList_append_lies _ (by rfl) _ _ _ (by rfl) w3.heap.size 39 i0 _ 3 24 Tryd.underlying22 hi hz0 hz1 hz2 rfl (by omega) u8 k _ (by rfl) ((OW.out.alloc _).alloc _) ⟨wr.heap.size + 1, 0, none⟩ 1 1 [.int .i64 x.s, .int .i64 x.g, .int .i64 (x.r * (1 + (kk : Int)))] (by rfl) (by rfl) (World.news_of_block (cs := #[.int .i64 x.s, .int .i64 x.g, .int .i64 (x.r * (1 + (kk : Int)))]) (t := 39) (fr := (0, 0)) (by simpa using heap_alloc_new (wr.alloc _) _)) (by simp [Value.oneCell']) (by omega) (by unfold maxLen; omega) (by omega) (by simp; omega) (wr.heap.size + 2) (by simp) ?_; intro gg cap w6 hown1 hgrow hat hlt2)
          have HB1 : Bel w3 w6 := Below.grown ((hB.al _).al _) hgrow (by simp; omega) (fun p h => (OW.out.lt p h).1)
          go_roundw
          case rel => exact ⟨k + 1, by omega, by go_num, HB1, by rw [HX.out]; exact hown1, HP2.out⟩
          case measure => simp [intOf]; omega
      · obtain rfl : k = l.length := by omega
        have et : (rotS l t).take l.length = rotS l t := List.take_of_length_le (by rw [rotS_len]; omega)
        have HP0 := HP.out
        rw [et] at hown HP0
        have hsl := Lib.hid (own_fresh encLeg_len rfl (by rw [show l.length = ((rotS l t).map (scl (1 + kk : Nat))).length by simp [rotS_len]] at hown; exact hown)).sl
        have HCM2 := HCM.out HP0
        rw [HCE.out HP0] at HCM2
        have HCM3 := Lib.hid HCM2
        clear hown HP0 HCM2 HCM HCE HP et
        go_wp2_with fail
        refine (HCA.out _ (hB4.step hB)).mono ?_
        rintro e w7 ⟨v7, rfl, hf7, hB7⟩
        go_wp2_with fail
        refine (HCM3.out _ _ (hsl.out.bel encLeg_len hB7)).mono ?_
        rintro e w8 ⟨v8, rfl, hf8, hB8⟩
        have hs7 := Lib.hid (hf7.sl.bel encLeg_len hB8)
        have hs8 := Lib.hid hf8.sl
        clear hf7 hf8
        go_wp2_with fail
        refine (legs_Same v7 v8 (canonS l).1 (canonS l).1 _ hs7.out hs8.out (by rw [canon_len]; omega) (by rw [canon_len]; omega)).mono ?_
        rintro e w9 ⟨rfl, hB9⟩
        rw [decide_eq_true (rfl : (canonS l).1 = (canonS l).1)]
        go_wp2_with fail
        go_ret
        exact ⟨by simp, (((hB4.step hB).step hB7).step hB8).step hB9⟩
  · have HR := Lib.hid HR
    have hnum := num_check q3
    generalize checkS l = c at HR hnum
    generalize hx : numOf c = x at hnum
    have HX := Lib.hid hx
    clear h1 hl q3 hx
    subst e1
    go_enter Tryd.func4, Tryd.ntmps4
    go_wp2_with fail
    refine K.out.mono ?_
    rintro e w1 ⟨rfl, hB1⟩
    go_wp2_with fail
    refine (HO.out _ hB1).mono ?_
    rintro e w2 ⟨v2, rfl, hf2, hB2⟩
    go_wp2_with fail
    refine (HR.out _ _ hf2.sl).mono ?_
    rintro e w3 ⟨v3, rfl, ⟨pv, rfl, hsl, _⟩, hB3⟩
    obtain ⟨pa, pn, pc, rfl⟩ := sl_shape hsl
    clear hsl hf2
    rw [HX.out]
    have hB4 := (hB1.step hB2).step hB3
    have hfd := wrong_no pa pn pc x
    have hnb : (x != 0) = true := by rw [bne_iff_ne]; exact hnum
    go_wp2_with fail
    go_ret
    exact ⟨rfl, hB4⟩
end Go.Proofs.YtdigfjpknckpfaaDoor
