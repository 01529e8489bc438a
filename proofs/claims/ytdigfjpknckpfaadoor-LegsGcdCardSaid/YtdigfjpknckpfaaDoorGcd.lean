/- The law LegsGcd walked: it returns true. Condition: the argument reads as a list of legs. -/
import Derived.Test.YtdigfjpknckpfaaDoorLegQ
import Derived.Test.YtdigfjpknckpfaaDoorRef1
import Derived.Test.YtdigfjpknckpfaaDoorRound
namespace Go.Proofs.YtdigfjpknckpfaaDoor
set_option linter.unusedSimpArgs false
set_option linter.unusedVariables false
open Go.RowKit

def gcdP (c : Leg) (h : Int) (y : Leg) : Bool := y.s == c.s && y.r == c.r * h
theorem any_succ {α : Type} {l : List α} {p : α → Bool} {k : Nat} (h : k < l.length) : (l.take (k + 1)).any p = ((l.take k).any p || p l[k]) := by
  rw [List.take_succ_eq_append_getElem h, List.any_append]; simp
theorem gcd_found {l : List Leg} (h : checkS l = .nil) {i : Nat} (hi : i < (canonS l).1.length) : l.any (gcdP (canonS l).1[i] (gcdAll l)) = true := by
  have hi2 : i < (sortS l).length := by rw [sortS_len]; rw [canon_len] at hi; exact hi
  rw [List.any_eq_true]
  refine ⟨(sortS l)[i], (sortS_perm l).mem_iff.1 (List.getElem_mem hi2), ?_⟩
  unfold gcdP
  rw [(canon_get h hi hi2).1, canon_mul h hi hi2]
  simp

theorem mul16_bd {a b : Int} (h1 : 0 ≤ a) (h2 : a ≤ 4) (h3 : 1 ≤ b) (h4 : b ≤ 4) : 0 ≤ a * b ∧ a * b ≤ 16 := by
  have ha : a = 0 ∨ a = 1 ∨ a = 2 ∨ a = 3 ∨ a = 4 := by omega
  rcases ha with rfl | rfl | rfl | rfl | rfl <;> omega
theorem mul16 {a b : Int} (h1 : 0 ≤ a) (h2 : a ≤ 4) (h3 : 1 ≤ b) (h4 : b ≤ 4) : IntKind.i64.wrap (a * b) = a * b := by
  have := mul16_bd h1 h2 h3 h4
  generalize a * b = q at *
  simp [IntKind.wrap, IntKind.bits, IntKind.signed]; omega
theorem mul16' {a b : Int} (h1 : 0 ≤ a) (h2 : a ≤ 4) (h3 : 1 ≤ b) (h4 : b ≤ 4) : wrap64 (a * b) = a * b := by
  have := mul16_bd h1 h2 h3 h4
  generalize a * b = q at *
  unfold wrap64; omega

theorem gcd_data {l : List Leg} (h : checkS l = .nil) : ∃ c tb, canonS l = (c, tb) ∧ c.length = l.length ∧ gcdAll c = 1 ∧ (∀ x ∈ c, 0 ≤ x.r ∧ x.r ≤ 4) ∧ (∀ i (hi : i < c.length), l.any (gcdP c[i] (gcdAll l)) = true) ∧ (∀ i (hi : i + 1 < c.length), (c[i]'(by omega)).s < c[i + 1].s) ∧ headUp c = true :=
  ⟨(canonS l).1, (canonS l).2, rfl, canon_len, canon_gcd h, fun x hx => canon_bd h hx, fun i hi => gcd_found h hi, fun i hi => canon_lt h hi, canon_up h⟩

set_option maxRecDepth 100000 in
set_option maxHeartbeats 4000000 in
theorem gcd_walk (v1 : Value) (l : List Leg) (w : World) (h1 : SlLeg w v1 l) (hl : ∀ x ∈ l, LegOk x) :
    Calls Tryd.prog 7 #[v1] w fun e w' => e = .returned (.bool true) ∧ Bel w w' := by
  obtain ⟨a1, c1, e1⟩ := sl_len h1
  have K := Lib.hid (known17 w)
  by_cases q1 : 4 < l.length
  · subst e1
    have q1' : (4 : Int) < (l.length : Int) := by omega
    clear h1 hl
    go_enter Tryd.func7, Tryd.ntmps7
    go_wp2_with fail
    refine K.out.mono ?_
    rintro e w1 ⟨rfl, hB1⟩
    go_wp2_with fail
    go_ret
    exact ⟨rfl, hB1⟩
  have q1' : ¬ (4 : Int) < (l.length : Int) := by omega
  by_cases q2 : checkS l = .nil
  · obtain ⟨k1, k2, k3, k4⟩ := check_ok q2
    have HC := fun W (hW : Bel w W) => legs_Check v1 l W (h1.bel encLeg_len hW) (by omega)
    rw [q2] at HC
    replace HC := Lib.hid HC
    have HCA := fun W (hW : Bel w W) => legs_Canon_ok v1 l W (h1.bel encLeg_len hW) (by omega) q2
    obtain ⟨c, tb, hcn, hcl, x1, x2, x3, x4, x5⟩ := gcd_data q2
    rw [hcn] at HCA
    replace HCA := Lib.hid HCA
    have HSm := Lib.hid (small_of_check q2)
    have HG1 := Lib.hid x1
    have HBD := Lib.hid x2
    have HLT := Lib.hid x4
    have HUP := Lib.hid x5
    have hg1 : 1 ≤ gcdAll l ∧ gcdAll l ≤ 4 := by
      have h := gcdTo_bd (l := l) (fun x hx => small_of_check q2 x hx) l.length (Nat.le_refl _)
      rw [gcdTo_all] at h
      exact ⟨h.2.2 (by omega), h.2.1⟩
    have H1 := Lib.hid h1
    clear hcn x1 x2 x4 x5
    generalize hgl : gcdAll l = G at x3 hg1
    have HFD := Lib.hid x3
    clear x3
    have HGL := Lib.hid hgl
    obtain ⟨g1, g4⟩ := hg1
    clear h1 hl q2 k3 k4 hgl
    subst e1
    go_enter Tryd.func7, Tryd.ntmps7
    go_wp2_with fail
    refine K.out.mono ?_
    rintro e w1 ⟨rfl, hB1⟩
    go_wp2_with fail
    refine (HC.out _ hB1).mono ?_
    rintro e w2 ⟨v3, rfl, hv3, hB2⟩
    obtain rfl := nil_of hv3
    clear hv3
    go_wp2_with fail
    refine (HCA.out _ (hB1.step hB2)).mono ?_
    rintro e w3 ⟨v3, rfl, hf3, hB3⟩
    rcases hf3 with ⟨_, h⟩ | ⟨g, cap, rfl, hcap, hm, hg, hltg, hM⟩
    · rw [h] at hcl; simp at hcl; omega
    have HM := Lib.hid hM.1
    clear hM
    rw [hcl] at hcap ⊢
    have hB4 := (hB1.step hB2).step hB3
    obtain ⟨b, o, rfl, hrow⟩ : ∃ b o, a1 = some ⟨b, o, none⟩ ∧ Hid (RowAt encLeg 3 w b o l) := by
      rcases H1.out with ⟨h, _⟩ | ⟨b, o, c', h, _, _, hr⟩
      · simp only [Value.slice.injEq] at h; omega
      · injection h with e1 _ _; exact ⟨b, o, e1, hr⟩
    have hc1 : l.length ≤ c1 := by
      rcases H1.out with ⟨h, _⟩ | ⟨b, o, c', h, h2, _, hr⟩
      · simp only [Value.slice.injEq] at h; omega
      · injection h with _ _ e1; omega
    go_wp2_with fail
    go_loopw [6, 7, 8] (fun x y i wr => ∃ k : Nat, k ≤ l.length ∧ i = .int .i64 k ∧ x = .int .i64 (gcdTo c k) ∧ y = .int .i64 (gcdTo l k) ∧ Bel w3 wr) (fun _ _ i _ => l.length - (intOf i).toNat)
    case atStart => exact ⟨0, by omega, rfl, by rw [gcdTo_zero], by rw [gcdTo_zero], Bel.rfl'⟩
    case round =>
      obtain ⟨k, hk, rfl, rfl, rfl, hB⟩ := hrel
      by_cases hlt : k < l.length
      · have hkc : k < c.length := by omega
        obtain ⟨d0, d1, d2⟩ := leg_cells0 (HM.out.bel encLeg_len hB) hkc
        obtain ⟨s0, s1, s2⟩ := leg_cells (hrow.out.bel encLeg_len (hB4.step hB)) hlt
        have r1 := HBD.out c[k] (List.getElem_mem hkc)
        have r2 := HSm.out l[k] (List.getElem_mem hlt)
        have ia : I64 (gcdTo c k) := by unfold gcdTo; exact gcdAll_I64 _
        have ib : I64 (gcdTo l k) := by unfold gcdTo; exact gcdAll_I64 _
        have GC := Lib.hid (gcdTo_succ hkc)
        have GL := Lib.hid (gcdTo_succ hlt)
        have X1 := fun W => ref_Gcd (gcdTo c k) c[k].r W ia (by unfold I64; omega)
        have X2 := fun W => ref_Gcd (gcdTo l k) l[k].r W ib (by unfold I64; omega)
        rw [← GC.out] at X1
        rw [← GL.out] at X2
        replace X1 := Lib.hid X1
        replace X2 := Lib.hid X2
        clear GC GL ia ib r1 r2
        generalize c[k] = x at d0 d1 d2 X1
        generalize l[k] = y at s0 s1 s2 X2
        generalize gcdTo c k = ga at X1 ⊢
        generalize gcdTo l k = gb at X2 ⊢
        go_wp2_with fail
        refine (X1.out _).mono ?_
        rintro e w4 ⟨rfl, hb1⟩
        have t2 := hb1.cellv s2
        go_wp2_with fail
        refine (X2.out _).mono ?_
        rintro e w5 ⟨rfl, hb2⟩
        go_wp2_with fail
        go_roundw
        case rel => exact ⟨k + 1, hlt, by go_num, rfl, rfl, (hB.step hb1).step hb2⟩
        case measure => simp [intOf]; omega
      · obtain rfl : k = l.length := by omega
        rw [gcdTo_all l, HGL.out]
        rw [show gcdTo c l.length = 1 by rw [← hcl, gcdTo_all]; exact HG1.out]
        go_wp2_with fail
        obtain ⟨wa, rfl⟩ : ∃ wa : World, wa = wr := ⟨_, rfl⟩
        go_loopw [9] (fun i wo => ∃ m : Nat, m ≤ l.length ∧ i = .int .i64 m ∧ Bel wa wo) (fun i _ => l.length - (intOf i).toNat)
        case atStart => exact ⟨0, by omega, rfl, Bel.rfl'⟩
        case round =>
          obtain ⟨wo, rfl⟩ : ∃ wo : World, wo = wr := ⟨_, rfl⟩
          obtain ⟨m, hm1, rfl, hB5⟩ := hrel
          by_cases hlm : m < l.length
          · have hmc : m < c.length := by omega
            have HFm := Lib.hid (HFD.out m hmc)
            obtain ⟨x1, x2⟩ := HBD.out c[m] (List.getElem_mem hmc)
            obtain ⟨d0, d1, d2⟩ := leg_cells0 (HM.out.bel encLeg_len (hB.step hB5)) hmc
            have hprev : 0 < m → ∃ z, wo.cell? ⟨g, (m - 1) * 3, none⟩ = some (.int .i64 z) ∧ z < c[m].s := by
              intro h0
              have hp : m - 1 < c.length := by omega
              refine ⟨c[m - 1].s, (leg_cells0 (HM.out.bel encLeg_len (hB.step hB5)) hp).1, ?_⟩
              have := HLT.out (m - 1) (by omega)
              simp only [show m - 1 + 1 = m by omega] at this
              exact this
            have HPV := Lib.hid hprev
            clear hprev
            generalize hx : c[m] = x at d0 d1 d2 HFm x1 x2 HPV
            have HX := Lib.hid hx
            clear hx
            go_wp2_with fail
            go_loopw [10, 11] (fun f j wi => ∃ k : Nat, k ≤ l.length ∧ j = .int .i64 k ∧ f = .bool ((l.take k).any (gcdP x G)) ∧ Bel wo wi) (fun _ j _ => l.length - (intOf j).toNat)
            case atStart => exact ⟨0, by omega, rfl, by simp, Bel.rfl'⟩
            case round =>
              obtain ⟨k, hk2, rfl, rfl, hB6⟩ := hrel
              by_cases hlk : k < l.length
              · have e0 := hB6.cellv d0
                have e1 := hB6.cellv d1
                have e2 := hB6.cellv d2
                obtain ⟨s0, s1, s2⟩ := leg_cells (hrow.out.bel encLeg_len (((hB4.step hB).step hB5).step hB6)) hlk
                have HA := Lib.hid (any_succ (p := gcdP x G) hlk)
                have y1 := HSm.out l[k] (List.getElem_mem hlk)
                obtain ⟨y1, y2⟩ := y1
                generalize l[k] = y at s0 s1 s2 HA y1 y2
                have i1 : (0 : Int) ≤ (k : Int) := by omega
                have i2 : (k : Int) < (l.length : Int) := by omega
                have i3 : (0 : Int) ≤ (m : Int) := by omega
                have i4 : (m : Int) < (l.length : Int) := by omega
                have w1' : IntKind.i64.wrap (x.r * G) = x.r * G := mul16 x1 x2 g1 g4
                have w2' : wrap64 (x.r * G) = x.r * G := mul16' x1 x2 g1 g4
                cases hf : (l.take k).any (gcdP x G)
                · cases hs : (y.s == x.s)
                  · have E : Hid ((l.take (k + 1)).any (gcdP x G) = false) := by unfold Hid; rw [HA.out, hf]; simp [gcdP, hs]
                    clear hf
                    go_wp2_with fail
                    go_quiet (fail)
                    go_wp2_with fail
                    go_roundw
                    case rel => exact ⟨k + 1, hlk, by go_num, by rw [E.out], hB6.dn _⟩
                    case measure => simp [intOf]; omega
                  · cases hr : (y.r == x.r * G)
                    · have E : Hid ((l.take (k + 1)).any (gcdP x G) = false) := by unfold Hid; rw [HA.out, hf]; simp [gcdP, hs, hr]
                      clear hf
                      go_wp2_with fail
                      go_quiet (fail)
                      go_wp2_with fail
                      go_roundw
                      case rel => exact ⟨k + 1, hlk, by go_num, by rw [E.out], hB6.dn _⟩
                      case measure => simp [intOf]; omega
                    · have E : Hid ((l.take (k + 1)).any (gcdP x G) = true) := by unfold Hid; rw [HA.out, hf]; simp [gcdP, hs, hr]
                      clear hf
                      go_wp2_with fail
                      go_quiet (fail)
                      go_wp2_with fail
                      go_roundw
                      case rel => exact ⟨k + 1, hlk, by go_num, by rw [E.out], hB6.dn _⟩
                      case measure => simp [intOf]; omega
                · have E : Hid ((l.take (k + 1)).any (gcdP x G) = true) := by unfold Hid; rw [HA.out, hf]; simp
                  clear hf
                  go_wp2_with fail
                  go_quiet (fail)
                  go_wp2_with fail
                  go_roundw
                  case rel => exact ⟨k + 1, hlk, by go_num, by rw [E.out], hB6.dn _⟩
                  case measure => simp [intOf]; omega
              · obtain rfl : k = l.length := by omega
                have hfound := HFm.out
                rw [List.take_of_length_le (Nat.le_refl _), hfound]
                clear hfound
                have i3 : (0 : Int) ≤ (m : Int) := by omega
                have i4 : (m : Int) < (l.length : Int) := by omega
                by_cases h0 : 0 < m
                · obtain ⟨z, hz, hzx⟩ := HPV.out h0
                  have e0 := hB6.cellv d0
                  have e9 := hB6.cellv hz
                  have i5 : (0 : Int) < (m : Int) := by omega
                  have i6 : ((m : Int) - 1).toNat = m - 1 := by omega
                  have i7 : (0 : Int) ≤ (m : Int) - 1 := by omega
                  have i8 : (m : Int) - 1 < (l.length : Int) := by omega
                  go_wp2_with fail
                  go_quiet (fail)
                  go_wp2_with fail
                  go_roundw
                  case rel => exact ⟨m + 1, hlm, by go_num, (hB5.step hB6).dn _⟩
                  case measure => simp [intOf]; omega
                · obtain rfl : m = 0 := by omega
                  go_wp2_with fail
                  go_quiet (fail)
                  go_wp2_with fail
                  go_roundw
                  case rel => exact ⟨1, hlm, by go_num, (hB5.step hB6).dn _⟩
                  case measure => simp [intOf]; omega
          · obtain rfl : m = l.length := by omega
            have hc0 : 0 < c.length := by omega
            obtain ⟨d0, d1, d2⟩ := leg_cells0 (HM.out.bel encLeg_len (hB.step hB5)) hc0
            have hup : c[0].g = 1 := by
              have := HUP.out
              cases c with
              | nil => simp at hc0
              | cons y t => simpa [headUp] using this
            rw [hup] at d1
            simp only [Nat.zero_mul, Nat.zero_add] at d1
            clear hup d0 d2
            go_wp2_with fail
            go_ret
            exact ⟨rfl, ((hB4.step hB).step hB5)⟩
  · have HC := Lib.hid (fun W (hW : Bel w W) => legs_Check v1 l W (h1.bel encLeg_len hW) (by omega))
    have hb := notnil q2
    subst e1
    clear h1 hl q2
    go_enter Tryd.func7, Tryd.ntmps7
    go_wp2_with fail
    refine K.out.mono ?_
    rintro e w1 ⟨rfl, hB1⟩
    go_wp2_with fail
    refine (HC.out _ hB1).mono ?_
    rintro e w2 ⟨v3, rfl, hv3, hB2⟩
    have hq := fun W => ErAt.neqNil (W := W) hv3
    have hg := fun W op x => ErAt.guard (W := W) hv3 op x
    rw [hb] at hq
    simp only [Bool.not_false] at hq
    clear hv3 hb HC
    go_wp2_with fail
    go_ret
    exact ⟨rfl, hB1.step hB2⟩
end Go.Proofs.YtdigfjpknckpfaaDoor
