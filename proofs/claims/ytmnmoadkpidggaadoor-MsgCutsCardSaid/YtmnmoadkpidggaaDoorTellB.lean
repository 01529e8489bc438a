/- A fault in words. Condition: numbers that can be told; texts that are no giants. -/
import Derived.Test.YtmnmoadkpidggaaDoorTellA
namespace Go.Proofs.YtmnmoadkpidggaaDoor
set_option linter.unusedSimpArgs false
set_option linter.unusedVariables false
open Go.RowKit

theorem itoa_any (n : Int) (w : World) (h : Tells w n) : Calls Tryd.prog 125 #[.int .i64 n] w fun e w' => e = .returned (.string ⟨(Lib.itoa n).toArray⟩) ∧ Bel w w' := by
  rcases h with ⟨ht, hi⟩ | ⟨h0, h1⟩
  · refine (Tryd.strconv_Itoa n hi.1 hi.2 w ht).mono ?_
    rintro e w' ⟨rfl, k, os, rfl⟩
    exact ⟨rfl, bel_grow _ _ _⟩
  · obtain ⟨m, rfl⟩ := Int.eq_ofNat_of_zero_le h0
    refine (Tryd.strconv_Itoa_small m (by omega) w).mono ?_
    rintro e w' ⟨rfl, rfl⟩
    refine ⟨?_, Bel.rfl'⟩
    unfold Lib.itoa
    rw [if_neg (by omega)]; rfl
theorem errT_no (n : Int) : errT (.no n) = wordS n := by simp [errT, partsOf, numOf]

set_option maxRecDepth 100000 in
set_option maxHeartbeats 4000000 in
theorem fault_Error : ∀ (e : Er) (p : List UInt8) (a : Int) (b : Nat) (ev : Value) (w : World) (h1 : w.cell? ⟨b, 0, none⟩ = some (.string ⟨p.toArray⟩)) (h2 : w.cell? ⟨b, 1, none⟩ = some (.int .i64 a)) (h3 : w.cell? ⟨b, 2, none⟩ = some ev) (h4 : ErAt w ev e) (hg : Good w (.fault p a e)) (hl : (errT e).length ≤ 1000000),
    Calls Tryd.prog 123 #[.pointer (some ⟨b, 0, none⟩)] w fun en w' => en = .returned (.string ⟨(errT (.fault p a e)).toArray⟩) ∧ Bel w w'
  | .nil, p, a, b, ev, w, h1, h2, h3, h4, hg, hl => by exact absurd hg.2.2 (fun h => h)
  | .no n, p, a, b, ev, w, h1, h2, h3, h4, hg, hl => by
    obtain rfl : ev = _ := h4
    obtain ⟨g1, g2, g3⟩ := hg
    have HI := Lib.hid (fun W (hW : Bel w W) => itoa_any a W (g2.bel hW))
    have q1 := g2.len
    have E := Lib.hid (errT_fault p a (.no n))
    generalize errT (.fault p a (.no n)) = R at E ⊢
    have HE := fun W (hW : Bel w W) => errno_Error n W (by have := g3.1; omega) g3.2
    rw [← errT_no] at HE
    have HE := Lib.hid HE
    generalize errT (.no n) = te at E HE hl
    generalize Lib.itoa a = ta at HI E q1
    have A1 := fun (W : World) => str_add Tryd.prog W p [32] (by omega) (by decide)
    have A2 := fun (W : World) => str_add Tryd.prog W (p ++ [32]) ta (by simp; omega) (by omega)
    have A3 := fun (W : World) => str_add Tryd.prog W (p ++ [32] ++ ta) [58, 32] (by simp; omega) (by decide)
    have A4 := fun (W : World) => str_add Tryd.prog W (p ++ [32] ++ ta ++ [58, 32]) te (by simp; omega) (by omega)
    obtain ⟨z0, hu0⟩ : ∃ u, u = (⟨p.toArray⟩ : ByteArray) := ⟨_, rfl⟩
    rw [← hu0] at A1 h1
    obtain ⟨z1, hu1⟩ : ∃ u, u = (⟨(p ++ [32]).toArray⟩ : ByteArray) := ⟨_, rfl⟩
    rw [← hu1] at A1 A2
    obtain ⟨z2, hu2⟩ : ∃ u, u = (⟨(p ++ [32] ++ ta).toArray⟩ : ByteArray) := ⟨_, rfl⟩
    rw [← hu2] at A2 A3
    obtain ⟨z3, hu3⟩ : ∃ u, u = (⟨(p ++ [32] ++ ta ++ [58, 32]).toArray⟩ : ByteArray) := ⟨_, rfl⟩
    rw [← hu3] at A3 A4
    obtain ⟨z4, hu4⟩ : ∃ u, u = (⟨(p ++ [32] ++ ta ++ [58, 32] ++ te).toArray⟩ : ByteArray) := ⟨_, rfl⟩
    rw [← hu4] at A4
    have E4 : Hid ((⟨R.toArray⟩ : ByteArray) = z4) := by unfold Hid; rw [hu4, E.out]
    clear hu0 hu1 hu2 hu3 hu4 q1 E hl g1 g2 g3
    have hb := lt_of_cell h1
    go_enter Tryd.func123, Tryd.ntmps123
    go_wp2_with fail
    go_region_held3 (fun w' => w'.cell? ⟨b, 0, none⟩ = some (.string z0) ∧ w'.cell? ⟨b, 1, none⟩ = some (.int .i64 a) ∧ w'.cell? ⟨b, 2, none⟩ = some (.iface 87 (.int .i64 n)))
      (first | go_keep | (go_split_ands; exact ⟨hb2.cellv (by assumption), hb2.cellv (by assumption), hb2.cellv (by assumption)⟩) | (go_split_ands; exact ⟨hb1.cellv (by assumption), hb1.cellv (by assumption), hb1.cellv (by assumption)⟩))
      (first | (go_at_call 125; (with_reducible refine (HI.out _ (Bel.rfl'.dr)).mono ?_); rintro e w' ⟨rfl, hb1⟩) | (go_at_call 122; (with_reducible refine (HE.out _ ((Bel.rfl'.dr).step hb1)).mono ?_); rintro e w'' ⟨rfl, hb2⟩))
    all_goals
      go_wp2_with fail
      go_ret
      exact ⟨by rw [E4.out]; rfl, ((Bel.rfl'.dr).step hb1).step hb2⟩
  | .fault p' a' e', p, a, b, ev, w, h1, h2, h3, h4, hg, hl => by
    obtain ⟨b', ev', rfl, k1, k2, k3, k4⟩ := h4
    obtain ⟨g1, g2, g3⟩ := hg
    have HI := Lib.hid (fun W (hW : Bel w W) => itoa_any a W (g2.bel hW))
    have q1 := g2.len
    have E := Lib.hid (errT_fault p a (.fault p' a' e'))
    generalize errT (.fault p a (.fault p' a' e')) = R at E ⊢
    have hl' : (errT e').length ≤ 1000000 := by rw [errT_fault, List.length_append] at hl; omega
    have HE := Lib.hid (fun W (hW : Bel w W) => fault_Error e' p' a' b' ev' W (hW.cellv k1) (hW.cellv k2) (hW.cellv k3) (k4.bel hW) (g3.bel hW) hl')
    clear k1 k2 k3 k4 hl'
    generalize errT (.fault p' a' e') = te at E HE hl
    generalize Lib.itoa a = ta at HI E q1
    have A1 := fun (W : World) => str_add Tryd.prog W p [32] (by omega) (by decide)
    have A2 := fun (W : World) => str_add Tryd.prog W (p ++ [32]) ta (by simp; omega) (by omega)
    have A3 := fun (W : World) => str_add Tryd.prog W (p ++ [32] ++ ta) [58, 32] (by simp; omega) (by decide)
    have A4 := fun (W : World) => str_add Tryd.prog W (p ++ [32] ++ ta ++ [58, 32]) te (by simp; omega) (by omega)
    obtain ⟨z0, hu0⟩ : ∃ u, u = (⟨p.toArray⟩ : ByteArray) := ⟨_, rfl⟩
    rw [← hu0] at A1 h1
    obtain ⟨z1, hu1⟩ : ∃ u, u = (⟨(p ++ [32]).toArray⟩ : ByteArray) := ⟨_, rfl⟩
    rw [← hu1] at A1 A2
    obtain ⟨z2, hu2⟩ : ∃ u, u = (⟨(p ++ [32] ++ ta).toArray⟩ : ByteArray) := ⟨_, rfl⟩
    rw [← hu2] at A2 A3
    obtain ⟨z3, hu3⟩ : ∃ u, u = (⟨(p ++ [32] ++ ta ++ [58, 32]).toArray⟩ : ByteArray) := ⟨_, rfl⟩
    rw [← hu3] at A3 A4
    obtain ⟨z4, hu4⟩ : ∃ u, u = (⟨(p ++ [32] ++ ta ++ [58, 32] ++ te).toArray⟩ : ByteArray) := ⟨_, rfl⟩
    rw [← hu4] at A4
    have E4 : Hid ((⟨R.toArray⟩ : ByteArray) = z4) := by unfold Hid; rw [hu4, E.out]
    clear hu0 hu1 hu2 hu3 hu4 q1 E hl g1 g2 g3
    have hb := lt_of_cell h1
    go_enter Tryd.func123, Tryd.ntmps123
    go_wp2_with fail
    go_region_held3 (fun w' => w'.cell? ⟨b, 0, none⟩ = some (.string z0) ∧ w'.cell? ⟨b, 1, none⟩ = some (.int .i64 a) ∧ w'.cell? ⟨b, 2, none⟩ = some (.iface 88 (.pointer (some ⟨b', 0, none⟩))))
      (first | go_keep | (go_split_ands; exact ⟨hb2.cellv (by assumption), hb2.cellv (by assumption), hb2.cellv (by assumption)⟩) | (go_split_ands; exact ⟨hb1.cellv (by assumption), hb1.cellv (by assumption), hb1.cellv (by assumption)⟩))
      (first | (go_at_call 125; (with_reducible refine (HI.out _ (Bel.rfl'.dr)).mono ?_); rintro e w' ⟨rfl, hb1⟩) | (go_at_call 123; (with_reducible refine (HE.out _ ((Bel.rfl'.dr).step hb1)).mono ?_); rintro e w'' ⟨rfl, hb2⟩))
    all_goals
      go_wp2_with fail
      go_ret
      exact ⟨by rw [E4.out]; rfl, ((Bel.rfl'.dr).step hb1).step hb2⟩
end Go.Proofs.YtmnmoadkpidggaaDoor
