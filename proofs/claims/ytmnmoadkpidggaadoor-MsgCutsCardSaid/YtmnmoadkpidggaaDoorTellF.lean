/- Tells: an error that says just what the document's says: true. Condition: chains of at most two faults, numbers that can be told, the handle's variable laid. -/
import Derived.Test.YtmnmoadkpidggaaDoorTellC
import Derived.MapKept
import Derived.Test.YtmnmoadkpidggaaDoorTellD
import Derived.Test.YtmnmoadkpidggaaDoorTellE
namespace Go.Proofs.YtmnmoadkpidggaaDoor
set_option linter.unusedSimpArgs false
set_option linter.unusedVariables false
open Go.RowKit

/-- The variable that holds the type error's handle reads as it is laid. -/
def Handle (w : World) : Prop := w.cell? ⟨0, 0, none⟩ = some (.iface 154 (.agg #[.pointer (some ⟨5, 34, none⟩)]))
theorem Handle.bel {w w' : World} (h : Handle w) (hB : Bel w w') : Handle w' := hB.cellv h

theorem bz (z : ByteArray) : (z == z) = true := (MapKept.bytes_beq z z).2 rfl

theorem errors_As (e t : Addr) (old : Value) (w : World) (hg : Handle w) (ht0 : w.cell? t = some old) (hf0 : w.frozen? t = false) (hs : t.spot = none) :
    Calls Tryd.prog 41 #[.iface 88 (.pointer (some e)), .iface 90 (.pointer (some t))] w fun ev w' => ev = .returned (.bool true) ∧ w'.cell? t = some (.pointer (some e)) ∧ Below t.block w w' := by
  refine (as_hit e t old w hg ht0 hf0).mono ?_
  rintro ev w' ⟨rfl, rfl⟩
  have hlt := lt_of_cell ht0
  refine ⟨rfl, ?_, ?_⟩
  · obtain ⟨tb, to, ts⟩ := t
    obtain rfl : ts = none := hs
    exact cell_set_same (Bel.cellv ((((Bel.rfl'.al _).al _).al _).al _) ht0)
  · refine Below.setCell ?_ (Nat.le_refl _) _
    exact ((((Bel.rfl'.al _).al _).al _).al _).mono (Nat.le_of_lt hlt)

set_option maxRecDepth 100000 in
theorem tells_nil (v wv : Value) (B : Nat) (w : World) (h : ErAt w v .nil) (h2 : WrAt B w wv .nil) : Calls Tryd.prog 14 #[v, wv] w fun e w' => e = .returned (.bool true) ∧ Bel w w' := by
  obtain rfl : v = .nilIface := h
  obtain ⟨pv, rfl, hs, _⟩ := h2
  obtain ⟨pa, pn, pc, rfl⟩ := sl_shape hs
  clear hs
  rw [show numOf .nil = 0 from rfl]
  go_enter Tryd.func14, Tryd.ntmps14
  go_wp2_with fail
  go_ret
  exact ⟨rfl, Bel.rfl'.al _⟩

set_option maxRecDepth 100000 in
set_option maxHeartbeats 4000000 in
theorem tells_fault (p : List UInt8) (a : Int) (e : Er) (v wv : Value) (B : Nat) (w : World) (h : ErAt w v (.fault p a e)) (h2 : WrAt B w wv (.fault p a e)) (hg : Good w (.fault p a e)) (hd : deep e ≤ 1) (hl : (errT (.fault p a e)).length ≤ 1000000) (hH : Handle w) :
    Calls Tryd.prog 14 #[v, wv] w fun e w' => e = .returned (.bool true) ∧ Bel w w' := by
  have HW := Lib.hid (fun W (hW : Bel w W) => ref_Words _ wv B W (h2.bel hW) (hg.bel hW) hl)
  have hnum := hg.num
  have HI := fun W (hW : Bel w W) => errors_Is _ v W (h.bel hW) (by simp [deep]) (by simp [deep]; omega) _ rfl (by omega)
  have hE := fun b ev W (hW : Bel w W) k1 k2 k3 k4 => fault_Error e p a b ev W k1 k2 k3 k4 (hg.bel hW) (by rw [errT_fault, List.length_append] at hl; omega)
  obtain ⟨b, ev, rfl, k1, k2, k3, k4⟩ := h
  have HE := Lib.hid (fun W (hW : Bel w W) => hE b ev W hW (hW.cellv k1) (hW.cellv k2) (hW.cellv k3) (k4.bel hW))
  obtain ⟨pv, rfl, hs, _⟩ := h2
  have HS := Lib.hid hs
  obtain ⟨pa, pc, rfl⟩ : ∃ pa pc, pv = .slice pa (partsOf (.fault p a e)).length pc := by
    rcases hs with ⟨rfl, h0⟩ | ⟨b, o, c, rfl, _⟩
    · simp [partsOf] at h0
    · exact ⟨_, _, rfl⟩
  have HA := Lib.hid (fun t W (hW : Bel w W) => errors_As ⟨b, 0, none⟩ t (.pointer none) W (hH.bel hW))
  have hlen : ¬ (((partsOf (.fault p a e)).length : Nat) : Int) = 0 := by simp [partsOf]; omega
  have hlen2 : (0 : Int) < (((partsOf (.fault p a e)).length : Nat) : Int) := by omega
  have H0 : Hid (∃ b' o, pa = some ⟨b', o, none⟩ ∧ w.cell? ⟨b', o, none⟩ = some (.string ⟨p.toArray⟩) ∧ w.cell? ⟨b', o + 1, none⟩ = some (.int .i64 a)) := by
    rcases HS.out with ⟨h, h0⟩ | ⟨b', o, c, h, _, _, hr⟩
    · simp [partsOf] at h0
    · injection h with e1 _ e2
      obtain ⟨d0, d1⟩ := part_cells (i := 0) hr (by simp [partsOf])
      exact ⟨b', o, e1, by simpa [partsOf] using d0, by simpa [partsOf] using d1⟩
  generalize errT (.fault p a e) = R at HW HE
  obtain ⟨z, hz⟩ : ∃ z, z = (⟨R.toArray⟩ : ByteArray) := ⟨_, rfl⟩
  rw [← hz] at HW HE
  generalize numOf (.fault p a e) = n at HW HI hnum
  have HI := Lib.hid HI
  generalize hln : (partsOf (.fault p a e)).length = ln at HW hlen hlen2
  have hnn : ¬ n = 0 := by omega
  clear hz hE hs hg hl HS hln k3 k4 hd hH
  have hzz : (z != z) = false := by unfold bne; rw [bz]; rfl
  obtain ⟨b', o, rfl, d0, d1⟩ := H0.out
  obtain ⟨zp, hzp⟩ : ∃ z, z = (⟨p.toArray⟩ : ByteArray) := ⟨_, rfl⟩
  rw [← hzp] at d0 k1
  clear hzp H0
  have l0 := lt_of_cell d0
  have lb := lt_of_cell k1
  go_enter Tryd.func14, Tryd.ntmps14
  go_wp2_with fail
  go_region_held3 (fun w' => w'.cell? ⟨w.heap.size, 0, none⟩ = some (.slice (some ⟨b', o, none⟩) ln pc) ∧ w'.cell? ⟨w.heap.size, 1, none⟩ = some (.int .i64 n))
    (first | go_keep | (go_split_ands; exact ⟨hb3.cellv (by assumption), hb3.cellv (by assumption)⟩) | (go_split_ands; exact ⟨hb2.cellv (by assumption), hb2.cellv (by assumption)⟩) | (go_split_ands; exact ⟨hb1.cellv (by assumption), hb1.cellv (by assumption)⟩))
    (first | (go_at_call 123; (with_reducible refine (HE.out _ ((Bel.rfl'.al _).dr)).mono ?_); rintro e w1 ⟨rfl, hb1⟩) | (go_at_call 39; (with_reducible refine (HW.out _ (((Bel.rfl'.al _).dr).step hb1)).mono ?_); rintro e w2 ⟨rfl, hb2⟩) | (go_at_call 40; (with_reducible refine (HI.out _ ((((Bel.rfl'.al _).dr).step hb1).step hb2)).mono ?_); rintro e w3 ⟨rfl, hb3⟩))
  all_goals
    have hB3 := ((((Bel.rfl'.al _).dr).step hb1).step hb2).step hb3
    rename_i hheld
    obtain ⟨e0, e1⟩ := hheld
    have l3 : w.heap.size < w3.heap.size := lt_of_cell e0
    have hlt3 := hB3.size
    go_wp2_with fail
    refine (HA.out ⟨w3.heap.size, 0, none⟩ _ (hB3.al _) ?_ ?_ rfl).mono ?_
    · simp
    · simp
    rintro e w4 ⟨rfl, ct, hb4⟩
    have c1 : w4.cell? ⟨b, 0, none⟩ = some (.string zp) := (hb4.cell (p := ⟨b, 0, none⟩) (by simp; omega)).trans ((hB3.al _).cellv k1)
    have c2 : w4.cell? ⟨b, 1, none⟩ = some (.int .i64 a) := (hb4.cell (p := ⟨b, 1, none⟩) (by simp; omega)).trans ((hB3.al _).cellv k2)
    have c3 : w4.cell? ⟨b', o, none⟩ = some (.string zp) := (hb4.cell (p := ⟨b', o, none⟩) (by simp; omega)).trans ((hB3.al _).cellv d0)
    have c4 : w4.cell? ⟨b', o + 1, none⟩ = some (.int .i64 a) := (hb4.cell (p := ⟨b', o + 1, none⟩) (by simp; omega)).trans ((hB3.al _).cellv d1)
    have c5 : w4.cell? ⟨w.heap.size, 0, none⟩ = some (.slice (some ⟨b', o, none⟩) ln pc) := (hb4.cell (p := ⟨w.heap.size, 0, none⟩) (by simpa using l3)).trans (Bel.cellv (Bel.rfl'.al _) e0)
    have hpp : (zp == zp) = true := bz zp
    have hB4 : Bel w w4 := (hB3.al _).trans (hb4.mono hlt3)
    have hlen3 : 0 < ln := by omega
    go_wp2_with fail
    go_quiet (fail)
    go_wp2_with fail
    go_ret
    exact ⟨rfl, hB4.dn nq⟩
end Go.Proofs.YtmnmoadkpidggaaDoor
