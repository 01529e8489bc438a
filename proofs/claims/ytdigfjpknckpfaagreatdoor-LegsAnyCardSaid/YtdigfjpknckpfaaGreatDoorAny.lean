/- The law LegsAny walked: it returns true. Condition: the argument reads as a list of legs; the tables and the error's handle are laid. -/
import Derived.Test.YtdigfjpknckpfaaGreatDoorRefCanonB
import Derived.Test.YtdigfjpknckpfaaGreatDoorRefLegE
import Derived.Test.YtdigfjpknckpfaaGreatDoorLegR
import Derived.Test.YtdigfjpknckpfaaGreatDoorLegK
import Derived.Test.YtdigfjpknckpfaaGreatDoorTellG
import Derived.Test.YtdigfjpknckpfaaGreatDoorOpenLeg
namespace Go.Proofs.YtdigfjpknckpfaaGreatDoor
set_option linter.unusedSimpArgs false
set_option linter.unusedVariables false
open Go.RowKit

theorem sl_len {α : Type} {enc : α → List Value} {k : Nat} {w : World} {v : Value} {l : List α} (h : Sl enc k w v l) : ∃ a c, v = .slice a l.length c := by
  rcases h with ⟨rfl, rfl⟩ | ⟨b, o, c, rfl, _⟩
  · exact ⟨_, _, rfl⟩
  · exact ⟨_, _, rfl⟩

set_option maxRecDepth 100000 in
set_option maxHeartbeats 8000000 in
theorem any_good (v1 : Value) (l : List Leg) (w : World) (h1 : SlLeg w v1 l) (hl : ∀ x ∈ l, LegOk x) (hT : Tab w) (q1 : ¬ 20 < l.length) (q2 : checkS l = .nil) :
    Calls Tryz.prog 3 #[v1] w fun e w' => e = .returned (.bool true) ∧ Bel w w' := by
  obtain ⟨a1, c1, e1⟩ := sl_len h1
  have K := Lib.hid (known17 w)
  have HO := Lib.hid (fun W (hW : Bel w W) => legs_Of v1 l W (h1.bel encLeg_len hW) (by omega))
  have HRC := fun v W (hW : SlLeg W v l) => ref_Check v l W hW (by omega)
  have HCA := fun W (hW : Bel w W) => legs_Canon_ok v1 l W (h1.bel encLeg_len hW) (by omega) q2
  have HRK := fun v W (hW : SlLeg W v l) => ref_Canon_ok v l W hW q2
  have HC := fun W (hW : Bel w W) => legs_Check v1 l W (h1.bel encLeg_len hW) (by omega)
  rw [q2] at HRC HC
  have hlen : (canonS l).1.length ≤ 20 := by rw [canon_len]; omega
  have HOc := Lib.hid (fun v W (hW : SlLeg W v (canonS l).1) => legs_Of v (canonS l).1 W hW (by omega))
  have HSc := Lib.hid (fun v v' W (hW : SlLeg W v (canonS l).1) (hW' : SlLeg W v' (canonS l).1) => ref_Same v v' (canonS l).1 W hW hW' (by omega))
  have HC2 := fun v W (hW : SlLeg W v (canonS l).1) => legs_Canon_ok v (canonS l).1 W hW (by omega) (canon_check q2)
  rw [canon_again q2] at HC2
  have HSm := fun v v' W (hW : SlLeg W v (canonS l).1) (hW' : SlLeg W v' (canonS l).1) => legs_Same v v' (canonS l).1 (canonS l).1 W hW hW' (by omega) (by omega)
  rw [show decide ((canonS l).1 = (canonS l).1) = true by simp] at HSm
  have HTX := Lib.hid (fun W (hW : Bel w W) => legs_Text v1 l W (h1.bel encLeg_len hW) (by omega) (fun x hx => ⟨Or.inl ⟨hT.bel hW, (hl x hx).2.2⟩, Or.inl ⟨hT.bel hW, (hl x hx).1⟩⟩))
  have HRT := Lib.hid (fun v W (hW : SlLeg W v l) => ref_LegText v l W hW (by omega) (fun x hx => ⟨(hl x hx).2.2, (hl x hx).1⟩))
  have HTU := Lib.hid (fun W (hW : Bel w W) => legs_Turned v1 l W (h1.bel encLeg_len hW) (by omega))
  have htl : (turnS l).length ≤ 20 := by simp [turnS]; omega
  have HOt := Lib.hid (fun v W (hW : SlLeg W v (turnS l)) => legs_Of v (turnS l) W hW (by omega))
  have HRU := Lib.hid (fun v W (hW : SlLeg W v l) => ref_Turned v l W hW (by omega))
  have HSt := Lib.hid (fun v v' W (hW : SlLeg W v (turnS l)) (hW' : SlLeg W v' (turnS l)) => ref_Same v v' (turnS l) W hW hW' (by omega))
  have HRC := Lib.hid HRC
  have HCA := Lib.hid HCA
  have HRK := Lib.hid HRK
  have HC := Lib.hid HC
  have HC2 := Lib.hid HC2
  have HSm := Lib.hid HSm
  have HTn := Lib.hid (fun (W : World) (pa : Option Addr) (pn pc : Nat) (h : Sl encPart 2 W (.slice pa pn pc) []) => tells_nil .nilIface (.agg #[.slice pa pn pc, .int .i64 0]) 0 W rfl (WrAt.nil0 h))
  have q1' : ¬ (20 : Int) < (l.length : Int) := by omega
  clear h1 hl hT q2 hlen htl
  generalize (canonS l).2 = tb at HCA HRK
  generalize (canonS l).1 = c at HCA HRK HOc HSc HC2 HSm
  generalize turnS l = tl at HTU HOt HRU HSt
  generalize textS l = tx at HTX HRT
  subst e1
  go_enter Tryz.func3, Tryz.ntmps3
  go_wp2_with fail
  refine K.out.mono ?_
  rintro e w1 ⟨rfl, hB1⟩
  go_wp2_with fail
  refine (HO.out _ hB1).mono ?_
  rintro e w2 ⟨vo, rfl, hvo, hB2⟩
  go_wp2_with fail
  refine (HRC.out _ _ hvo.sl).mono ?_
  rintro e w3 ⟨vr, rfl, hvr, hB3⟩
  obtain ⟨pv, rfl, hsl, _⟩ := hvr
  obtain ⟨pa, pn, pc, rfl⟩ := sl_shape hsl
  rw [show numOf .nil = 0 from rfl]
  have HS := Lib.hid hsl
  have hW3 := ((hB1.step hB2).step hB3)
  clear hvo hsl
  go_wp2_with fail
  refine (HCA.out _ (hW3.al _)).mono ?_
  rintro e w4 ⟨vc, rfl, hvc, hB4⟩
  go_wp2_with fail
  refine (HO.out _ ((hW3.al _).step hB4)).mono ?_
  rintro e w5 ⟨vo2, rfl, hvo2, hB5⟩
  go_wp2_with fail
  refine (HRK.out _ _ hvo2.sl).mono ?_
  rintro e w6 ⟨vd, wv2, rfl, hvd, hwv2, hB6⟩
  obtain ⟨pv2, rfl, hsl2, _⟩ := hwv2
  obtain ⟨pa2, pn2, pc2, rfl⟩ := sl_shape hsl2
  rw [show numOf .nil = 0 from rfl]
  go_wp2_with fail
  have hW6 : Bel w w6 := (((hW3.al _).step hB4).step hB5).step hB6
  have a0 : w6.cell? ⟨w3.heap.size, 0, none⟩ = some (.slice pa pn pc) := hB6.cellv (hB5.cellv (hB4.cellv (by simp)))
  have a1 : w6.cell? ⟨w3.heap.size, 1, none⟩ = some (.int .i64 0) := hB6.cellv (hB5.cellv (hB4.cellv (by simp)))
  obtain ⟨W, hWe⟩ : ∃ W, W = w6.alloc (.cells #[.slice pa2 pn2 pc2, .int .i64 0] 26) := ⟨_, rfl⟩
  have hWW : Bel w6 W := by rw [hWe]; exact Bel.rfl'.al _
  have b0 : W.cell? ⟨w6.heap.size, 0, none⟩ = some (.slice pa2 pn2 pc2) := by rw [hWe]; simp
  have b1 : W.cell? ⟨w6.heap.size, 1, none⟩ = some (.int .i64 0) := by rw [hWe]; simp
  have a0 := hWW.cellv a0
  have a1 := hWW.cellv a1
  have hW7 := hW6.step hWW
  have HVC := Lib.hid ((((hvc.sl).bel encLeg_len hB5).bel encLeg_len hB6).bel encLeg_len hWW)
  have HVD := Lib.hid ((hvd.sl).bel encLeg_len hWW)
  have HS2 := Lib.hid hsl2
  have HSA := Lib.hid (fun W' => (HS.out.nil_any : Sl encPart 2 W' (.slice pa pn pc) []))
  have HSB := Lib.hid (fun W' => (HS2.out.nil_any : Sl encPart 2 W' (.slice pa2 pn2 pc2) []))
  rw [← hWe]
  clear hWe hsl2 hvc hvd hvo2
  go_region_held3 (fun w' => w'.cell? ⟨w3.heap.size, 0, none⟩ = some (.slice pa pn pc) ∧ w'.cell? ⟨w3.heap.size, 1, none⟩ = some (.int .i64 0) ∧ w'.cell? ⟨w6.heap.size, 0, none⟩ = some (.slice pa2 pn2 pc2) ∧ w'.cell? ⟨w6.heap.size, 1, none⟩ = some (.int .i64 0))
    (first | go_keep | (go_split_ands; exact ⟨hb.cellv (by assumption), hb.cellv (by assumption), hb.cellv (by assumption), hb.cellv (by assumption)⟩))
    (first
      | (go_at_call 11; (with_reducible refine Calls.mono (HC.out _ ?_) ?_); (· repeat first | assumption | exact Bel.rfl' | apply Bel.dr | apply Bel.dn); rintro e w8 ⟨v8, rfl, hv8, hb⟩; obtain rfl := nil_of hv8; clear hv8; have hz := Bel.step (show Bel W _ from (by repeat first | assumption | exact Bel.rfl' | apply Bel.dr | apply Bel.dn)) hb)
      | (go_at_call 10; (with_reducible refine Calls.mono (HTn.out _ _ _ _ ?_) ?_); (· first | exact HSA.out _ | exact HSB.out _); rintro e w9 ⟨rfl, hb⟩; have hz := Bel.step (show Bel W _ from (by repeat first | assumption | exact Bel.rfl' | apply Bel.dr | apply Bel.dn)) hb)
      | (go_at_call 7; (with_reducible refine Calls.mono (HOc.out _ _ ?_) ?_); (· exact HVC.out.bel encLeg_len (by repeat first | assumption | exact Bel.rfl' | apply Bel.dr | apply Bel.dn)); rintro e w10 ⟨v10, rfl, hv10, hb⟩; have hz := Bel.step (show Bel W _ from (by repeat first | assumption | exact Bel.rfl' | apply Bel.dr | apply Bel.dn)) hb)
      | (go_at_call 12; (with_reducible refine Calls.mono (HSc.out _ _ _ ?_ ?_) ?_); (· exact (hv10.sl).bel encLeg_len (by repeat first | assumption | exact Bel.rfl' | apply Bel.dr | apply Bel.dn)); (· exact HVD.out.bel encLeg_len (by repeat first | assumption | exact Bel.rfl' | apply Bel.dr | apply Bel.dn)); rintro e w11 ⟨rfl, hb⟩; have hz := Bel.step (show Bel W _ from (by repeat first | assumption | exact Bel.rfl' | apply Bel.dr | apply Bel.dn)) hb)
      | fail)
  all_goals
    rename_i hheld
    obtain ⟨e0, e1, e2, e3⟩ := hheld
    have hW11 : Bel W w11 := (by repeat first | assumption | exact Bel.rfl' | apply Bel.dr | apply Bel.dn)
    clear e2 e3 e0
    go_wp2_with fail
    refine (HC2.out _ _ (HVC.out.bel encLeg_len hW11)).mono ?_
    rintro e w12 ⟨vx, rfl, hvx, hB12⟩
    have hW12 := hW7.step (hW11.step hB12)
    go_wp2_with fail
    refine (HSm.out _ _ _ hvx.sl (HVC.out.bel encLeg_len (hW11.step hB12))).mono ?_
    rintro e w13 ⟨rfl, hB13⟩
    go_wp2_with fail
    have hW13 := hW12.step hB13
    refine (HTX.out _ hW13).mono ?_
    rintro e w14 ⟨rfl, hB14⟩
    have hW14 := hW13.step hB14
    go_wp2_with fail
    refine (HO.out _ hW14).mono ?_
    rintro e w15 ⟨vo3, rfl, hvo3, hB15⟩
    have hW15 := hW14.step hB15
    go_wp2_with fail
    refine (HRT.out _ _ hvo3.sl).mono ?_
    rintro e w16 ⟨rfl, hB16⟩
    have hW16 := hW15.step hB16
    have hbz : ((⟨tx.toArray⟩ : ByteArray) == ⟨tx.toArray⟩) = true := bz _
    go_wp2_with fail
    refine (HTU.out _ hW16).mono ?_
    rintro e w17 ⟨vt, rfl, hvt, hB17⟩
    have hW17 := hW16.step hB17
    go_wp2_with fail
    refine (HOt.out _ _ hvt.sl).mono ?_
    rintro e w18 ⟨vot, rfl, hvot, hB18⟩
    have hW18 := hW17.step hB18
    go_wp2_with fail
    refine (HO.out _ hW18).mono ?_
    rintro e w19 ⟨vo4, rfl, hvo4, hB19⟩
    have hW19 := hW18.step hB19
    go_wp2_with fail
    refine (HRU.out _ _ hvo4.sl).mono ?_
    rintro e w20 ⟨vtr, rfl, hvtr, hB20⟩
    have hW20 := hW19.step hB20
    go_wp2_with fail
    refine (HSt.out _ _ _ ((hvot.sl.bel encLeg_len hB19).bel encLeg_len hB20) hvtr.sl).mono ?_
    rintro e w21 ⟨rfl, hB21⟩
    go_wp2_with fail
    go_ret
    exact ⟨rfl, hW20.step hB21⟩

set_option maxRecDepth 100000 in
set_option maxHeartbeats 8000000 in
theorem any_bad (v1 : Value) (l : List Leg) (w : World) (h1 : SlLeg w v1 l) (hH : Handle w) (q1 : ¬ 20 < l.length) (q2 : checkS l ≠ .nil) :
    Calls Tryz.prog 3 #[v1] w fun e w' => e = .returned (.bool true) ∧ Bel w w' := by
  obtain ⟨a1, c1, e1⟩ := sl_len h1
  have K := Lib.hid (known17 w)
  have HO := Lib.hid (fun W (hW : Bel w W) => legs_Of v1 l W (h1.bel encLeg_len hW) (by omega))
  have HRC := fun v W (hW : SlLeg W v l) => ref_Check v l W hW (by omega)
  have HCA := fun W (hW : Bel w W) => legs_Canon_bad v1 l W (h1.bel encLeg_len hW) (by omega) q2
  have HRK := fun v W (hW : SlLeg W v l) => ref_Canon_bad v l W hW (by omega) q2
  have HC := fun W (hW : Bel w W) => legs_Check v1 l W (h1.bel encLeg_len hW) (by omega)
  have HOc := Lib.hid (fun W => legs_Of (.slice none 0 0) [] W Sl.nil (by decide))
  have HSc := Lib.hid (fun v W (hW : SlLeg W v []) => ref_Same v (.slice none 0 0) [] W hW Sl.nil (by decide))
  obtain ⟨fa, fn, hcf, fa0, fa4, fn1, fn14⟩ := check_fault q2
  have hpl : ∀ W, Plain1 W (checkS l) := fun W => Or.inr ⟨legW, fa, fn, hcf, by decide, Or.inr ⟨fa0, by omega⟩, fn1, fn14⟩
  have hnum : numOf (checkS l) = fn := by rw [hcf]; rfl
  have HTP := Lib.hid (fun v wv B W (hE : ErAt W v (checkS l)) (h2 : WrAt B W wv (checkS l)) (hW : Bel w W) => tells_plain (checkS l) v wv B W hE h2 (hpl W) (hH.bel hW))
  have hfn : (fn != 0) = true := by rw [bne_iff_ne]; omega
  have q1' : ¬ (20 : Int) < (l.length : Int) := by omega
  have HNUM := Lib.hid hnum
  clear h1 hH q2 hcf hpl fa0 fa4 fn1 fn14 hnum
  have HRC := Lib.hid HRC
  have HCA := Lib.hid HCA
  have HRK := Lib.hid HRK
  have HC := Lib.hid HC
  generalize checkS l = c at HRC HCA HRK HC HTP HNUM
  subst e1
  go_enter Tryz.func3, Tryz.ntmps3
  go_wp2_with fail
  refine K.out.mono ?_
  rintro e w1 ⟨rfl, hB1⟩
  go_wp2_with fail
  refine (HO.out _ hB1).mono ?_
  rintro e w2 ⟨vo, rfl, hvo, hB2⟩
  go_wp2_with fail
  refine (HRC.out _ _ hvo.sl).mono ?_
  rintro e w3 ⟨vr, rfl, hvr, hB3⟩
  have HWA := hvr.mono (Nat.zero_le _)
  obtain ⟨pv, rfl, hsl, _⟩ := hvr
  obtain ⟨pa, pn, pc, rfl⟩ := sl_shape hsl
  rw [HNUM.out] at HWA ⊢
  have HWA := Lib.hid HWA
  have hW3 := ((hB1.step hB2).step hB3)
  clear hvo hsl
  go_wp2_with fail
  refine (HCA.out _ (hW3.al _)).mono ?_
  rintro e w4 ⟨ve, rfl, hve, hB4⟩
  go_wp2_with fail
  refine (HO.out _ ((hW3.al _).step hB4)).mono ?_
  rintro e w5 ⟨vo2, rfl, hvo2, hB5⟩
  go_wp2_with fail
  refine (HRK.out _ _ hvo2.sl).mono ?_
  rintro e w6 ⟨wv2, rfl, hwv2, hB6⟩
  have HWB := hwv2
  obtain ⟨pv2, rfl, hsl2, _⟩ := hwv2
  obtain ⟨pa2, pn2, pc2, rfl⟩ := sl_shape hsl2
  rw [HNUM.out] at HWB ⊢
  go_wp2_with fail
  have hW6 : Bel w w6 := (((hW3.al _).step hB4).step hB5).step hB6
  have a0 : w6.cell? ⟨w3.heap.size, 0, none⟩ = some (.slice pa pn pc) := hB6.cellv (hB5.cellv (hB4.cellv (by simp)))
  have a1 : w6.cell? ⟨w3.heap.size, 1, none⟩ = some (.int .i64 fn) := hB6.cellv (hB5.cellv (hB4.cellv (by simp)))
  have HWA6 := ((((HWA.out.bel (Bel.rfl'.al (.cells #[.slice pa pn pc, .int .i64 fn] 26))).bel hB4).bel hB5).bel hB6)
  obtain ⟨W, hWe⟩ : ∃ W, W = w6.alloc (.cells #[.slice pa2 pn2 pc2, .int .i64 fn] 26) := ⟨_, rfl⟩
  have hWW : Bel w6 W := by rw [hWe]; exact Bel.rfl'.al _
  have b0 : W.cell? ⟨w6.heap.size, 0, none⟩ = some (.slice pa2 pn2 pc2) := by rw [hWe]; simp
  have b1 : W.cell? ⟨w6.heap.size, 1, none⟩ = some (.int .i64 fn) := by rw [hWe]; simp
  have a0 := hWW.cellv a0
  have a1 := hWW.cellv a1
  have hW7 := hW6.step hWW
  have HA := Lib.hid (HWA6.bel hWW)
  have HBB := Lib.hid (HWB.bel hWW)
  have HE := Lib.hid (((hve.bel hB5).bel hB6).bel hWW)
  rw [← hWe]
  clear hWe hsl2 hvo2 hve HWB HWA6
  go_region_held3 (fun w' => w'.cell? ⟨w3.heap.size, 0, none⟩ = some (.slice pa pn pc) ∧ w'.cell? ⟨w3.heap.size, 1, none⟩ = some (.int .i64 fn) ∧ w'.cell? ⟨w6.heap.size, 0, none⟩ = some (.slice pa2 pn2 pc2) ∧ w'.cell? ⟨w6.heap.size, 1, none⟩ = some (.int .i64 fn))
    (first | go_keep | (go_split_ands; exact ⟨hb.cellv (by assumption), hb.cellv (by assumption), hb.cellv (by assumption), hb.cellv (by assumption)⟩))
    (first
      | (go_at_call 11; (with_reducible refine Calls.mono (HC.out _ ?_) ?_); (· repeat first | assumption | exact Bel.rfl' | apply Bel.dr | apply Bel.dn); rintro e w8 ⟨v8, rfl, hv8, hb⟩; have hz := Bel.step (show Bel W _ from (by repeat first | assumption | exact Bel.rfl' | apply Bel.dr | apply Bel.dn)) hb)
      | (go_at_call 10; (with_reducible refine Calls.mono (HTP.out v8 (.agg #[.slice pa pn pc, .int .i64 fn]) 0 _ ?_ ?_ ?_) ?_); (· exact hv8.bel (by repeat first | assumption | exact Bel.rfl' | apply Bel.dr | apply Bel.dn)); (· exact HA.out.bel (by repeat first | assumption | exact Bel.rfl' | apply Bel.dr | apply Bel.dn)); (· exact hW7.step (by repeat first | assumption | exact Bel.rfl' | apply Bel.dr | apply Bel.dn)); rintro e w9 ⟨rfl, hb⟩; have hz := Bel.step (show Bel W _ from (by repeat first | assumption | exact Bel.rfl' | apply Bel.dr | apply Bel.dn)) hb)
      | (go_at_call 10; (with_reducible refine Calls.mono (HTP.out ve (.agg #[.slice pa2 pn2 pc2, .int .i64 fn]) 0 _ ?_ ?_ ?_) ?_); (· exact HE.out.bel (by repeat first | assumption | exact Bel.rfl' | apply Bel.dr | apply Bel.dn)); (· exact HBB.out.bel (by repeat first | assumption | exact Bel.rfl' | apply Bel.dr | apply Bel.dn)); (· exact hW7.step (by repeat first | assumption | exact Bel.rfl' | apply Bel.dr | apply Bel.dn)); rintro e w9 ⟨rfl, hb⟩; have hz := Bel.step (show Bel W _ from (by repeat first | assumption | exact Bel.rfl' | apply Bel.dr | apply Bel.dn)) hb)
      | (go_at_call 7; (with_reducible refine Calls.mono (HOc.out _) ?_); rintro e w10 ⟨v10, rfl, hv10, hb⟩; have hz := Bel.step (show Bel W _ from (by repeat first | assumption | exact Bel.rfl' | apply Bel.dr | apply Bel.dn)) hb)
      | (go_at_call 12; (with_reducible refine Calls.mono (HSc.out _ _ ?_) ?_); (· exact (hv10.sl).bel encLeg_len (by repeat first | assumption | exact Bel.rfl' | apply Bel.dr | apply Bel.dn)); rintro e w11 ⟨rfl, hb⟩; have hz := Bel.step (show Bel W _ from (by repeat first | assumption | exact Bel.rfl' | apply Bel.dr | apply Bel.dn)) hb)
      | fail)
  all_goals
    rename_i hheld
    obtain ⟨e0, e1, e2, e3⟩ := hheld
    have hW11 : Bel W w11 := (by repeat first | assumption | exact Bel.rfl' | apply Bel.dr | apply Bel.dn)
    clear e2 e3 e0
    go_wp2_with fail
    go_ret
    exact ⟨rfl, hW7.step hW11⟩

theorem any_walk (v1 : Value) (l : List Leg) (w : World) (h1 : SlLeg w v1 l) (hl : ∀ x ∈ l, LegOk x) (hT : Tab w) (hH : Handle w) :
    Calls Tryz.prog 3 #[v1] w fun e w' => e = .returned (.bool true) ∧ Bel w w' := by
  by_cases q1 : 20 < l.length
  · obtain ⟨a1, c1, e1⟩ := sl_len h1
    have K := Lib.hid (known17 w)
    have q1' : (20 : Int) < (l.length : Int) := by omega
    subst e1
    clear h1 hl hT hH
    go_enter Tryz.func3, Tryz.ntmps3
    go_wp2_with fail
    refine K.out.mono ?_
    rintro e w1 ⟨rfl, hB1⟩
    go_wp2_with fail
    go_ret
    exact ⟨rfl, hB1⟩
  · by_cases q2 : checkS l = .nil
    · exact any_good v1 l w h1 hl hT q1 q2
    · exact any_bad v1 l w h1 hH q1 q2
end Go.Proofs.YtdigfjpknckpfaaGreatDoor
