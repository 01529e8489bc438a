/- Messages as bytes: msg.Encode: its contract. Condition: int64 numbers, few rows. -/
import Derived.Test.YtmnmoadkpidggaaDoorMsgB
namespace Go.Proofs.YtmnmoadkpidggaaDoor
set_option linter.unusedSimpArgs false
set_option linter.unusedVariables false
open Go.RowKit

def encRow (r : Row) : List Value := [.int .i64 r.a, .int .i64 r.b, .int .i64 r.c, .int .i64 r.d, .int .i64 r.e]
theorem encRow_len (r : Row) : (encRow r).length = 5 := rfl
abbrev SlRow := Sl encRow 5
theorem row_cells {w : World} {b o : Nat} {l : List Row} (h : RowAt encRow 5 w b o l) {i : Nat} (hi : i < l.length) :
    w.cell? ⟨b, o + i * 5, none⟩ = some (.int .i64 l[i].a) ∧ w.cell? ⟨b, o + i * 5 + 1, none⟩ = some (.int .i64 l[i].b) ∧ w.cell? ⟨b, o + i * 5 + 2, none⟩ = some (.int .i64 l[i].c) ∧ w.cell? ⟨b, o + i * 5 + 3, none⟩ = some (.int .i64 l[i].d) ∧ w.cell? ⟨b, o + i * 5 + 4, none⟩ = some (.int .i64 l[i].e) :=
  ⟨h i hi 0 (by omega), h i hi 1 (by omega), h i hi 2 (by omega), h i hi 3 (by omega), h i hi 4 (by omega)⟩
/-- A message by value: its cells, one behind the other. -/
def msgV (m : Msg) (lv : Value) : Value := .agg (#[.int .i64 m.k, .int .i64 m.s] ++ (m.a.map (Value.int .i64)).toArray ++ #[lv])

theorem sln_of {w : World} {b o n c : Nat} {l : List Int} (hn : l.length = n) (hc : n ≤ c) (hm : c ≤ maxLen) (h : ∀ i (hi : i < l.length), w.cell? ⟨b, o + i, none⟩ = some (.int .i64 l[i])) : SlN w (.slice (some ⟨b, o, none⟩) n c) l := by
  subst hn
  refine Or.inr ⟨b, o, c, rfl, hc, hm, fun i hi j hj => ?_⟩
  obtain rfl : j = 0 := by omega
  simp [encN, h i hi]

set_option maxRecDepth 100000 in
set_option maxHeartbeats 4000000 in
theorem msg_Encode_bad (m : Msg) (lv : Value) (w : World) (hok : m.ok) (hs : SlRow w lv m.l) (hl : m.l.length ≤ 1000) (hm : mayN m.k m.s m.l.length ≠ 0) :
    Calls Tryd.prog 20 #[msgV m lv] w fun e w' => ∃ ev, e = .returned (.tuple #[.slice none 0 0, ev]) ∧ ErAt w' ev (mayS m.k m.s m.l.length) ∧ Bel w w' := by
  obtain ⟨hk, hseq, hal, ha, hr⟩ := hok
  obtain ⟨k, s, a, l⟩ := m
  obtain ⟨a0, c0, rfl⟩ := slot_shape hs
  have HMAY := Lib.hid (fun W => msg_may k s l.length W hk)
  have hnb : isNilB (mayS k s l.length) = false := by unfold mayS; rw [if_neg hm]; rfl
  match a, hal with
  | [a0', a1', a2', a3', a4', a5'], _ =>
    clear hs hr hm ha
    unfold msgV
    dsimp only
    generalize mayS k s l.length = er at HMAY hnb ⊢
    go_enter Tryd.func20, Tryd.ntmps20
    go_wp2_with fail
    refine (HMAY.out _).mono ?_
    rintro e w1 ⟨v1, rfl, hv, hB⟩
    have hq := fun W => ErAt.neqNil (W := W) hv
    have hg := fun W op x => ErAt.guard (W := W) hv op x
    rw [hnb] at hq
    simp only [Bool.not_false] at hq
    have HV := Lib.hid hv
    clear hv hnb
    go_wp2_with fail
    go_ret2
    exact ⟨_, rfl, HV.out, (Bel.rfl'.al _).step hB⟩

theorem EncAt.start {w : World} {T : TypeId} : EncAt (w.alloc (.cells #[.slice none 0 0] T)) w.heap.size w.heap.size (.slice none 0 0) [] :=
  ⟨new_cell _ _ _ 0 rfl, new_free _ _ _ 0 rfl, World.ownsRow_nil _ _ _ _, fun h => (by cases h), Nat.le_refl _⟩
/-- New blocks alone. -/
theorem EncAt.bel {w w' : World} {e B : Nat} {v : Value} {xs : List UInt8} (h : EncAt w e B v xs) (hB : Bel w w') : EncAt w' e B v xs :=
  ⟨hB.cellv h.cell, (hB.frozen (p := ⟨e, 0, none⟩) (lt_of_cell h.cell)).trans h.free, hB.own h.own, h.apart, h.base⟩
theorem EncAt.lt {w : World} {e B : Nat} {v : Value} {xs : List UInt8} (h : EncAt w e B v xs) : e < w.heap.size := lt_of_cell h.cell
theorem flat_take_snoc {l : List Row} {k : Nat} (h : k < l.length) : (l.take (k + 1)).flatMap Row.l = (l.take k).flatMap Row.l ++ l[k].l := by
  rw [List.take_succ_eq_append_getElem h, List.flatMap_append]; simp

set_option maxRecDepth 100000 in
set_option maxHeartbeats 4000000 in
theorem msg_Encode_ok (m : Msg) (lv : Value) (w : World) (hok : m.ok) (hs : SlRow w lv m.l) (hl : m.l.length ≤ 1000) (hm : mayN m.k m.s m.l.length = 0) :
    Calls Tryd.prog 20 #[msgV m lv] w fun e w' => ∃ bv, e = .returned (.tuple #[bv, .nilIface]) ∧ Fresh encB 1 w.heap.size w' bv (msgS m) ∧ Bel w w' := by
  obtain ⟨hk, hseq, hal, ha, hr⟩ := hok
  obtain ⟨k, s, a, l⟩ := m
  obtain ⟨la, lc, rfl⟩ := slot_shape hs
  have HMAY := fun W => msg_may k s l.length W hk
  rw [show mayS k s l.length = .nil by unfold mayS; exact if_pos hm] at HMAY
  have HMAY := Lib.hid HMAY
  have HS := Lib.hid hs
  have HR := Lib.hid hr
  have HKS : Hid (∀ n ∈ [k, s], I64 n) := fun n hn => by
    simp only [List.mem_cons, List.not_mem_nil, or_false] at hn
    rcases hn with rfl | rfl
    · exact hk
    · exact hseq
  have HA := Lib.hid ha
  have HLN : Hid (∀ n ∈ [(l.length : Int)], I64 n) := fun n hn => by
    simp only [List.mem_cons, List.not_mem_nil, or_false] at hn
    subst hn; dsimp only at hl; unfold I64; omega
  have hla : la = none → l.length = 0 := fun h => by
    rcases hs with ⟨_, h2⟩ | ⟨b, o, c, h2, _⟩
    · dsimp only at h2; rw [h2]; rfl
    · rw [h] at h2; cases h2
  dsimp only at hl
  match a, hal with
  | [a0, a1, a2, a3, a4, a5], _ =>
    clear hs hr hm ha hk hseq
    unfold msgV msgS
    dsimp only
    have HN : Hid (numsOf ⟨k, s, [a0, a1, a2, a3, a4, a5], l⟩ = [k, s] ++ [a0, a1, a2, a3, a4, a5] ++ [(l.length : Int)] ++ l.flatMap Row.l) := rfl
    generalize numsOf ⟨k, s, [a0, a1, a2, a3, a4, a5], l⟩ = ns at HN ⊢
    go_enter Tryd.func20, Tryd.ntmps20
    go_wp2_with fail
    refine (HMAY.out _).mono ?_
    rintro e w1 ⟨v1, rfl, hv, hB⟩
    obtain rfl : v1 = .nilIface := hv
    have hsz := hB.size
    simp at hsz
    have c0 : w1.cell? ⟨w.heap.size, 0, none⟩ = some (.int .i64 k) := hB.cellv (by simp)
    have c1 : w1.cell? ⟨w.heap.size, 1, none⟩ = some (.int .i64 s) := hB.cellv (by simp)
    have d0 : w1.cell? ⟨w.heap.size, 2, none⟩ = some (.int .i64 a0) := hB.cellv (by simp)
    have d1 : w1.cell? ⟨w.heap.size, 3, none⟩ = some (.int .i64 a1) := hB.cellv (by simp)
    have d2 : w1.cell? ⟨w.heap.size, 4, none⟩ = some (.int .i64 a2) := hB.cellv (by simp)
    have d3 : w1.cell? ⟨w.heap.size, 5, none⟩ = some (.int .i64 a3) := hB.cellv (by simp)
    have d4 : w1.cell? ⟨w.heap.size, 6, none⟩ = some (.int .i64 a4) := hB.cellv (by simp)
    have d5 : w1.cell? ⟨w.heap.size, 7, none⟩ = some (.int .i64 a5) := hB.cellv (by simp)
    have c8 : w1.cell? ⟨w.heap.size, 8, none⟩ = some (.slice la l.length lc) := hB.cellv (by simp)
    have HA6 : Hid (SlN w1 (.slice (some ⟨w.heap.size, 2, none⟩) 6 6) [a0, a1, a2, a3, a4, a5]) := by
      refine sln_of rfl (Nat.le_refl _) (by unfold maxLen; omega) (fun i hi => ?_)
      have hi6 : i = 0 ∨ i = 1 ∨ i = 2 ∨ i = 3 ∨ i = 4 ∨ i = 5 := by simp at hi; omega
      rcases hi6 with rfl | rfl | rfl | rfl | rfl | rfl
      · exact d0
      · exact d1
      · exact d2
      · exact d3
      · exact d4
      · exact d5
    have hBw : Bel w w1 := (Bel.rfl'.al _).step hB
    have hlt1 : w.heap.size < w1.heap.size := by omega
    clear d0 d1 d2 d3 d4 d5
    have hx2 := encIs_len _ HKS.out
    have hx6 := encIs_len _ HA.out
    have hx1 := encIs_len _ HLN.out
    simp only [List.length_cons, List.length_nil] at hx2 hx6 hx1
    go_wp2_with fail
    refine (enc_Int w1.heap.size w1.heap.size (.slice none 0 0) _ [] [k, s] _ (EncAt.start.bel (Bel.rfl'.al _)) (sln_of rfl (Nat.le_refl _) (by simp [maxLen, Row.l]) (fun i hi => ?_)) HKS.out (by simp) (by simp) (fun g hg => ?_)).mono ?_
    · have hi2 : i = 0 ∨ i = 1 := by simp at hi; omega
      rcases hi2 with rfl | rfl
      · exact new_cell _ _ _ 0 (by simp)
      · exact new_cell _ _ _ 1 (by simp)
    · have hg : w1.heap.size + 1 = g := Option.some.inj hg
      exact ⟨by omega, fun h => by cases h⟩
    rintro en w2 ⟨rfl, hB2, v2, hE2⟩
    have B2 : Bel w1 w2 := ((Bel.rfl'.al _).al _).trans hB2
    have e0 := B2.cellv c0
    have e8 := B2.cellv c8
    have hlt2 := B2.size
    clear hB2
    rw [List.nil_append] at hE2
    have HE2 := Lib.hid hE2
    clear hE2
    go_wp2_with fail
    refine (enc_Int w1.heap.size w1.heap.size v2 _ _ [a0, a1, a2, a3, a4, a5] _ HE2.out (HA6.out.bel encN_len B2) HA.out (by simp) (by omega) (fun g hg => ?_)).mono ?_
    · have hg : w.heap.size = g := Option.some.inj hg
      exact ⟨by omega, fun h => by have := (HE2.out.own.lt g h).1; omega⟩
    rintro en w3 ⟨rfl, hB3, v3, hE3⟩
    have B3 : Bel w1 w3 := B2.trans hB3
    have f8 := B3.cellv c8
    have hlt3 := B3.size
    have HE3 := Lib.hid hE3
    clear hE3 hB3 e0 e8
    go_wp2_with fail
    refine (enc_Int w1.heap.size w1.heap.size v3 _ _ [(l.length : Int)] _ (HE3.out.bel (Bel.rfl'.al _)) (sln_of rfl (Nat.le_refl _) (by simp [maxLen, Row.l]) (fun i hi => ?_)) HLN.out (by simp) (by rw [List.length_append]; omega) (fun g hg => ?_)).mono ?_
    · have hi2 : i = 0 := by simp at hi; omega
      subst hi2
      exact new_cell _ _ _ 0 rfl
    · have hg : w3.heap.size = g := Option.some.inj hg
      exact ⟨by have := HE3.out.lt; omega, fun h => by have := (HE3.out.own.lt g h).2; omega⟩
    rintro en w4 ⟨rfl, hB4, v4, hE4⟩
    have B4 : Bel w1 w4 := (B3.al _).trans hB4
    have g8 := B4.cellv c8
    have hlt4 := B4.size
    obtain ⟨X, hX⟩ : ∃ X, X = encIs [k, s] ++ encIs [a0, a1, a2, a3, a4, a5] ++ encIs [(l.length : Int)] := ⟨_, rfl⟩
    have hXl : X.length ≤ 1000 := by rw [hX, List.length_append, List.length_append]; omega
    rw [← hX] at hE4
    have HE4 := Lib.hid hE4
    have HFIN : Hid (encIs ns = X ++ encIs (l.flatMap Row.l)) := by
      unfold Hid
      rw [HN.out, hX, encIs_app, encIs_app, encIs_app]
    clear hE4 hB4 f8 hX
    go_wp2_with fail
    go_loopw [36] (fun jv wr => ∃ j : Nat, ∃ v', j ≤ l.length ∧ jv = .int .i64 j ∧ Bel w1 wr ∧ EncAt wr w1.heap.size w1.heap.size v' (X ++ encIs ((l.take j).flatMap Row.l))) (fun jv _ => l.length - (intOf jv).toNat)
    case atStart => exact ⟨0, v4, by omega, rfl, B4, by simpa [encIs] using HE4.out⟩
    case round =>
      obtain ⟨j, v', hj, rfl, hBr, hEr⟩ := hrel
      have HER := Lib.hid hEr
      have hltr := hEr.lt
      clear hEr
      by_cases hlt : j < l.length
      · have hsl := HS.out.bel encRow_len (hBw.step hBr)
        rcases hsl with ⟨_, h0⟩ | ⟨b, o, cap, hq, hcap, hmm, hrow⟩
        · rw [h0] at hlt; simp at hlt
        obtain ⟨rfl, rfl⟩ : la = some ⟨b, o, none⟩ ∧ lc = cap := by injection hq with e1 _ e2; exact ⟨e1, e2⟩
        obtain ⟨r0, r1, r2, r3, r4⟩ := row_cells hrow hlt
        have HT := Lib.hid (flat_take_snoc hlt)
        have hxr := HR.out l[j] (List.getElem_mem hlt)
        have hxl : (encIs ((l.take j).flatMap Row.l)).length ≤ 100000 := by
          have h1 := encIs_len ((l.take j).flatMap Row.l) (fun n hn => by
            obtain ⟨r, hr, hn⟩ := List.mem_flatMap.1 hn
            exact HR.out r (List.mem_of_mem_take hr) n hn)
          rw [rows_flat, List.length_take] at h1
          have : min j l.length ≤ 1000 := by omega
          omega
        have HXR := Lib.hid hxr
        clear hq hrow hxr
        generalize l[j] = r at r0 r1 r2 r3 r4 HT HXR
        have hji : (0 : Int) ≤ (j : Int) := by omega
        go_wp2_with fail
        refine (enc_Int w1.heap.size w1.heap.size v' _ _ r.l _ (HER.out.bel (Bel.rfl'.al _)) (sln_of rfl (Nat.le_refl _) (by simp [maxLen, Row.l]) (fun i hi => ?_)) HXR.out (by simp [Row.l]) (by rw [List.length_append]; omega) (fun g hg => ?_)).mono ?_
        · have hi2 : i = 0 ∨ i = 1 ∨ i = 2 ∨ i = 3 ∨ i = 4 := by simp [Row.l] at hi; omega
          rcases hi2 with rfl | rfl | rfl | rfl | rfl
          · exact new_cell _ _ _ 0 rfl
          · exact new_cell _ _ _ 1 rfl
          · exact new_cell _ _ _ 2 rfl
          · exact new_cell _ _ _ 3 rfl
          · exact new_cell _ _ _ 4 rfl
        · have hg : wr.heap.size = g := Option.some.inj hg
          exact ⟨by omega, fun h => by have := (HER.out.own.lt g h).2; omega⟩
        rintro en w5 ⟨rfl, hB5, v5, hE5⟩
        have B5 : Bel w1 w5 := (hBr.al _).trans hB5
        have HE5 := Lib.hid hE5
        clear hE5 hB5
        go_wp2_with fail
        go_roundw
        case rel => exact ⟨j + 1, v5, hlt, by go_num, B5, by rw [HT.out, encIs_app, ← List.append_assoc]; exact HE5.out⟩
        case measure => simp [intOf]; omega
      · obtain rfl : j = l.length := by omega
        rw [List.take_of_length_le (Nat.le_refl _)] at HER
        have hxl : (X ++ encIs (l.flatMap Row.l)).length ≤ 1000000 := by
          have h1 := encIs_len (l.flatMap Row.l) (fun n hn => by
            obtain ⟨r, hr, hn⟩ := List.mem_flatMap.1 hn
            exact HR.out r hr n hn)
          rw [rows_flat] at h1
          rw [List.length_append]; omega
        rw [← HFIN.out] at HER hxl
        have HBY := Lib.hid (enc_Bytes w1.heap.size w1.heap.size v' _ _ HER.out (by omega))
        go_wp2_with fail
        refine HBY.out.mono ?_
        rintro en w6 ⟨bv, rfl, hF, hB6⟩
        have HF6 := Lib.hid hF
        clear hF
        go_wp2_with fail
        go_ret2
        refine ⟨bv, rfl, ?_, (hBw.step hBr).step hB6⟩
        rcases HF6.out with h | ⟨g, cap, h1, h2, h3, h4, h5, h6⟩
        · exact Or.inl h
        · exact Or.inr ⟨g, cap, h1, h2, h3, by have := (hBw.step hBr).size; omega, h5, h6⟩
end Go.Proofs.YtmnmoadkpidggaaDoor
