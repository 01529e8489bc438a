/- Messages out of bytes: msg.Decode: its contract. Condition: the bytes read as a list; few enough for memory. -/
import Derived.Test.YtmnmoadkpidggaaDoorMsgD
namespace Go.Proofs.YtmnmoadkpidggaaDoor
set_option linter.unusedSimpArgs false
set_option linter.unusedVariables false
open Go.RowKit

set_option maxHeartbeats 400000 in
theorem rowP_Clip (a : Option Addr) (n c : Nat) (w : World) (hc : n ≤ c) (hm : c ≤ maxLen) : Calls Tryd.prog 59 #[.slice a n c] w fun e w' => e = .returned (.slice a n n) ∧ w' = w := by
  unfold maxLen at hm
  go_enter Tryd.func59, Tryd.ntmps59
  go_wp2
  go_ret
  exact ⟨rfl, rfl⟩
/-- A row that a call owns is clipped. -/
theorem rowP_Clip_own {B : Nat} {T : TypeId} {k n : Nat} {xs : List Value} (v : Value) (w : World) (h : w.ownsRow B T k v n xs) : Calls Tryd.prog 59 #[v] w fun e w' => (∃ a c, v = .slice a n c ∧ e = .returned (.slice a n n)) ∧ w' = w := by
  rcases h.2 with ⟨rfl, rfl⟩ | ⟨g, cap, cur, rfl, hg, hh, h1, h2, h3, h4⟩
  · exact (rowP_Clip none 0 0 w (by omega) (by unfold maxLen; omega)).mono fun e w' ⟨h1, h2⟩ => ⟨⟨_, _, rfl, h1⟩, h2⟩
  · exact (rowP_Clip _ n cap w h1 h2).mono fun e w' ⟨h1, h2⟩ => ⟨⟨_, _, rfl, h1⟩, h2⟩

theorem row_info : (Tryd.prog.info? 67).map (fun i => (i.zero, i.size, i.bytes)) = some (some (.agg #[.int .i64 0, .int .i64 0, .int .i64 0, .int .i64 0, .int .i64 0]), 5, 40) := by kernel_rfl
/-- The reads of a head, one by one. -/
theorem rd9 (b : List UInt8) (s : St) : rdN b 9 s = ((rd1 b s).1 :: (rd1 b (rd1 b s).2).1 :: ((rdN b 6 (rd1 b (rd1 b s).2).2).1 ++ [(rd1 b (rdN b 6 (rd1 b (rd1 b s).2).2).2).1]), (rd1 b (rdN b 6 (rd1 b (rd1 b s).2).2).2).2) := by
  rw [rdN_succ, rdN_succ, show (7 : Nat) = 6 + 1 from rfl, rdN_snoc]
theorem getD_last {l : List Int} {x : Int} (h : l.length = 6) : (l ++ [x]).getD 6 0 = x := by
  rw [List.getD_eq_getElem?_getD, List.getElem?_append_right (by omega), h]; rfl
theorem decS_eq (b : List UInt8) (k s n : Int) (A : List Int) (s9 : St) (hA : A.length = 6) (h : rdN b 9 ⟨0, .nil⟩ = (k :: s :: (A ++ [n]), s9)) :
    decS b = if s9.err ≠ .nil then (Msg.none, .fault msgW 0 s9.err) else if mayN k s n ≠ 0 then (Msg.none, mayS k s n) else
      if (rdRows b n.toNat s9).2.err ≠ .nil then (Msg.none, .fault msgW 0 (rdRows b n.toNat s9).2.err) else if (rdRows b n.toNat s9).2.at_ < b.length then (Msg.none, .fault msgW (cutK k) (.no 2)) else (⟨k, s, A, (rdRows b n.toNat s9).1⟩, .nil) := by
  unfold decS
  rw [h]
  have e8 : (k :: s :: (A ++ [n])).getD 8 0 = n := getD_last hA
  have e2 : ((k :: s :: (A ++ [n])).drop 2).take 6 = A := by
    show (A ++ [n]).take 6 = A
    rw [List.take_append_of_le_length (by omega), List.take_of_length_le (by omega)]
  simp only [e8, e2]
  rfl

theorem md_one {w w' : World} {b o : Nat} {u : Value} (h : Md (fun q => q = b) w w') : Md (fun q => q = b) w (w'.setCell ⟨b, o, none⟩ u) := Md.st (S := fun q => q = b) h (p := ⟨b, o, none⟩) (Or.inl rfl) u
theorem md_sets9 {w : World} {b : Nat} {u0 u1 u2 u3 u4 u5 u6 u7 u8 : Value} : Md (fun q => q = b) w (((((((((w.setCell ⟨b, 0, none⟩ u0).setCell ⟨b, 1, none⟩ u1).setCell ⟨b, 2, none⟩ u2).setCell ⟨b, 3, none⟩ u3).setCell ⟨b, 4, none⟩ u4).setCell ⟨b, 5, none⟩ u5).setCell ⟨b, 6, none⟩ u6).setCell ⟨b, 7, none⟩ u7).setCell ⟨b, 8, none⟩ u8) := by
  iterate 9 refine md_one ?_
  exact Md.rfl'
theorem Fresh.base {α : Type} {enc : α → List Value} {k B B' : Nat} {w : World} {v : Value} {l : List α} (h : Fresh enc k B w v l) (hB : B' ≤ B) : Fresh enc k B' w v l := by
  rcases h with h | ⟨g, cap, h1, h2, h3, h4, h5⟩
  · exact Or.inl h
  · exact Or.inr ⟨g, cap, h1, h2, h3, Nat.le_trans hB h4, h5⟩

set_option maxRecDepth 100000 in
set_option maxHeartbeats 8000000 in
theorem msg_Decode (v : Value) (bs : List UInt8) (w : World) (h : SlB w v bs) (hn : bs.length ≤ 1000000) :
    Calls Tryd.prog 25 #[v] w fun e w' => ∃ lv ev, e = .returned (.tuple #[msgV (decS bs).1 lv, ev]) ∧ Fresh encRow 5 w.heap.size w' lv (decS bs).1.l ∧ ErAt w' ev (decS bs).2 ∧ Bel w w' := by
  obtain ⟨i0, hi, hz0, hz1, hz2⟩ := info_parts row_info
  have HOf := Lib.hid (fun W (hW : Bel w W) => codec_Of v bs W (h.bel encB_len hW) (by omega))
  have H9 := rd9 bs ⟨0, .nil⟩
  have hk64 := rd1_I64 bs ⟨0, .nil⟩
  generalize hr1 : rd1 bs ⟨0, .nil⟩ = r1 at H9 hk64
  obtain ⟨k, s1⟩ := r1
  dsimp only at H9 hk64
  generalize hr2 : rd1 bs s1 = r2 at H9
  obtain ⟨sq, s2⟩ := r2
  dsimp only at H9
  have hA6 := rdN_len bs 6 s2
  generalize hr8 : rdN bs 6 s2 = r8 at H9 hA6
  obtain ⟨A, s8⟩ := r8
  dsimp only at H9 hA6
  generalize hr9 : rd1 bs s8 = r9 at H9
  obtain ⟨n, s9⟩ := r9
  dsimp only at H9
  have HE := Lib.hid (decS_eq bs k sq n A s9 hA6 H9)
  have HR1 := Lib.hid hr1
  have HR2 := Lib.hid hr2
  have HR8 := Lib.hid hr8
  have HR9 := Lib.hid hr9
  have hn9 : bs.length ≤ 1000000000 := by omega
  generalize decS bs = D at HE ⊢
  clear h H9 hr1 hr2 hr8 hr9
  go_enter Tryd.func25, Tryd.ntmps25
  go_wp2_with fail
  refine (HOf.out _ (Bel.rfl'.al _)).mono ?_
  rintro e w1 ⟨d, rfl, hd1, hd2, hD1, hB1⟩
  simp at hd1
  have HZ1 : MAt w1 w.heap.size 0 0 [0, 0, 0, 0, 0, 0] (.slice none 0 0) := MAt.new.bel hB1
  have hBw1 : Bel w w1 := (Bel.rfl'.al _).step hB1
  have hX1 : ∀ q, q < w.heap.size + 1 → q < w1.heap.size := fun q hq => by omega
  have HD1 : Hid (DecAt w1 d (fun q => q < w.heap.size + 1) bs ⟨0, .nil⟩) := Lib.hid (by simpa using hD1)
  have HZ1 := Lib.hid HZ1
  clear hD1
  go_wp2_with fail
  refine (dec_Int d _ bs _ _ HD1.out hn9 hX1).mono ?_
  rw [HR1.out]
  rintro e w2 ⟨rfl, hD2, hM2⟩
  have HD2 := Lib.hid hD2
  have HZ2 := Lib.hid (HZ1.out.md hM2 (by omega))
  have hBw2 : Bel w w2 := Md.bel hBw1 hM2 (fun q hq => by omega)
  have hs2 := hM2.size
  clear hD2 hM2
  go_wp2_with fail
  refine (dec_Int d _ bs _ _ HD2.out hn9 (fun q hq => by omega)).mono ?_
  rw [HR2.out]
  rintro e w3 ⟨rfl, hD3, hM3⟩
  have HZ3 := Lib.hid (HZ2.out.md hM3 (by omega))
  have hBw3 : Bel w w3 := Md.bel hBw2 hM3 (fun q hq => by omega)
  have hs3 := hM3.size
  have HD3 : Hid (DecAt w3 d (fun q => q < w.heap.size + 1 ∨ q = w3.heap.size) bs s2) := hD3.more (fun q hq => by omega)
  clear hD3 hM3
  have hdM : d < w3.heap.size := by omega
  go_wp2_with fail
  go_loopw [23] (fun iv wr => ∃ i : Nat, i ≤ 6 ∧ iv = .int .i64 i ∧ Bel w wr ∧ w3.heap.size < wr.heap.size ∧ Hid (MAt wr w3.heap.size 0 sq (padTo 6 (rdN bs i s2).1) (.slice none 0 0)) ∧ Hid (MAt wr w.heap.size 0 0 [0, 0, 0, 0, 0, 0] (.slice none 0 0)) ∧ Hid (DecAt wr d (fun q => q < w.heap.size + 1 ∨ q = w3.heap.size) bs (rdN bs i s2).2)) (fun iv _ => 6 - (intOf iv).toNat)
  case atStart => exact ⟨0, by omega, rfl, hBw3.al _, by simp, MAt.new, HZ3.out.bel (Bel.rfl'.al _), HD3.out.bel (Bel.rfl'.al _)⟩
  case round =>
    obtain ⟨i, hi6, rfl, hBr, hMr, HM, HZ, HD⟩ := hrel
    by_cases hlt : i < 6
    · have RS := Lib.hid (rdN_snoc bs i s2)
      have hli := rdN_len bs i s2
      generalize rdN bs i s2 = q at HM HD RS hli
      obtain ⟨l, si⟩ := q
      dsimp only at HM HD RS hli
      generalize hrd : rd1 bs si = q at RS
      obtain ⟨x, si'⟩ := q
      have HRD := Lib.hid hrd
      have PS := Lib.hid (padTo_set (n := 6) (l := l) (x := x) (by omega))
      have HLI := Lib.hid hli
      clear hrd hli
      go_wp2_with fail
      refine (dec_Int d _ bs si _ HD.out hn9 (fun q hq => by omega)).mono ?_
      rw [HRD.out]
      rintro e w5 ⟨rfl, hD5, hM5⟩
      have hs5 := hM5.size
      have MA := HM.out.md hM5 (by show ¬ w3.heap.size = d; omega)
      have ZA := Lib.hid (HZ.out.md hM5 (by show ¬ w.heap.size = d; omega))
      have hB5 : Bel w w5 := Md.bel hBr hM5 (fun q hq => by omega)
      have hpl : i < (padTo 6 l).length := by rw [MA.len]; exact hlt
      have c5 := num_cell MA.arr hpl
      have f5 := MA.free (2 + i) (by omega)
      have HMA := Lib.hid MA
      have HD5 := Lib.hid hD5
      generalize (padTo 6 l)[i] = y at c5
      have hii : (0 : Int) ≤ (i : Int) := by omega
      have hii2 : (i : Int) < 6 := by omega
      clear MA hD5 hpl
      go_wp2_with fail
      go_roundw
      case rel =>
        have hmd : Md (fun q => q = w3.heap.size) w5 (w5.setCell ⟨w3.heap.size, 2 + i, none⟩ (.int .i64 x)) := Md.st (S := fun q => q = w3.heap.size) Md.rfl' (p := ⟨w3.heap.size, 2 + i, none⟩) (Or.inl rfl) _
        refine ⟨i + 1, hlt, by go_num, Md.bel hB5 hmd (fun q hq => by have := hBw3.size; omega), by rw [set_size]; omega, ?_, ZA.out.md hmd (by show ¬ w.heap.size = w3.heap.size; omega), ?_⟩
        · have h1 := HMA.out.setA hlt x
          have h2 := PS.out
          rw [HLI.out] at h2
          rw [h2] at h1
          rw [RS.out]; exact h1
        · rw [RS.out]
          exact HD5.out.md hmd (fun q hq => Or.inr hq)
      case measure => simp [intOf]; omega
    · obtain rfl : i = 6 := by omega
      rw [HR8.out] at HM HD
      dsimp only at HM HD
      rw [padTo_full hA6] at HM
      go_wp2_with fail
      refine (dec_Int d _ bs s8 _ HD.out hn9 (fun q hq => by omega)).mono ?_
      rw [HR9.out]
      rintro e w6 ⟨rfl, hD6, hM6⟩
      have hs6 := hM6.size
      have HM6 := Lib.hid (HM.out.md hM6 (by show ¬ w3.heap.size = d; omega))
      have HZ6 := Lib.hid (HZ.out.md hM6 (by show ¬ w.heap.size = d; omega))
      have hB6 : Bel w w6 := Md.bel hBr hM6 (fun q hq => by omega)
      have HEr := Lib.hid (dec_Err d _ bs s9 w6 hD6)
      have HD6 := Lib.hid hD6
      clear hD6 hM6 HM HZ HD hi6 hlt
      go_wp2_with fail
      refine HEr.out.mono ?_
      rintro e w7 ⟨⟨ev, rfl, hev, hep⟩, rfl⟩
      have hq := fun W => ErAt.neqNil (W := W) hev
      have hg := fun W op x => ErAt.guard (W := W) hev op x
      by_cases he9 : s9.err = .nil
      · have HMY := Lib.hid (msg_may k sq n w7 hk64)
        obtain ⟨a9, er9⟩ := s9
        dsimp only at he9
        subst he9
        obtain rfl : ev = .nilIface := hev
        have HE2 : Hid (D = if mayN k sq n ≠ 0 then (Msg.none, mayS k sq n) else
            if (rdRows bs n.toNat ⟨a9, .nil⟩).2.err ≠ .nil then (Msg.none, .fault msgW 0 (rdRows bs n.toNat ⟨a9, .nil⟩).2.err) else if (rdRows bs n.toNat ⟨a9, .nil⟩).2.at_ < bs.length then (Msg.none, .fault msgW (cutK k) (.no 2)) else (⟨k, sq, A, (rdRows bs n.toNat ⟨a9, .nil⟩).1⟩, .nil)) := by
          unfold Hid; rw [HE.out, if_neg (by simp)]
        clear hep hq hg HE HEr
        go_wp2_with fail
        refine HMY.out.mono ?_
        rintro e w8 ⟨mv, rfl, hmv, hb8⟩
        have hs8 := hb8.size
        have hBw8 : Bel w w8 := hB6.step hb8
        by_cases hmay : mayN k sq n = 0
        · obtain rfl : mv = .nilIface := by
            have : ErAt w8 mv .nil := by
              have h := hmv
              unfold mayS at h; rw [if_pos hmay] at h; exact h
            exact this
          have hn0 : 0 ≤ n ∧ n ≤ 64 := by
            have hb := rows_bd k
            rcases may_cases k sq n with ⟨h, _⟩ | ⟨h, _⟩ | ⟨h, _⟩ | ⟨_, _, _, _, _, h5, h6⟩
            · omega
            · omega
            · omega
            · omega
          have HE3 := Lib.hid (show D = if (rdRows bs n.toNat ⟨a9, .nil⟩).2.err ≠ .nil then (Msg.none, .fault msgW 0 (rdRows bs n.toNat ⟨a9, .nil⟩).2.err) else if (rdRows bs n.toNat ⟨a9, .nil⟩).2.at_ < bs.length then (Msg.none, .fault msgW (cutK k) (.no 2)) else (⟨k, sq, A, (rdRows bs n.toNat ⟨a9, .nil⟩).1⟩, .nil) by rw [HE2.out, if_neg (by simpa using hmay)])
          obtain ⟨N, rfl⟩ := Int.eq_ofNat_of_zero_le hn0.1
          simp only [Int.toNat_natCast] at HE3
          obtain ⟨hn1, hn2⟩ := hn0
          have hN : N ≤ 64 := by omega
          have HM8 := Lib.hid ((HM6.out.bel hb8).setK k)
          have m0 := (HM6.out.bel hb8).c0
          have mf0 := (HM6.out.bel hb8).free 0 (by omega)
          have hmd8 : Md (fun q => q = w3.heap.size) w8 (w8.setCell ⟨w3.heap.size, 0, none⟩ (.int .i64 k)) := Md.st (S := fun q => q = w3.heap.size) Md.rfl' (p := ⟨w3.heap.size, 0, none⟩) (Or.inl rfl) _
          have hBw3s := hBw3.size
          have HZ8 := Lib.hid ((HZ6.out.bel hb8).md hmd8 (by show ¬ w.heap.size = w3.heap.size; omega))
          have HD8 : Hid (DecAt (w8.setCell ⟨w3.heap.size, 0, none⟩ (.int .i64 k)) d (fun q => q < w.heap.size + 1 ∨ q = w3.heap.size ∨ (Value.slice none 0 0).ownBlock = some q) bs ⟨a9, .nil⟩) :=
            ((HD6.out.bel hb8).md hmd8 (fun q hq => Or.inr hq)).more (fun q hq => by
              rcases hq with h | h | h
              · exact Or.inl (Or.inl h)
              · exact Or.inl (Or.inr h)
              · cases h)
          have hBw9 : Bel w (w8.setCell ⟨w3.heap.size, 0, none⟩ (.int .i64 k)) := Md.bel hBw8 hmd8 (fun q hq => by omega)
          have hMs8 : w3.heap.size < w8.heap.size := by omega
          have hdR : w.heap.size < d := by omega
          clear hmv hmay HE2 HMY HM6 HZ6 HD6
          go_wp2_with fail
          obtain ⟨w9, hw9⟩ : ∃ w9, w9 = w8.setCell ⟨w3.heap.size, 0, none⟩ (.int .i64 k) := ⟨_, rfl⟩
          rw [← hw9] at HM8 HZ8 HD8 hBw9 ⊢
          have hs9 : w9.heap.size = w8.heap.size := by rw [hw9, set_size]
          clear hw9 hmd8 m0 mf0
          go_loopw [52] (fun jv wr => ∃ j : Nat, ∃ lv, j ≤ N ∧ jv = .int .i64 j ∧ Bel w wr ∧ w8.heap.size ≤ wr.heap.size ∧ Hid (MAt wr w3.heap.size k sq A lv) ∧ Hid (wr.ownsRow w8.heap.size 67 5 lv j ((rdRows bs j ⟨a9, .nil⟩).1.flatMap encRow)) ∧ Hid (MAt wr w.heap.size 0 0 [0, 0, 0, 0, 0, 0] (.slice none 0 0)) ∧ Hid (DecAt wr d (fun q => q < w.heap.size + 1 ∨ q = w3.heap.size ∨ lv.ownBlock = some q) bs (rdRows bs j ⟨a9, .nil⟩).2)) (fun jv _ => N - (intOf jv).toNat)
          case atStart => exact ⟨0, _, by omega, rfl, hBw9, by omega, HM8.out, World.ownsRow_nil _ _ _ _, HZ8.out, HD8.out⟩
          case round =>
            obtain ⟨j, lv, hj, rfl, hBr, hMr, HM, HO, HZ, HD⟩ := hrel
            by_cases hlt : j < N
            · have RS := Lib.hid (rdRows_snoc bs j ⟨a9, .nil⟩)
              have hrl := rdRows_len bs j ⟨a9, .nil⟩
              generalize rdRows bs j ⟨a9, .nil⟩ = qq at HO HD RS hrl
              obtain ⟨rows, sj⟩ := qq
              dsimp only at HO HD RS hrl
              have HRL := Lib.hid hrl
              obtain ⟨wo, rfl⟩ : ∃ wo : World, wo = wr := ⟨_, rfl⟩
              have HM0 := Lib.hid (HM.out.bel (Bel.rfl'.al (.cells #[.int .i64 0, .int .i64 0, .int .i64 0, .int .i64 0, .int .i64 0] 67)))
              have HZ0 := Lib.hid (HZ.out.bel (Bel.rfl'.al (.cells #[.int .i64 0, .int .i64 0, .int .i64 0, .int .i64 0, .int .i64 0] 67)))
              have HO0 := Lib.hid (Bel.own (Bel.rfl'.al (.cells #[.int .i64 0, .int .i64 0, .int .i64 0, .int .i64 0, .int .i64 0] 67)) HO.out)
              have HD0 : Hid (DecAt (wo.alloc (.cells #[.int .i64 0, .int .i64 0, .int .i64 0, .int .i64 0, .int .i64 0] 67)) d (fun q => q < w.heap.size + 1 ∨ q = w3.heap.size ∨ lv.ownBlock = some q ∨ q = wo.heap.size) bs sj) :=
                (HD.out.more (Y := fun q => q < w.heap.size + 1 ∨ q = w3.heap.size ∨ lv.ownBlock = some q ∨ q = wo.heap.size) (fun q hq => by
                  rcases hq with h | h | h | h
                  · exact Or.inl (Or.inl h)
                  · exact Or.inl (Or.inr (Or.inl h))
                  · exact Or.inl (Or.inr (Or.inr h))
                  · exact Or.inr (Nat.le_of_eq h.symm))).bel (Bel.rfl'.al _)
              have hownB : Hid (∀ q, lv.ownBlock = some q → w8.heap.size ≤ q ∧ q < wo.heap.size) := fun q hq => HO.out.lt q hq
              have hlvs : ∃ la lc, lv = .slice la j lc := by
                have h1 := HO.out
                rw [← hrl] at h1
                obtain ⟨a, c, h2⟩ := slot_shape (own_sl encRow_len rfl h1)
                exact ⟨a, c, by rw [h2, hrl]⟩
              clear hrl HM HO HZ HD
              go_wp2_with fail
              go_loopw [54] (fun iv wi => ∃ i : Nat, i ≤ 5 ∧ iv = .int .i64 i ∧ Bel w wi ∧ wo.heap.size < wi.heap.size ∧ Hid (MAt wi w3.heap.size k sq A lv) ∧ Hid (wi.ownsRow w8.heap.size 67 5 lv j (rows.flatMap encRow)) ∧ Hid (MAt wi w.heap.size 0 0 [0, 0, 0, 0, 0, 0] (.slice none 0 0)) ∧ Hid (NumsAt wi wo.heap.size (padTo 5 (rdN bs i sj).1)) ∧ Hid (DecAt wi d (fun q => q < w.heap.size + 1 ∨ q = w3.heap.size ∨ lv.ownBlock = some q ∨ q = wo.heap.size) bs (rdN bs i sj).2)) (fun iv _ => 5 - (intOf iv).toNat)
              case atStart => exact ⟨0, by omega, rfl, hBr.al _, by simp, HM0.out, HO0.out, HZ0.out, NumsAt.new5, HD0.out⟩
              case round =>
                obtain ⟨i, hi5, rfl, hBi, hMi, HMi, HOi, HZi, HNi, HDi⟩ := hrel
                by_cases hlti : i < 5
                · have RSi := Lib.hid (rdN_snoc bs i sj)
                  have hli := rdN_len bs i sj
                  generalize rdN bs i sj = q at HNi HDi RSi hli
                  obtain ⟨l5, si⟩ := q
                  dsimp only at HNi HDi RSi hli
                  generalize hrd : rd1 bs si = q at RSi
                  obtain ⟨x, si'⟩ := q
                  have HRD := Lib.hid hrd
                  have PS := Lib.hid (padTo_set (n := 5) (l := l5) (x := x) (by omega))
                  have HLI := Lib.hid hli
                  have hpl : i < (padTo 5 l5).length := by rw [padTo, List.length_append, List.length_replicate]; omega
                  clear hrd hli
                  go_wp2_with fail
                  refine (dec_Int d _ bs si _ HDi.out hn9 (fun q hq => by
                    rcases hq with h | h | h | h
                    · omega
                    · omega
                    · have := hownB.out q h; omega
                    · omega)).mono ?_
                  rw [HRD.out]
                  rintro e w5 ⟨rfl, hD5, hM5⟩
                  have hs5 := hM5.size
                  have NA := HNi.out.md hM5 (by show ¬ wo.heap.size = d; omega)
                  have c5 := NA.arr i hpl
                  have f5 := NA.free i hpl
                  have HNA := Lib.hid (NA.set hpl x)
                  have HD5 := Lib.hid hD5
                  have HM5' := Lib.hid (HMi.out.md hM5 (by show ¬ w3.heap.size = d; omega))
                  have HZ5 := Lib.hid (HZi.out.md hM5 (by show ¬ w.heap.size = d; omega))
                  have HO5 := Lib.hid (hM5.own HOi.out (fun q hq => by have := hownB.out q hq; omega))
                  have hB5 : Bel w w5 := Md.bel hBi hM5 (fun q hq => by omega)
                  generalize (padTo 5 l5)[i] = y at c5
                  have hii : (0 : Int) ≤ (i : Int) := by omega
                  have hii2 : (i : Int) < 5 := by omega
                  clear NA hD5 hpl
                  go_wp2_with fail
                  go_roundw
                  case rel =>
                    have hmd : Md (fun q => q = wo.heap.size) w5 (w5.setCell ⟨wo.heap.size, i, none⟩ (.int .i64 x)) := Md.st (S := fun q => q = wo.heap.size) Md.rfl' (p := ⟨wo.heap.size, i, none⟩) (Or.inl rfl) _
                    refine ⟨i + 1, hlti, by go_num, Md.bel hB5 hmd (fun q hq => by have := hBr.size; omega), by rw [set_size]; omega, HM5'.out.md hmd (by show ¬ w3.heap.size = wo.heap.size; omega), hmd.own HO5.out (fun q hq => by have := hownB.out q hq; omega), HZ5.out.md hmd (by show ¬ w.heap.size = wo.heap.size; omega), ?_, ?_⟩
                    · have h2 := PS.out
                      rw [HLI.out] at h2
                      rw [RSi.out, ← h2]; exact HNA.out
                    · rw [RSi.out]
                      exact HD5.out.md hmd (fun q hq => Or.inr (Or.inr (Or.inr hq)))
                  case measure => simp [intOf]; omega
                · obtain rfl : i = 5 := by omega
                  have hl5 := rdN_len bs 5 sj
                  have hro : rdN bs 5 sj = rdN bs 5 sj := rfl
                  generalize rdN bs 5 sj = q at HNi HDi RS hl5
                  obtain ⟨l5, s5⟩ := q
                  dsimp only at HNi HDi RS hl5
                  rw [padTo_full hl5] at HNi
                  match l5, hl5 with
                  | [x0, x1, x2, x3, x4], _ =>
                    obtain ⟨la, lc, rfl⟩ := hlvs
                    obtain ⟨p0, p1, p2, p3, p4⟩ := HNi.out.r5
                    have q8 := HMi.out.c8
                    have qf8 := HMi.out.free 8 (by omega)
                    have HXR : Hid ((rows ++ [Row.of [x0, x1, x2, x3, x4]]).flatMap encRow = rows.flatMap encRow ++ [.int .i64 x0, .int .i64 x1, .int .i64 x2, .int .i64 x3, .int .i64 x4]) := by
                      unfold Hid; rw [List.flatMap_append]; rfl
                    have hszo := hBr.size
                    have hMwi : w3.heap.size < wr.heap.size := by omega
                    clear hro hi5 hlti
                    have hmj : j + 1 ≤ 64 := by omega
                    go_wp2_with (at_builtin; refine wpList_append_lies _ rfl _ _ 45 rfl w8.heap.size 67 i0 _ 5 40 Tryd.underlying45 hi hz0 hz1 hz2 rfl (by omega) (.slice la j lc) j _ rfl (Bel.own (Bel.rfl'.al _) HOi.out) ⟨wr.heap.size, 0, none⟩ 1 1 [.int .i64 x0, .int .i64 x1, .int .i64 x2, .int .i64 x3, .int .i64 x4] rfl rfl (World.news_of_block (cs := #[.int .i64 x0, .int .i64 x1, .int .i64 x2, .int .i64 x3, .int .i64 x4]) (t := 67) (fr := (0, 0)) (heap_alloc_new wr _)) (by simp [Value.oneCell']) (by omega) (by unfold maxLen; omega) (by omega) (by simp; omega) (wr.heap.size + 1) (by simp) ?_; intro g cap w6 hown1 hgrow hat hlt2; have hMg : Md (fun q => (Value.slice la j lc).ownBlock = some q) (wr.alloc (.cells #[.int .i64 x0, .int .i64 x1, .int .i64 x2, .int .i64 x3, .int .i64 x4] 67)) w6 := Md.grown Md.rfl' hgrow (fun k h => Or.inl h); have hM6 := (HMi.out.bel (Bel.rfl'.al _)).md hMg (fun h => by have := hownB.out _ h; omega); have q8' := hM6.c8; have qf8' := hM6.free 8 (by omega); have HM6 := Lib.hid hM6; have HMg := Lib.hid hMg; have HOn := Lib.hid hown1; clear hM6 hMg hown1 hgrow)
                    go_roundw
                    case rel =>
                      obtain ⟨w7, hw7⟩ : ∃ w7, w7 = w6.setCell ⟨w3.heap.size, 8, none⟩ (.slice (some ⟨g, 0, none⟩) (j + 1) cap) := ⟨_, rfl⟩
                      rw [← hw7]
                      have hmd7 : Md (fun q => q = w3.heap.size) w6 w7 := by rw [hw7]; exact Md.st (S := fun q => q = w3.heap.size) Md.rfl' (p := ⟨w3.heap.size, 8, none⟩) (Or.inl rfl) _
                      have hB1' : Bel w (wr.alloc (.cells #[.int .i64 x0, .int .i64 x1, .int .i64 x2, .int .i64 x3, .int .i64 x4] 67)) := hBi.al _
                      have hB6' : Bel w w6 := Md.bel hB1' HMg.out (fun q hq h => by have := hownB.out _ h; omega)
                      have hgl := HOn.out.lt g rfl
                      have hs6' := HMg.out.size
                      simp at hs6'
                      have hs7 := hmd7.size
                      have hD7 : DecAt w7 d (fun q => q < w.heap.size + 1 ∨ q = w3.heap.size ∨ (Value.slice (some ⟨g, 0, none⟩) (j + 1) cap).ownBlock = some q) bs s5 := by
                        have h1 := HDi.out.bel (Bel.rfl'.al (.cells #[.int .i64 x0, .int .i64 x1, .int .i64 x2, .int .i64 x3, .int .i64 x4] 67))
                        have h2 := h1.more (Y := fun q => q < w.heap.size + 1 ∨ q = w3.heap.size ∨ (Value.slice la j lc).ownBlock = some q ∨ q = g) (fun q hq => by
                          rcases hq with h | h | h | h
                          · exact Or.inl (Or.inl h)
                          · exact Or.inl (Or.inr (Or.inl h))
                          · exact Or.inl (Or.inr (Or.inr (Or.inl h)))
                          · subst h
                            rcases hat with h | h
                            · exact Or.inl (Or.inr (Or.inr (Or.inl h)))
                            · right; simp; omega)
                        have h3 := h2.md HMg.out (fun q h => Or.inr (Or.inr (Or.inl h)))
                        have h4 := h3.md hmd7 (fun q h => Or.inr (Or.inl h))
                        exact h4.more (fun q hq => by
                          rcases hq with h | h | h
                          · exact Or.inl (Or.inl h)
                          · exact Or.inl (Or.inr (Or.inl h))
                          · exact Or.inl (Or.inr (Or.inr (Or.inr (Option.some.inj h).symm))))
                      refine ⟨j + 1, .slice (some ⟨g, 0, none⟩) (j + 1) cap, hlt, by go_num, Md.bel hB6' hmd7 (fun q hq => by omega), by omega, by rw [hw7]; exact HM6.out.setL _, ?_, ?_, ?_⟩
                      · rw [RS.out, HXR.out]
                        exact hmd7.own HOn.out (fun q hq => by have := HOn.out.lt q hq; omega)
                      · exact ((HZi.out.bel (Bel.rfl'.al _)).md HMg.out (fun h => by have := hownB.out _ h; omega)).md hmd7 (by show ¬ w.heap.size = w3.heap.size; omega)
                      · rw [RS.out]; exact hD7
                    case measure => simp [intOf]; omega
            · obtain rfl : j = N := by omega
              generalize hrr : rdRows bs j ⟨a9, .nil⟩ = qq at HO HD HE3
              obtain ⟨rows, sr⟩ := qq
              dsimp only at HO HD HE3
              have hrl : rows.length = j := by rw [← rdRows_len bs j ⟨a9, .nil⟩, hrr]
              have HCL := Lib.hid (rowP_Clip_own lv wr HO.out)
              have q8 := HM.out.c8
              have qf8 := HM.out.free 8 (by omega)
              have HLT := Lib.hid (fun q h => HO.out.lt (k := q) h)
              have HFR := Lib.hid (own_fresh (enc := encRow) (l := rows) encRow_len rfl (by rw [hrl]; exact HO.out))
              clear hrr hj hlt HO
              go_wp2_with fail
              refine HCL.out.mono ?_
              rintro e wc ⟨⟨la, lc, rfl, rfl⟩, rfl⟩
              have HC2 : Hid (MAt (wc.setCell ⟨w3.heap.size, 8, none⟩ (.slice la j j)) w3.heap.size k sq A (.slice la j j)) := HM.out.setL _
              have hmd7 : Md (fun q => q = w3.heap.size) wc (wc.setCell ⟨w3.heap.size, 8, none⟩ (.slice la j j)) := Md.st (S := fun q => q = w3.heap.size) Md.rfl' (p := ⟨w3.heap.size, 8, none⟩) (Or.inl rfl) _
              have HZ7 := Lib.hid (HZ.out.md hmd7 (by show ¬ w.heap.size = w3.heap.size; omega))
              have HD7 := Lib.hid (HD.out.md hmd7 (fun q h => Or.inr (Or.inl h)))
              have HF7 : Hid (Fresh encRow 5 w8.heap.size (wc.setCell ⟨w3.heap.size, 8, none⟩ (.slice la j j)) (.slice la j j) rows) := Fresh.clip hrl (HFR.out.md hmd7 encRow_len (fun q h => by have := (HLT.out q h).1; omega))
              have hB7 : Bel w (wc.setCell ⟨w3.heap.size, 8, none⟩ (.slice la j j)) := Md.bel hBr hmd7 (fun q hq => by omega)
              clear HM HZ HD HFR HCL
              go_wp2_with fail
              obtain ⟨wq, hwq⟩ : ∃ wq, wq = wc.setCell ⟨w3.heap.size, 8, none⟩ (.slice la j j) := ⟨_, rfl⟩
              rw [← hwq] at HC2 HZ7 HD7 HF7 hB7 ⊢
              have hsq : wq.heap.size = wc.heap.size := by rw [hwq, set_size]
              clear hwq hmd7 q8 qf8
              refine (dec_Err d _ bs sr wq HD7.out).mono ?_
              rintro e w10 ⟨⟨ev, rfl, hev, hep⟩, rfl⟩
              have hq := fun W => ErAt.neqNil (W := W) hev
              have hg := fun W op x => ErAt.guard (W := W) hev op x
              by_cases hse : sr.err = .nil
              · obtain ⟨ar, er⟩ := sr
                dsimp only at hse
                subst hse
                obtain rfl : ev = .nilIface := hev
                have HDL := Lib.hid (dec_Left d _ bs ar w10 HD7.out hn9)
                have hle : ar ≤ bs.length := HD7.out.le
                clear hep hq hg
                go_wp2_with fail
                refine HDL.out.mono ?_
                rintro e w11 ⟨rfl, hb11⟩
                have hs11 := hb11.size
                have hB11 : Bel w w11 := hB7.step hb11
                by_cases hmore : ar < bs.length
                · have HD2 : Hid (D = (Msg.none, .fault msgW (cutK k) (.no 2))) := by unfold Hid; rw [HE3.out, if_neg (by simp), if_pos hmore]
                  have HFT := Lib.hid (fun W (hW : Bel w11 W) => msg_fault k (.iface 87 (.int .i64 2)) (.no 2) W rfl)
                  have hgt : (0 : Int) < (bs.length : Int) - ar := by omega
                  clear HE3
                  go_wp2_with fail
                  refine (HFT.out _ Bel.rfl').mono ?_
                  rintro e wf ⟨fv, rfl, hfv, hbf⟩
                  have HFV := Lib.hid hfv
                  have hswf := hbf.size
                  have HY := (HZ7.out.bel hb11).bel hbf
                  obtain ⟨y2, y3, y4, y5, y6, y7⟩ := HY.a
                  have y0 := HY.c0
                  have y1 := HY.c1
                  have y8 := HY.c8
                  have g0 := HY.free 0 (by omega)
                  have g1 := HY.free 1 (by omega)
                  have g2 := HY.free 2 (by omega)
                  have g3 := HY.free 3 (by omega)
                  have g4 := HY.free 4 (by omega)
                  have g5 := HY.free 5 (by omega)
                  have g6 := HY.free 6 (by omega)
                  have g7 := HY.free 7 (by omega)
                  have g8 := HY.free 8 (by omega)
                  clear hfv HY
                  go_wp2_with fail
                  refine bodyPost_ret (v := .tuple #[.agg #[.int .i64 0, .int .i64 0, .int .i64 0, .int .i64 0, .int .i64 0, .int .i64 0, .int .i64 0, .int .i64 0, .slice none 0 0], fv]) (by simp [results, Tryd.results25, go_sem, y0, y1, y2, y3, y4, y5, y6, y7, y8]) rfl ?_
                  rw [set_id y0, set_id y1, set_id y2, set_id y3, set_id y4, set_id y5, set_id y6, set_id y7, set_id y8]
                  rw [HD2.out]
                  exact ⟨.slice none 0 0, fv, rfl, Or.inl ⟨rfl, rfl⟩, HFV.out, (hB11.step hbf)⟩
                · have HD2 : Hid (D = (⟨k, sq, A, rows⟩, .nil)) := by unfold Hid; rw [HE3.out, if_neg (by simp), if_neg hmore]
                  have hgt : ¬ (0 : Int) < (bs.length : Int) - ar := by omega
                  have HF8 := Lib.hid (HF7.out.md (Md.of (S := fun _ => False) hb11) encRow_len (fun _ _ h => h))
                  clear HE3
                  match A, hA6 with
                  | [a0, a1, a2, a3, a4, a5], _ =>
                    have HX := HC2.out.bel hb11
                    obtain ⟨x2, x3, x4, x5, x6, x7⟩ := HX.a
                    have x0 := HX.c0
                    have x1 := HX.c1
                    have x8 := HX.c8
                    have HY := HZ7.out.bel hb11
                    obtain ⟨y2, y3, y4, y5, y6, y7⟩ := HY.a
                    have y0 := HY.c0
                    have y1 := HY.c1
                    have y8 := HY.c8
                    have g0 := HY.free 0 (by omega)
                    have g1 := HY.free 1 (by omega)
                    have g2 := HY.free 2 (by omega)
                    have g3 := HY.free 3 (by omega)
                    have g4 := HY.free 4 (by omega)
                    have g5 := HY.free 5 (by omega)
                    have g6 := HY.free 6 (by omega)
                    have g7 := HY.free 7 (by omega)
                    have g8 := HY.free 8 (by omega)
                    have hswf : w.heap.size < w11.heap.size := by omega
                    have hlarge : w.heap.size < w8.heap.size := by omega
                    have HLX := Lib.hid (fun q (h : (Value.slice la j j).ownBlock = some q) => (HLT.out q (by cases la with | none => cases h | some x => exact h)).1)
                    clear HX HY
                    go_wp2_with fail
                    refine bodyPost_ret (v := .tuple #[.agg #[.int .i64 k, .int .i64 sq, .int .i64 a0, .int .i64 a1, .int .i64 a2, .int .i64 a3, .int .i64 a4, .int .i64 a5, .slice la j j], .nilIface]) (by simp [results, Tryd.results25, go_sem, x0, x1, x2, x3, x4, x5, x6, x7, x8, y0, y1, y2, y3, y4, y5, y6, y7, y8]) rfl ?_
                    rw [HD2.out]
                    refine ⟨.slice la j j, .nilIface, rfl, ?_, rfl, ?_⟩
                    · exact (HF8.out.md md_sets9 encRow_len (fun q h => by have := HLX.out q h; omega)).base (by omega)
                    · exact Md.bel hB11 md_sets9 (fun q hq => by omega)
              · have hnb : isNilB sr.err = false := by
                  cases hq : sr.err with
                  | nil => exact absurd hq hse
                  | no n => rfl
                  | fault a b c => rfl
                rw [hnb] at hq
                simp only [Bool.not_false] at hq
                have HD2 : Hid (D = (Msg.none, .fault msgW 0 sr.err)) := by unfold Hid; rw [HE3.out, if_pos hse]
                have HFT := Lib.hid (fun W (hW : Bel w10 W) => msg_fault 0 ev sr.err W (hev.bel hW))
                have hsw : w.heap.size < w10.heap.size := by omega
                clear hev hep hnb HE3 hse
                go_wp2_with fail
                refine (HFT.out _ Bel.rfl').mono ?_
                rintro e wf ⟨fv, rfl, hfv, hbf⟩
                have HFV := Lib.hid hfv
                have hswf := hbf.size
                have HY := HZ7.out.bel hbf
                obtain ⟨y2, y3, y4, y5, y6, y7⟩ := HY.a
                have y0 := HY.c0
                have y1 := HY.c1
                have y8 := HY.c8
                have g0 := HY.free 0 (by omega)
                have g1 := HY.free 1 (by omega)
                have g2 := HY.free 2 (by omega)
                have g3 := HY.free 3 (by omega)
                have g4 := HY.free 4 (by omega)
                have g5 := HY.free 5 (by omega)
                have g6 := HY.free 6 (by omega)
                have g7 := HY.free 7 (by omega)
                have g8 := HY.free 8 (by omega)
                clear hfv HY
                go_wp2_with fail
                refine bodyPost_ret (v := .tuple #[.agg #[.int .i64 0, .int .i64 0, .int .i64 0, .int .i64 0, .int .i64 0, .int .i64 0, .int .i64 0, .int .i64 0, .slice none 0 0], fv]) (by simp [results, Tryd.results25, go_sem, y0, y1, y2, y3, y4, y5, y6, y7, y8]) rfl ?_
                rw [set_id y0, set_id y1, set_id y2, set_id y3, set_id y4, set_id y5, set_id y6, set_id y7, set_id y8]
                rw [HD2.out]
                exact ⟨.slice none 0 0, fv, rfl, Or.inl ⟨rfl, rfl⟩, HFV.out, (hB7.step hbf)⟩
        · have HM3 := Lib.hid hmv
          have HD2 : Hid (D = (Msg.none, mayS k sq n)) := by unfold Hid; rw [HE2.out, if_pos hmay]
          have hnb : isNilB (mayS k sq n) = false := by unfold mayS; rw [if_neg hmay]; rfl
          have hq := fun W => ErAt.neqNil (W := W) hmv
          have hg := fun W op x => ErAt.guard (W := W) hmv op x
          rw [hnb] at hq
          simp only [Bool.not_false] at hq
          obtain ⟨fv, rfl⟩ : ∃ fv, fv = mv := ⟨_, rfl⟩
          have hsw8 : w.heap.size < w8.heap.size := by omega
          have HY := HZ6.out.bel hb8
          obtain ⟨y2, y3, y4, y5, y6, y7⟩ := HY.a
          have y0 := HY.c0
          have y1 := HY.c1
          have y8 := HY.c8
          have g0 := HY.free 0 (by omega)
          have g1 := HY.free 1 (by omega)
          have g2 := HY.free 2 (by omega)
          have g3 := HY.free 3 (by omega)
          have g4 := HY.free 4 (by omega)
          have g5 := HY.free 5 (by omega)
          have g6 := HY.free 6 (by omega)
          have g7 := HY.free 7 (by omega)
          have g8 := HY.free 8 (by omega)
          clear hmv hmay HY hnb HE2
          go_wp2_with fail
          refine bodyPost_ret (v := .tuple #[.agg #[.int .i64 0, .int .i64 0, .int .i64 0, .int .i64 0, .int .i64 0, .int .i64 0, .int .i64 0, .int .i64 0, .slice none 0 0], fv]) (by simp [results, Tryd.results25, go_sem, y0, y1, y2, y3, y4, y5, y6, y7, y8]) rfl ?_
          rw [set_id y0, set_id y1, set_id y2, set_id y3, set_id y4, set_id y5, set_id y6, set_id y7, set_id y8]
          rw [HD2.out]
          exact ⟨.slice none 0 0, fv, rfl, Or.inl ⟨rfl, rfl⟩, HM3.out, hBw8⟩
      · have hnb : isNilB s9.err = false := by
          cases hq : s9.err with
          | nil => exact absurd hq he9
          | no n => rfl
          | fault a b c => rfl
        rw [hnb] at hq
        simp only [Bool.not_false] at hq
        have HD2 : Hid (D = (Msg.none, .fault msgW 0 s9.err)) := by unfold Hid; rw [HE.out, if_pos he9]
        have HFT := Lib.hid (fun W (hW : Bel w7 W) => msg_fault 0 ev s9.err W (hev.bel hW))
        have hsw : w.heap.size < w7.heap.size := by omega
        clear hev hep hnb HE he9
        go_wp2_with fail
        refine (HFT.out _ Bel.rfl').mono ?_
        rintro e w8 ⟨fv, rfl, hfv, hb8⟩
        have HFV := Lib.hid hfv
        have HY := HZ6.out.bel hb8
        have hsw8 := hb8.size
        obtain ⟨y2, y3, y4, y5, y6, y7⟩ := HY.a
        have y0 := HY.c0
        have y1 := HY.c1
        have y8 := HY.c8
        have g0 := HY.free 0 (by omega)
        have g1 := HY.free 1 (by omega)
        have g2 := HY.free 2 (by omega)
        have g3 := HY.free 3 (by omega)
        have g4 := HY.free 4 (by omega)
        have g5 := HY.free 5 (by omega)
        have g6 := HY.free 6 (by omega)
        have g7 := HY.free 7 (by omega)
        have g8 := HY.free 8 (by omega)
        clear hfv HY
        go_wp2_with fail
        refine bodyPost_ret (v := .tuple #[.agg #[.int .i64 0, .int .i64 0, .int .i64 0, .int .i64 0, .int .i64 0, .int .i64 0, .int .i64 0, .int .i64 0, .slice none 0 0], fv]) (by simp [results, Tryd.results25, go_sem, y0, y1, y2, y3, y4, y5, y6, y7, y8]) rfl ?_
        rw [set_id y0, set_id y1, set_id y2, set_id y3, set_id y4, set_id y5, set_id y6, set_id y7, set_id y8]
        rw [HD2.out]
        exact ⟨.slice none 0 0, fv, rfl, Or.inl ⟨rfl, rfl⟩, HFV.out, (hB6.step hb8)⟩
end Go.Proofs.YtmnmoadkpidggaaDoor
