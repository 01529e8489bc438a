/- The law MsgRows walked: it returns true. Condition: bytes; the error's handle is laid. -/
import Derived.Test.YtmnmoadkpidggaaDoorKnown4
import Derived.Test.YtmnmoadkpidggaaDoorTellG
namespace Go.Proofs.YtmnmoadkpidggaaDoor
set_option linter.unusedSimpArgs false
set_option linter.unusedVariables false
open Go.RowKit

def rowsOf (n : Nat) : List Row := (List.range n).map fun (j : Nat) => ⟨(j : Int), 0, 0, 0, 0⟩
theorem rowsOf_len (n : Nat) : (rowsOf n).length = n := by simp [rowsOf]
theorem rowsOf_succ (n : Nat) : (rowsOf (n + 1)).flatMap encRow = (rowsOf n).flatMap encRow ++ [.int .i64 n, .int .i64 0, .int .i64 0, .int .i64 0, .int .i64 0] := by
  unfold rowsOf
  rw [List.range_succ, List.map_append, List.flatMap_append]; rfl
theorem rowsOf_ok (k n : Nat) (hk : k < 80) (hn : n < 70) : Msg.ok ⟨k, 1, [0, 0, 0, 0, 0, 0], rowsOf n⟩ := by
  refine ⟨by show I64 k; unfold I64; omega, by show I64 1; decide, rfl, by show ∀ n ∈ ([0, 0, 0, 0, 0, 0] : List Int), I64 n; unfold I64; decide, ?_⟩
  intro r hr x hx
  simp only [rowsOf, List.mem_map, List.mem_range] at hr
  obtain ⟨j, hj, rfl⟩ := hr
  simp only [Row.l, List.mem_cons, List.not_mem_nil, or_false] at hx
  unfold I64
  rcases hx with rfl | rfl | rfl | rfl | rfl <;> omega

set_option maxRecDepth 100000 in
set_option maxHeartbeats 4000000 in
theorem rows_walk (a b : Int) (w : World) (ha : 0 ≤ a ∧ a ≤ 255) (hb : 0 ≤ b ∧ b ≤ 255) (hH : Handle w) :
    Calls Tryd.prog 6 #[.int .u8 a, .int .u8 b] w fun e w' => e = .returned (.bool true) ∧ Bel w w' := by
  obtain ⟨A, rfl⟩ := Int.eq_ofNat_of_zero_le ha.1
  obtain ⟨B, rfl⟩ := Int.eq_ofNat_of_zero_le hb.1
  obtain ⟨i0, hi, hz0, hz1, hz2⟩ := info_parts row_info
  have hA : A ≤ 255 := by omega
  have hB : B ≤ 255 := by omega
  have em1 : Int.tmod (A : Int) 80 = ((A % 80 : Nat) : Int) := Int.ofNat_tmod A 80
  have em2 : Int.tmod (B : Int) 70 = ((B % 70 : Nat) : Int) := Int.ofNat_tmod B 70
  have hk : A % 80 < 80 := Nat.mod_lt _ (by omega)
  have hN : B % 70 < 70 := Nat.mod_lt _ (by omega)
  generalize A % 80 = k at em1 hk
  generalize B % 70 = N at em2 hN
  have hk0 : (0 : Int) ≤ (k : Int) := by omega
  have hk1 : (k : Int) < 80 := by omega
  have hN0 : (0 : Int) ≤ (N : Int) := by omega
  have hN1 : (N : Int) < 70 := by omega
  have K := Lib.hid (known4 w)
  have HOK := Lib.hid (rowsOf_ok k N hk hN)
  clear ha hb hA hB
  go_enter Tryd.func6, Tryd.ntmps6
  go_wp2_with fail
  refine K.out.mono ?_
  rintro e w1 ⟨rfl, hB1⟩
  go_wp2_with fail
  go_loopw [7] (fun iv wr => ∃ i : Nat, ∃ lv, i ≤ N ∧ iv = .int .i64 i ∧ Bel w wr ∧ w1.heap.size < wr.heap.size ∧ Hid (MAt wr w1.heap.size k 1 [0, 0, 0, 0, 0, 0] lv) ∧ Hid (wr.ownsRow (w1.heap.size + 1) 67 5 lv i ((rowsOf i).flatMap encRow))) (fun iv _ => N - (intOf iv).toNat)
  case atStart => exact ⟨0, _, by omega, rfl, hB1.al _, by simp, MAt.new, World.ownsRow_nil _ _ _ _⟩
  case round =>
    obtain ⟨i, lv, hi', rfl, hBr, hsr, HM, HO⟩ := hrel
    have hown : Hid (∀ q, lv.ownBlock = some q → w1.heap.size + 1 ≤ q ∧ q < wr.heap.size) := fun q hq => HO.out.lt q hq
    have hsl : SlRow wr lv (rowsOf i) := own_sl encRow_len rfl (by rw [rowsOf_len]; exact HO.out)
    obtain ⟨la, lc, hls⟩ := slot_shape hsl
    rw [rowsOf_len] at hls
    subst hls
    have HSL := Lib.hid hsl
    clear hsl
    have q8 := HM.out.c8
    have qf8 := HM.out.free 8 (by omega)
    by_cases hlt : i < N
    · have HXR := Lib.hid (rowsOf_succ i)
      clear HSL
      generalize (rowsOf i).flatMap encRow = xs at HO HXR
      have hii : (0 : Int) ≤ (i : Int) := by omega
      have hii2 : (i : Int) < 70 := by omega
      go_wp2_with (at_builtin; refine wpList_append_lies _ rfl _ _ 45 rfl (w1.heap.size + 1) 67 i0 _ 5 40 Tryd.underlying45 hi hz0 hz1 hz2 rfl (by omega) (.slice la i lc) i xs rfl (Bel.own (Bel.rfl'.al _) HO.out) ⟨wr.heap.size, 0, none⟩ 1 1 [.int .i64 i, .int .i64 0, .int .i64 0, .int .i64 0, .int .i64 0] rfl rfl (World.news_of_block (cs := #[.int .i64 i, .int .i64 0, .int .i64 0, .int .i64 0, .int .i64 0]) (t := 67) (fr := (0, 0)) (heap_alloc_new wr _)) (by simp [Value.oneCell']) (by omega) (by unfold maxLen; omega) (by omega) (by simp; omega) (wr.heap.size + 1) (by simp) ?_; intro g cap w6 hown1 hgrow hat hlt2; have hMg : Md (fun q => (Value.slice la i lc).ownBlock = some q) (wr.alloc (.cells #[.int .i64 i, .int .i64 0, .int .i64 0, .int .i64 0, .int .i64 0] 67)) w6 := Md.grown Md.rfl' hgrow (fun k h => Or.inl h); have hM6 := (HM.out.bel (Bel.rfl'.al _)).md hMg (fun h => by have := hown.out _ h; omega); have q8' := hM6.c8; have qf8' := hM6.free 8 (by omega); have HM6 := Lib.hid hM6; have HMg := Lib.hid hMg; have HOn := Lib.hid hown1; clear hM6 hMg hown1 hgrow)
      go_roundw
      case rel =>
        obtain ⟨w7, hw7⟩ : ∃ w7, w7 = w6.setCell ⟨w1.heap.size, 8, none⟩ (.slice (some ⟨g, 0, none⟩) (i + 1) cap) := ⟨_, rfl⟩
        rw [← hw7]
        have hmd7 : Md (fun q => q = w1.heap.size) w6 w7 := by rw [hw7]; exact Md.st (S := fun q => q = w1.heap.size) Md.rfl' (p := ⟨w1.heap.size, 8, none⟩) (Or.inl rfl) _
        have hs1 := hB1.size
        have hB6 : Bel w w6 := Md.bel (hBr.al _) HMg.out (fun q hq h => by have := hown.out _ h; omega)
        have hs6 := HMg.out.size
        simp at hs6
        have hs7 := hmd7.size
        refine ⟨i + 1, .slice (some ⟨g, 0, none⟩) (i + 1) cap, hlt, by go_num, Md.bel hB6 hmd7 (fun q hq => by omega), by omega, by rw [hw7]; exact HM6.out.setL _, ?_⟩
        rw [HXR.out]
        exact hmd7.own HOn.out (fun q hq => by have := HOn.out.lt q hq; omega)
      case measure => simp [intOf]; omega
    · obtain rfl : i = N := by omega
      have HKN := Lib.hid (fun W => ref_Known (k : Int) W)
      have HRW := Lib.hid (fun W => ref_Rows (k : Int) W)
      clear HO hlt hi'
      go_wp2_with fail
      refine (HRW.out _).mono ?_
      rintro e w2 ⟨rfl, rfl⟩
      have HL := Lib.hid (rowsOf_len i)
      generalize hR : rowsOf i = R at HOK HSL HL
      clear hR
      obtain ⟨y2, y3, y4, y5, y6, y7⟩ := HM.out.a
      have y0 := HM.out.c0
      have y1 := HM.out.c1
      have hcut : cutK (k : Int) = k := by unfold cutK; rw [if_neg (by omega), if_neg (by omega)]
      have HEB := fun (hm : mayN k 1 i ≠ 0) => msg_Encode_bad ⟨k, 1, [0, 0, 0, 0, 0, 0], R⟩ (.slice la i lc) w2 HOK.out HSL.out (by show R.length ≤ 1000; rw [HL.out]; omega) (by show mayN k 1 (R.length : Int) ≠ 0; rw [HL.out]; exact hm)
      have HEO := fun (hm : mayN k 1 i = 0) => msg_Encode_ok ⟨k, 1, [0, 0, 0, 0, 0, 0], R⟩ (.slice la i lc) w2 HOK.out HSL.out (by show R.length ≤ 1000; rw [HL.out]; omega) (by show mayN k 1 (R.length : Int) = 0; rw [HL.out]; exact hm)
      simp only [msgV6, HL.out] at HEB HEO
      have hmayS : ∀ m, mayN k 1 i = m → m ≠ 0 → mayS k 1 i = .fault msgW k (.no m) := fun m h1 h2 => by unfold mayS; rw [if_neg (by rw [h1]; exact h2), h1, hcut]
      have HEO := Lib.hid HEO
      have HEB := Lib.hid HEB
      have HAT := Lib.hid (fun m W => ref_At msgW k m W)
      have HTL := Lib.hid (fun m v wv B W (h1 : 1 ≤ m) (h2 : m ≤ 14) (hv : ErAt W v (.fault msgW k (.no m))) (hw : WrAt B W wv (.fault msgW k (.no m))) (hB : Bel w W) => tells_plain (.fault msgW k (.no m)) v wv B W hv hw (Or.inr ⟨msgW, k, m, rfl, by decide, Or.inr ⟨by omega, by omega⟩, h1, h2⟩) (hH.bel hB))
      have HMS := Lib.hid hmayS
      clear hmayS hcut
      have hcs := may_cases k 1 i
      generalize rowsK (k : Int) = rr at hcs ⊢
      obtain ⟨rlo, rhi⟩ := rr
      dsimp only at hcs ⊢
      rcases hcs with ⟨hm, h | ⟨h1, h2, h3⟩⟩ | ⟨hm, h1, h2, h3, h4⟩ | ⟨hm, h1, h2, h3, h4, h5⟩ | ⟨hm, h1, h2, h3, h4, h5, h6⟩
      · omega
      · have HE := Lib.hid (HEB.out (by rw [hm]; decide))
        have HS5 := HMS.out 5 hm (by decide)
        unfold Hid at HE
        rw [HS5] at HE
        rw [h3] at HKN
        have HE := Lib.hid HE
        clear HS5 HEO HEB hm
        go_wp2_with fail
        refine HE.out.mono ?_
        rintro e w3 ⟨ev, rfl, hev, hB3⟩
        have HEV := Lib.hid hev
        clear hev
        go_wp2_with fail
        refine (HKN.out _).mono ?_
        rintro e w4 ⟨rfl, rfl⟩
        go_wp2_with fail
        refine (HAT.out 5 _).mono ?_
        rintro e w5 ⟨wv, rfl, hwv, hB5⟩
        have HWV := Lib.hid hwv
        clear hwv
        go_wp2_with fail
        refine (HTL.out 5 _ _ _ _ (by omega) (by omega) (HEV.out.bel hB5) HWV.out ((hBr.step hB3).step hB5)).mono ?_
        rintro e w6 ⟨rfl, hB6⟩
        go_wp2_with fail
        go_ret
        exact ⟨rfl, ((hBr.step hB3).step hB5).step hB6⟩
      · omega
      · have HE := Lib.hid (HEB.out (by rw [hm]; decide))
        have HS5 := HMS.out 4 hm (by decide)
        unfold Hid at HE
        rw [HS5] at HE
        rw [h3] at HKN
        have HE := Lib.hid HE
        clear HS5 HEO HEB hm
        go_wp2_with fail
        refine HE.out.mono ?_
        rintro e w3 ⟨ev, rfl, hev, hB3⟩
        have z8 := hB3.cellv q8
        have HEV := Lib.hid hev
        clear hev
        go_wp2_with fail
        refine (HKN.out _).mono ?_
        rintro e w4 ⟨rfl, rfl⟩
        rcases h5 with h5 | ⟨h5, h6⟩
        all_goals
          go_wp2_with fail
          refine (HAT.out 4 _).mono ?_
          rintro e w5 ⟨wv, rfl, hwv, hB5⟩
          have HWV := Lib.hid hwv
          clear hwv
          go_wp2_with fail
          refine (HTL.out 4 _ _ _ _ (by omega) (by omega) (HEV.out.bel hB5) HWV.out ((hBr.step hB3).step hB5)).mono ?_
          rintro e w6 ⟨rfl, hB6⟩
          go_wp2_with fail
          go_ret
          exact ⟨rfl, ((hBr.step hB3).step hB5).step hB6⟩
      · have HE := Lib.hid (HEO.out hm)
        rw [h3] at HKN
        have hmm : mayN k 1 (R.length : Int) = 0 := by rw [HL.out]; exact hm
        have hRl : R.length ≤ 1000 := by rw [HL.out]; omega
        have hdec : decS (msgS ⟨k, 1, [0, 0, 0, 0, 0, 0], R⟩) = (⟨k, 1, [0, 0, 0, 0, 0, 0], R⟩, .nil) := decS_enc HOK.out (by show R.length ≤ 1000000; omega) hmm
        have HDE := fun v W (h : SlB W v (msgS ⟨k, 1, [0, 0, 0, 0, 0, 0], R⟩)) => msg_Decode v _ W h (by have := msgS_len HOK.out hRl; omega)
        rw [hdec] at HDE
        have HSA := fun v1 v2 W (h1 : SlRow W v1 R) (h2 : SlRow W v2 R) => msg_Same ⟨k, 1, [0, 0, 0, 0, 0, 0], R⟩ ⟨k, 1, [0, 0, 0, 0, 0, 0], R⟩ v1 v2 W h1 h2 (by show R.length ≤ 1000000; omega) (by show R.length ≤ 1000000; omega) rfl rfl
        rw [sameM_self] at HSA
        simp only [msgV6] at HDE HSA
        have HDE := Lib.hid HDE
        have HSA := Lib.hid HSA
        generalize msgS ⟨k, 1, [0, 0, 0, 0, 0, 0], R⟩ = bs at HE HDE
        clear HEO HEB hm hmm hRl hdec HTL HMS HAT
        go_wp2_with fail
        refine HE.out.mono ?_
        rintro e w3 ⟨bv, rfl, hbv, hB3⟩
        have z8 := hB3.cellv q8
        have HBV := Lib.hid hbv.sl
        clear hbv
        go_wp2_with fail
        refine (HKN.out _).mono ?_
        rintro e w4 ⟨rfl, rfl⟩
        go_wp2_with fail
        refine (HDE.out _ _ HBV.out).mono ?_
        rintro e w5 ⟨lv2, ev, rfl, hlv, hev, hB5⟩
        obtain rfl : ev = .nilIface := hev
        obtain ⟨la2, lc2, rfl⟩ := slot_shape hlv.sl
        rw [HL.out]
        have hB35 : Bel w2 w5 := hB3.step hB5
        have t0 := hB35.cellv y0
        have t1 := hB35.cellv y1
        have t2 := hB35.cellv y2
        have t3 := hB35.cellv y3
        have t4 := hB35.cellv y4
        have t5 := hB35.cellv y5
        have t6 := hB35.cellv y6
        have t7 := hB35.cellv y7
        have t8 := hB35.cellv q8
        have hw15 : w1.heap.size < w5.heap.size := by have := hB35.size; omega
        have HLV := Lib.hid hlv.sl
        unfold Hid at HLV
        rw [HL.out] at HLV
        have HSR := Lib.hid (fun T cs => HSA.out _ _ (w5.alloc (.cells cs T)) (HLV.bel encRow_len (Bel.rfl'.al _)) (HSL.out.bel encRow_len (hB35.al _)))
        clear hlv HLV
        go_wp2_with fail
        refine (HSR.out _ _).mono ?_
        rintro e w6 ⟨rfl, hB6⟩
        go_wp2_with fail
        go_ret
        exact ⟨rfl, ((hBr.step hB35).al _).step hB6⟩
end Go.Proofs.YtmnmoadkpidggaaDoor
