/- The law MsgCuts walked: it returns true. Condition: the argument reads as a message of int64 numbers; the error's handle is laid. -/
import Derived.Test.YtmnmoadkpidggaaDoorKnown4
import Derived.Test.YtmnmoadkpidggaaDoorTellG
namespace Go.Proofs.YtmnmoadkpidggaaDoor
set_option linter.unusedSimpArgs false
set_option linter.unusedVariables false
open Go.RowKit

theorem decS_err {b : List UInt8} (h : (decS b).2 ≠ .nil) : (decS b).1 = Msg.none := by
  revert h
  unfold decS
  dsimp only
  split
  · intro _; rfl
  · split
    · intro _; rfl
    · split
      · intro _; rfl
      · split
        · intro _; rfl
        · intro h; exact absurd rfl h
theorem encU_pos (u : Nat) : 1 ≤ (encU u).length := by
  by_cases h : u < 128
  · rw [encU_one h]; simp
  · rw [encU_more h]; simp
theorem msgS_pos (m : Msg) : 1 ≤ (msgS m).length := by
  have : msgS m = encU (zig m.k) ++ encIs (m.s :: (m.a ++ [(m.l.length : Int)] ++ m.l.flatMap Row.l)) := by
    simp [msgS, numsOf, encIs, encI]
  rw [this, List.length_append]
  have := encU_pos (zig m.k)
  omega
theorem sl_take {α : Type} {enc : α → List Value} {k : Nat} {w : World} {b o cap c : Nat} {l : List α} (h : RowAt enc k w b o l) (hc : c ≤ l.length) (hcap : l.length ≤ cap) (hm : cap ≤ maxLen) : Sl enc k w (.slice (some ⟨b, o, none⟩) c cap) (l.take c) := by
  refine Or.inr ⟨b, o, cap, by simp; omega, by simp; omega, hm, h.take c⟩

set_option maxRecDepth 100000 in
set_option maxHeartbeats 4000000 in
theorem cuts_walk (m : Msg) (lv : Value) (cut more : Int) (w : World) (hok : m.ok) (hs : SlRow w lv m.l) (hmore : 0 ≤ more ∧ more ≤ 255) (hcut : I64 cut) (hH : Handle w) :
    Calls Tryd.prog 7 #[msgV m lv, .int .i64 cut, .int .u8 more] w fun e w' => e = .returned (.bool true) ∧ Bel w w' := by
  have K := Lib.hid (fun W => known4 W)
  have HS := Lib.hid hs
  obtain ⟨la, lc, rfl⟩ := slot_shape hs
  have HOK := Lib.hid hok
  clear hs
  obtain ⟨k, s, a, l⟩ := m
  have ha6 := hok.2.2.1
  dsimp only at ha6
  clear hok
  unfold I64 at hcut
  match a, ha6 with
  | [a0, a1, a2, a3, a4, a5], _ =>
    dsimp only at HS
    by_cases hlen : (60 : Int) < (l.length : Int)
    · rw [msgV6]
      go_enter Tryd.func7, Tryd.ntmps7
      go_wp2_with fail
      refine (K.out _).mono ?_
      rintro e w1 ⟨rfl, hB1⟩
      have z8 : w1.cell? ⟨w.heap.size, 8, none⟩ = some (.slice la l.length lc) := hB1.cellv (new_cell _ _ _ 8 rfl)
      go_wp2_with fail
      go_ret
      exact ⟨rfl, (Bel.rfl'.al _).step hB1⟩
    by_cases hneg : cut < 0
    · rw [msgV6]
      go_enter Tryd.func7, Tryd.ntmps7
      go_wp2_with fail
      refine (K.out _).mono ?_
      rintro e w1 ⟨rfl, hB1⟩
      have z8 : w1.cell? ⟨w.heap.size, 8, none⟩ = some (.slice la l.length lc) := hB1.cellv (new_cell _ _ _ 8 rfl)
      go_wp2_with fail
      go_ret
      exact ⟨rfl, (Bel.rfl'.al _).step hB1⟩
    have hl60 : l.length ≤ 60 := by omega
    by_cases hmay : mayN k s l.length = 0
    · have HEO := fun W (hW : Bel w W) => msg_Encode_ok ⟨k, s, [a0, a1, a2, a3, a4, a5], l⟩ (.slice la l.length lc) W HOK.out (HS.out.bel encRow_len hW) (by show l.length ≤ 1000; omega) hmay
      simp only [msgV6] at HEO
      have hL1 := msgS_pos ⟨k, s, [a0, a1, a2, a3, a4, a5], l⟩
      have hL2 := msgS_len HOK.out (by show l.length ≤ 1000; omega)
      have hdc := fun c (hc : c < (msgS ⟨k, s, [a0, a1, a2, a3, a4, a5], l⟩).length) => decS_cut HOK.out (by show l.length ≤ 1000000; omega) hmay hc
      have hdm := fun rest => dec_enc_more HOK.out (by show l.length ≤ 1000000; omega) hmay rest
      have hkr : 0 ≤ k ∧ k < 100 := by
        rcases may_cases k s l.length with ⟨h, _⟩ | ⟨h, _⟩ | ⟨h, _⟩ | ⟨_, h1, h2, h3, _⟩
        · omega
        · omega
        · omega
        · rcases known_cases k with ⟨h, _⟩ | ⟨_, h | h | h⟩
          · rw [h] at h3; cases h3
          · omega
          · omega
          · omega
      have hcut2 : cutK k = k := by unfold cutK; rw [if_neg (by omega), if_neg (by omega)]
      dsimp only at hdm
      rw [hcut2] at hdm
      generalize msgS ⟨k, s, [a0, a1, a2, a3, a4, a5], l⟩ = bs at HEO hL1 hL2 hdc hdm
      obtain ⟨C, rfl⟩ := Int.eq_ofNat_of_zero_le (show 0 ≤ cut by omega)
      obtain ⟨Mo, rfl⟩ := Int.eq_ofNat_of_zero_le hmore.1
      have hMo : Mo < 256 := by omega
      have hub : (((UInt8.ofNat Mo).toNat : Nat) : Int) = (Mo : Int) := by simp [UInt8.toNat_ofNat]; omega
      have em : Int.tmod (C : Int) (bs.length : Int) = ((C % bs.length : Nat) : Int) := Int.ofNat_tmod C bs.length
      have hc : C % bs.length < bs.length := Nat.mod_lt _ (by omega)
      have hX : ∃ er, decS (bs.take (C % bs.length)) = (Msg.none, er) ∧ er ≠ .nil := by
        have h1 := hdc _ hc
        have h2 := decS_err h1
        generalize decS (bs.take (C % bs.length)) = X at h1 h2 ⊢
        obtain ⟨xm, xe⟩ := X
        dsimp only at h1 h2
        subst h2
        exact ⟨xe, rfl, h1⟩
      generalize C % bs.length = c at em hc hX
      obtain ⟨er, hX, hne⟩ := hX
      have hnb : isNilB er = false := by
        cases er with
        | nil => exact absurd rfl hne
        | no n => rfl
        | fault a b c => rfl
      have HD1 := fun v W (h : SlB W v (bs.take c)) => msg_Decode v (bs.take c) W h (by simp; omega)
      rw [hX] at HD1
      have HD2 := fun v W (h : SlB W v (bs ++ [UInt8.ofNat Mo])) => msg_Decode v (bs ++ [UInt8.ofNat Mo]) W h (by simp; omega)
      rw [hdm [UInt8.ofNat Mo], if_neg (by simp)] at HD2
      simp only [Msg.none, msgV6] at HD1 HD2
      have HD1 := Lib.hid HD1
      have HD2 := Lib.hid HD2
      have HEO := Lib.hid HEO
      have HAT := Lib.hid (fun W => ref_At msgW k 2 W)
      have HTL := Lib.hid (fun v wv B W (hv : ErAt W v (.fault msgW k (.no 2))) (hw : WrAt B W wv (.fault msgW k (.no 2))) (hB : Bel w W) => tells_plain (.fault msgW k (.no 2)) v wv B W hv hw (Or.inr ⟨msgW, k, 2, rfl, by decide, Or.inr ⟨hkr.1, hkr.2⟩, by omega, by omega⟩) (hH.bel hB))
      have hLz : (bs.length : Int) ≠ 0 := by omega
      have hLb : ((bs.length : Int) == 0) = false := by simpa using hLz
      have hc0 : (0 : Int) ≤ (c : Int) := by omega
      have hcl : (c : Int) ≤ (bs.length : Int) := by omega
      obtain ⟨i0, hi, hz0, hz1, hz2⟩ := info_parts bytes_info
      have HF := Lib.hid (flat_len encB_len bs)
      have HUB := Lib.hid hub
      rw [msgV6]
      clear hX hne hdc hdm hmay hub hmore hkr
      go_enter Tryd.func7, Tryd.ntmps7
      go_wp2_with fail
      refine (K.out _).mono ?_
      rintro e w1 ⟨rfl, hB1⟩
      have hB : Bel w w1 := (Bel.rfl'.al _).step hB1
      have HM : MAt w1 w.heap.size k s [a0, a1, a2, a3, a4, a5] (.slice la l.length lc) := MAt.new.bel hB1
      obtain ⟨y2, y3, y4, y5, y6, y7⟩ := HM.a
      have y0 := HM.c0
      have y1 := HM.c1
      have y8 := HM.c8
      clear HM
      go_wp2_with fail
      refine (HEO.out _ hB).mono ?_
      rintro e w2 ⟨bv, rfl, hbv, hB2⟩
      obtain ⟨g, cap, rfl, hcap, hm, hg, hlt, hMB⟩ : ∃ g cap, bv = .slice (some ⟨g, 0, none⟩) bs.length cap ∧ bs.length ≤ cap ∧ cap ≤ maxLen ∧ w1.heap.size ≤ g ∧ g < w2.heap.size ∧ MutAt encB 1 w2 g 0 bs := by
        rcases hbv with ⟨_, h⟩ | h
        · rw [h] at hL1; simp at hL1
        · exact h
      have HBS := Lib.hid hMB.1
      have z0 := hB2.cellv y0
      have hB12 := hB.step hB2
      have hccap : (c : Int) ≤ (cap : Int) := by omega
      clear hbv hMB y0 y1 y2 y3 y4 y5 y6 y7 y8
      go_wp2_with fail
      refine (HD1.out _ _ (sl_take HBS.out (Nat.le_of_lt hc) hcap hm)).mono ?_
      rintro e w3 ⟨lv3, ev3, rfl, hlv3, hev3, hB3⟩
      obtain ⟨la3, lc3, e3⟩ := slot_shape hlv3.sl
      rw [List.length_nil] at e3
      subst e3
      have hq := fun W => ErAt.neqNil (W := W) hev3
      have hgd := fun W op x => ErAt.guard (W := W) hev3 op x
      rw [hnb] at hq
      simp only [Bool.not_false] at hq
      have HBS3 := Lib.hid (HBS.out.bel encB_len hB3)
      have z3 := hB3.cellv z0
      have hB13 := hB12.step hB3
      have hs3 := hB3.size
      clear hlv3 hev3 hnb z0
      go_wp2_with (at_builtin; first
        | (refine wpList_append_own_at _ rfl _ _ 22 rfl (w3.heap.size + 1) 5 i0 _ 1 1 Tryd.underlying22 hi hz0 hz1 hz2 rfl (by omega) (.slice (some ⟨w3.heap.size + 1, 0, none⟩) 0 0) 0 [] rfl (own_empty (by simpa using heap_alloc_new (w3.alloc _) _) (Nat.le_refl _)) ⟨g, 0, none⟩ bs.length cap (bs.flatMap encB) rfl HF.out (news_row encB_len (HBS3.out.bel encB_len ((Bel.rfl'.al _).al _))) (encB_one bs) (by unfold maxLen; omega) (by omega) (by simp) ?_; intro v4 w4 hown4 hgrow4 hiff4 hat4; have hB4 : Bel w3 w4 := Below.grown ((Bel.rfl'.al _).al _) hgrow4 (by simp; omega) (fun q hq => by have hq : w3.heap.size + 1 = q := Option.some.inj hq; omega); have HO4 : Hid (w4.ownsRow (w3.heap.size + 1) 5 1 v4 bs.length (bs.flatMap encB)) := (by unfold Hid; simpa using hown4); clear hown4 hgrow4 hiff4 hat4; have hs4 := hB4.size)
        | (refine wpList_append_lies _ rfl _ _ 22 rfl (w3.heap.size + 1) 5 i0 _ 1 1 Tryd.underlying22 hi hz0 hz1 hz2 rfl (by omega) v4 bs.length _ rfl (Bel.own (Bel.rfl'.al _) HO4.out) ⟨w4.heap.size, 0, none⟩ 1 1 [.int .u8 (Mo : Int)] rfl rfl (World.news_of_block (cs := #[.int .u8 (Mo : Int)]) (t := 5) (fr := (0, 0)) (heap_alloc_new w4 _)) (by simp [Value.oneCell']) (by omega) (by unfold maxLen; omega) (by omega) (by simp; omega) (w4.heap.size + 1) (by simp) ?_; intro g5 cap5 w5 hown5 hgrow5 hat5 hlt5; have hB5 : Bel w3 w5 := Below.grown (hB4.al _) hgrow5 (by simp; omega) (fun q hq => by have := (HO4.out.lt q hq).1; omega); have HO5 := Lib.hid (own_push HUB.out hown5); clear hown5 hgrow5 hat5))
      refine (HD2.out _ _ (own_sl encB_len rfl HO5.out)).mono ?_
      rintro e w6 ⟨lv6, ev6, rfl, hlv6, hev6, hB6⟩
      obtain ⟨la6, lc6, e6⟩ := slot_shape hlv6.sl
      rw [List.length_nil] at e6
      subst e6
      have HEV := Lib.hid hev6
      have hB36 := hB5.step hB6
      have z6 := hB36.cellv z3
      have hB16 := hB13.step hB36
      have hs6 := hB36.size
      have hlt6 : w.heap.size < w6.heap.size := lt_of_cell z6
      clear hlv6 hev6
      go_wp2_with fail
      refine (HAT.out _).mono ?_
      rintro e w7 ⟨wv, rfl, hwv, hB7⟩
      have HWV := Lib.hid hwv
      clear hwv
      go_wp2_with fail
      refine (HTL.out _ _ _ _ ((HEV.out.bel (Bel.rfl'.al _)).bel hB7) HWV.out ((hB16.al _).step hB7)).mono ?_
      rintro e w8 ⟨rfl, hB8⟩
      go_wp2_with fail
      go_ret
      exact ⟨rfl, ((hB16.al _).step hB7).step hB8⟩
    · have HEB := fun W (hW : Bel w W) => msg_Encode_bad ⟨k, s, [a0, a1, a2, a3, a4, a5], l⟩ (.slice la l.length lc) W HOK.out (HS.out.bel encRow_len hW) (by show l.length ≤ 1000; omega) hmay
      simp only [msgV6] at HEB
      have HEB := Lib.hid HEB
      have hnb : isNilB (mayS k s l.length) = false := by unfold mayS; rw [if_neg hmay]; rfl
      generalize mayS k s l.length = er at HEB hnb
      rw [msgV6]
      clear hmay
      go_enter Tryd.func7, Tryd.ntmps7
      go_wp2_with fail
      refine (K.out _).mono ?_
      rintro e w1 ⟨rfl, hB1⟩
      have hB : Bel w w1 := (Bel.rfl'.al _).step hB1
      have HM : MAt w1 w.heap.size k s [a0, a1, a2, a3, a4, a5] (.slice la l.length lc) := MAt.new.bel hB1
      obtain ⟨y2, y3, y4, y5, y6, y7⟩ := HM.a
      have y0 := HM.c0
      have y1 := HM.c1
      have y8 := HM.c8
      clear HM
      go_wp2_with fail
      refine (HEB.out _ hB).mono ?_
      rintro e w2 ⟨ev, rfl, hev, hB2⟩
      have hq := fun W => ErAt.neqNil (W := W) hev
      have hg := fun W op x => ErAt.guard (W := W) hev op x
      rw [hnb] at hq
      simp only [Bool.not_false] at hq
      clear hev hnb
      go_wp2_with fail
      go_ret
      exact ⟨rfl, hB.step hB2⟩
end Go.Proofs.YtmnmoadkpidggaaDoor
