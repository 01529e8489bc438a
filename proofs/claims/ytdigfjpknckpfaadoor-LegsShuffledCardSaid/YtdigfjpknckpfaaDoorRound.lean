/- The law LegsRound walked: it returns true. Condition: the arguments read as a list of legs and a list of int32 numbers. -/
import Derived.Test.YtdigfjpknckpfaaDoorLegK
import Derived.Test.YtdigfjpknckpfaaDoorLegP
import Derived.Test.YtdigfjpknckpfaaDoorOpenLeg
namespace Go.Proofs.YtdigfjpknckpfaaDoor
set_option linter.unusedSimpArgs false
set_option linter.unusedVariables false
open Go.RowKit

def encI32 (x : Int) : List Value := [.int .i32 x]
theorem encI32_len (x : Int) : (encI32 x).length = 1 := rfl
theorem int32_cell {w : World} {b o : Nat} {l : List Int} (h : RowAt encI32 1 w b o l) {i : Nat} (hi : i < l.length) : w.cell? ⟨b, o + i, none⟩ = some (.int .i32 l[i]) := by
  have := h i hi 0 (Nat.lt_succ_self 0)
  simpa [encI32] using this
theorem netGo_I64 (t : List (Leg × Int)) : ∀ a, I64 a → I64 (netGo t a).1 := by
  induction t with
  | nil => intro a h; exact h
  | cons y t ih =>
    intro a h
    obtain ⟨x, p⟩ := y
    rw [netGo_cons]
    split
    · split
      · exact ih _ (addS_I64 _ _)
      · exact (⟨by decide, by decide⟩ : I64 0)
    · exact (⟨by decide, by decide⟩ : I64 0)
theorem netS_I64 (l : List Leg) (ps : List Int) : I64 (netS l ps).1 := by
  unfold netS
  split
  · exact netGo_I64 _ _ ⟨by decide, by decide⟩
  · exact ⟨by decide, by decide⟩
theorem sl_len {α : Type} {enc : α → List Value} {k : Nat} {w : World} {v : Value} {l : List α} (h : Sl enc k w v l) : ∃ a c, v = .slice a l.length c := by
  rcases h with ⟨rfl, rfl⟩ | ⟨b, o, c, rfl, _⟩
  · exact ⟨_, _, rfl⟩
  · exact ⟨_, _, rfl⟩
theorem notnil {e : Er} (h : e ≠ .nil) : isNilB e = false := by
  cases e with
  | nil => exact absurd rfl h
  | no n => rfl
  | fault a b c => rfl

theorem i64_info : (Tryd.prog.info? 2).map (fun i => (i.zero, i.size, i.bytes)) = some (some (.int .i64 0), 1, 8) := by kernel_rfl

set_option maxRecDepth 100000 in
set_option maxHeartbeats 4000000 in
theorem round_walk (v1 v2 : Value) (l : List Leg) (ps : List Int) (w : World) (h1 : SlLeg w v1 l) (h2 : Sl encI32 1 w v2 ps) (hl : ∀ x ∈ l, LegOk x) (hp : ∀ p ∈ ps, -2147483648 ≤ p ∧ p ≤ 2147483647) :
    Calls Tryd.prog 5 #[v1, v2] w fun e w' => e = .returned (.bool true) ∧ Bel w w' := by
  obtain ⟨a1, c1, e1⟩ := sl_len h1
  obtain ⟨a2, c2, e2⟩ := sl_len h2
  have K := Lib.hid (known17 w)
  by_cases q1 : 4 < l.length
  · subst e1 e2
    have q1' : (4 : Int) < (l.length : Int) := by omega
    clear h1 h2 hl hp
    go_enter Tryd.func5, Tryd.ntmps5
    go_wp2_with fail
    refine K.out.mono ?_
    rintro e w1 ⟨rfl, hB1⟩
    go_wp2_with fail
    go_ret
    exact ⟨rfl, hB1⟩
  have q1' : ¬ (4 : Int) < (l.length : Int) := by omega
  by_cases q2 : checkS l = .nil
  · by_cases q3 : ps.length < l.length
    · have q3' : (ps.length : Int) < (l.length : Int) := by omega
      have HC := fun W (hW : Bel w W) => legs_Check v1 l W (h1.bel encLeg_len hW) (by omega)
      rw [q2] at HC
      have HC := Lib.hid HC
      subst e1 e2
      clear h1 h2 hl hp q2
      go_enter Tryd.func5, Tryd.ntmps5
      go_wp2_with fail
      refine K.out.mono ?_
      rintro e w1 ⟨rfl, hB1⟩
      go_wp2_with fail
      refine (HC.out _ hB1).mono ?_
      rintro e w2 ⟨v3, rfl, hv3, hB2⟩
      obtain rfl := nil_of hv3
      go_wp2_with fail
      go_ret
      exact ⟨rfl, hB1.step hB2⟩
    · have q3' : ¬ (ps.length : Int) < (l.length : Int) := by omega
      obtain ⟨k1, k2, k3, k4⟩ := check_ok q2
      have HC := fun W (hW : Bel w W) => legs_Check v1 l W (h1.bel encLeg_len hW) (by omega)
      rw [q2] at HC
      have HC := Lib.hid HC
      have HCA := Lib.hid (fun W (hW : Bel w W) => legs_Canon_ok v1 l W (h1.bel encLeg_len hW) (by omega) q2)
      have HT := Lib.hid (fun W (hW : Bel w W) => legs_Turned v1 l W (h1.bel encLeg_len hW) (by omega))
      have q2t : checkS (turnS l) = .nil := by rw [turnS_check (fun x hx => (hl x hx).2.1)]; exact q2
      have hcl : (canonS l).1.length ≤ 4 := by rw [canon_len]; exact k2
      have htl : (turnS l).length ≤ 4 := by rw [turnS_len]; exact k2
      have HCT := fun v W (hW : SlLeg W v (turnS l)) => legs_Canon_ok v (turnS l) W hW (by omega) q2t
      rw [canon_turn q2] at HCT
      have HCT := Lib.hid HCT
      have hptl : (ps.take l.length).length = l.length := by simp; omega
      have hpt : ∀ p ∈ ps.take l.length, -2147483648 ≤ p ∧ p ≤ 2147483647 := fun p h => hp p (List.mem_of_mem_take h)
      have hp64 : ∀ p ∈ ps.take l.length, I64 p := fun p h => by have := hpt p h; unfold I64; omega
      have HN := Lib.hid (fun v W (hW : Bel w W) (h : SlI W v (ps.take l.length)) => legs_Net v1 v l (ps.take l.length) W (h1.bel encLeg_len hW) h (by omega) (by omega) hp64)
      have HNT := Lib.hid (fun u v W (hW : SlLeg W u (turnS l)) (h : SlI W v (ps.take l.length)) => legs_Net u v (turnS l) (ps.take l.length) W hW h (by omega) (by omega) hp64)
      have hnt := net_turn q2 hptl (fun p h => by have := hpt p h; omega)
      have hnf := net_few q2 hptl (fun p h => by have := hpt p h; omega)
      have hn64 := netS_I64 l (ps.take l.length)
      have hm64 := netS_I64 (turnS l) (ps.take l.length)
      rw [hnt] at hm64
      rw [hnf] at hn64 hm64 hnt
      generalize sumG (l.zip (ps.take l.length)) = N at hnt hnf hn64 hm64
      obtain ⟨n1, n2⟩ := hn64
      obtain ⟨n3, n4⟩ := hm64
      simp only at n1 n2 n3 n4
      have n5 : -9223372036854775807 ≤ N := by omega
      have HNF := Lib.hid hnf
      have HNT2 := Lib.hid hnt
      have HP := Lib.hid hp
      have H2 := Lib.hid h2
      clear hnf hnt hp h1 h2 hl q2 q2t k3 k4 n1 n3 n4 hpt hp64
      obtain ⟨i0, hi, hz0, hz1, hz2⟩ := info_parts i64_info
      subst e1
      go_enter Tryd.func5, Tryd.ntmps5
      go_wp2_with fail
      refine K.out.mono ?_
      rintro e w1 ⟨rfl, hB1⟩
      subst e2
      go_wp2_with fail
      refine (HC.out _ hB1).mono ?_
      rintro e w2 ⟨v3, rfl, hv3, hB2⟩
      obtain rfl := nil_of hv3
      clear hv3
      go_wp2_with fail
      refine (HCA.out _ (hB1.step hB2)).mono ?_
      rintro e w3 ⟨v3, rfl, hf3, hB3⟩
      have F3 := Lib.hid hf3.sl
      clear hf3
      go_wp2_with fail
      refine (HT.out _ ((hB1.step hB2).step hB3)).mono ?_
      rintro e w4 ⟨v4, rfl, hf4, hB4⟩
      go_wp2_with fail
      refine (HCT.out _ _ hf4.sl).mono ?_
      rintro e w5 ⟨v5, rfl, hf5, hB5⟩
      have F5 := Lib.hid hf5.sl
      clear hf4 hf5
      have hB6 : Bel w w5 := (((hB1.step hB2).step hB3).step hB4).step hB5
      have hsz := hB6.size
      go_wp2_with fail
      go_loopw [11, 12] (fun v i wr => ∃ k : Nat, k ≤ l.length ∧ i = .int .i64 k ∧ Bel w5 wr ∧ wr.ownsRow w5.heap.size 2 1 v k ((ps.take k).flatMap encI)) (fun _ i _ => l.length - (intOf i).toNat)
      case atStart => exact ⟨0, by omega, rfl, Bel.rfl', World.ownsRow_nil _ _ _ _⟩
      case round =>
        obtain ⟨k, hk, rfl, hB, hown⟩ := hrel
        by_cases hlt : k < l.length
        · have hkp : k < ps.length := by omega
          have hpk := HP.out ps[k] (List.getElem_mem hkp)
          obtain ⟨p1, p2⟩ := hpk
          rcases H2.out.bel encI32_len (hB6.step hB) with ⟨h, _⟩ | ⟨b, o, c, h, hc1, hc2, hrow⟩
          · simp only [Value.slice.injEq] at h; omega
          obtain ⟨rfl, rfl⟩ : a2 = some ⟨b, o, none⟩ ∧ c2 = c := by
            injection h with e1 _ e2
            exact ⟨e1, e2⟩
          have d0 := int32_cell hrow hkp
          have HX : Hid ((ps.take (k + 1)).flatMap encI = (ps.take k).flatMap encI ++ [.int .i64 ps[k]]) := by
            unfold Hid; rw [List.take_succ_eq_append_getElem hkp, List.flatMap_append]; simp [encI]
          clear h hrow
          generalize ps[k] = p at d0 HX p1 p2
          generalize (ps.take k).flatMap encI = xs at hown HX
          have OW := Lib.hid hown
          have hbs := hB.size
          clear hown
          go_wp2_with (at_builtin; refine wpList_append_lies _ (by rfl) _ _ _ (by rfl) w5.heap.size 2 i0 _ 1 8 Tryd.underlying23 hi hz0 hz1 hz2 rfl (by omega) u11 k xs (by rfl) (OW.out.alloc _) ⟨wr.heap.size, 0, none⟩ 1 1 [.int .i64 p] (by rfl) (by rfl) (World.news_of_block (cs := #[.int .i64 p]) (t := 2) (fr := (0, 0)) (heap_alloc_new wr _)) (by simp [Value.oneCell']) (by omega) (by unfold maxLen; omega) (by omega) (by simp; omega) (wr.heap.size + 1) (by simp) ?_; intro gg cap w6 hown1 hgrow hat hlt2)
          have HB1 : Bel w5 w6 := Below.grown (hB.al _) hgrow (by simp; omega) (fun p h => (OW.out.lt p h).1)
          go_roundw
          case rel => exact ⟨k + 1, by omega, by go_num, HB1, by rw [HX.out]; exact hown1⟩
          case measure => simp [intOf]; omega
        · obtain rfl : k = l.length := by omega
          have hsl : SlI wr u11 (ps.take l.length) := own_sl encI_len rfl (by rw [hptl]; exact hown)
          have HS := Lib.hid hsl
          clear hown hsl
          go_wp2_with fail
          refine (HN.out u11 _ (hB6.step hB) HS.out).mono ?_
          rintro e w6 ⟨rfl, hB7⟩
          rw [HNF.out]
          unfold two
          go_wp2_with fail
          refine (HT.out _ ((hB6.step hB).step hB7)).mono ?_
          rintro e w7 ⟨v7, rfl, hf7, hB8⟩
          go_wp2_with fail
          refine (HNT.out v7 u11 _ hf7.sl (HS.out.bel encI_len (hB7.step hB8))).mono ?_
          rintro e w8 ⟨rfl, hB9⟩
          rw [HNT2.out]
          unfold two
          clear hf7
          cases hb : (canonS l).2
          all_goals
            go_wp2_with fail
            refine (legs_Same v3 v5 (canonS l).1 (canonS l).1 _ (F3.out.bel encLeg_len (((((hB4.step hB5).step hB).step hB7).step hB8).step hB9)) (F5.out.bel encLeg_len (((hB.step hB7).step hB8).step hB9)) (by omega) (by omega)).mono ?_
            rintro e w9 ⟨rfl, hB10⟩
            rw [decide_eq_true (rfl : (canonS l).1 = (canonS l).1)]
            go_wp2_with fail
            go_ret
            exact ⟨by simp, ((((hB6.step hB).step hB7).step hB8).step hB9).step hB10⟩
  · have HC := Lib.hid (fun W (hW : Bel w W) => legs_Check v1 l W (h1.bel encLeg_len hW) (by omega))
    have hb := notnil q2
    subst e1 e2
    clear h1 h2 hl hp q2
    go_enter Tryd.func5, Tryd.ntmps5
    go_wp2_with fail
    refine K.out.mono ?_
    rintro e w1 ⟨rfl, hB1⟩
    go_wp2_with fail
    refine (HC.out _ hB1).mono ?_
    rintro e w2 ⟨v3, rfl, hv3, hB2⟩
    have hq := fun W => ErAt.neqNil (W := W) hv3
    have hg := fun W op x => ErAt.guard (W := W) hv3 op x
    rw [hb] at hq
    simp only [Bool.not_false] at hq
    clear hv3 hb HC
    go_wp2_with fail
    go_ret
    exact ⟨rfl, hB1.step hB2⟩
end Go.Proofs.YtdigfjpknckpfaaDoor
