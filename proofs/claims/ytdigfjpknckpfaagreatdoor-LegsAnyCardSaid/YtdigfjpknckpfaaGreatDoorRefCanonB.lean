/- The reference's Canon at legs that may be: the same form. Condition: the slice reads as a list of legs. -/
import Derived.Test.YtdigfjpknckpfaaGreatDoorRefCanonA
import Derived.Test.YtdigfjpknckpfaaGreatDoorLegE
import Derived.Test.YtdigfjpknckpfaaGreatDoorAppend
namespace Go.Proofs.YtdigfjpknckpfaaGreatDoor
set_option linter.unusedSimpArgs false
set_option linter.unusedVariables false
open Go.RowKit

/-- What stands ahead of a place, the new one, what stands behind it: sorted. -/
theorem sort_ins {l : List Leg} {k j : Nat} (hk : k < l.length) (hu : Unlike l) (hj : j ≤ k) (h1 : ∀ i (h : i < (sortS (l.take k)).length), j ≤ i → l[k].s < (sortS (l.take k))[i].s) (h2 : ∀ (h : j - 1 < (sortS (l.take k)).length), 0 < j → (sortS (l.take k))[j - 1].s ≤ l[k].s) :
    (sortS (l.take k)).take j ++ l[k] :: (sortS (l.take k)).drop j = sortS (l.take (k + 1)) := by
  have hlen : (sortS (l.take k)).length = k := by rw [sortS_len]; simp; omega
  have hp : ((sortS (l.take k)).take j ++ l[k] :: (sortS (l.take k)).drop j).Perm (l.take (k + 1)) := by
    refine List.perm_middle.trans ?_
    rw [List.take_append_drop, List.take_succ_eq_append_getElem hk]
    exact ((sortS_perm _).cons _).trans (List.perm_append_comm (l₁ := [l[k]]))
  refine List.Perm.eq_of_pairwise (le := fun a b : Leg => a.s ≤ b.s) ?_ ?_ (sortS_pair _) (hp.trans (sortS_perm _).symm)
  · intro a b ha hb hab hba
    have ha' := List.mem_of_mem_take (hp.mem_iff.1 ha)
    have hb' := List.mem_of_mem_take ((sortS_perm _).mem_iff.1 hb)
    exact hu a ha' b hb' (by omega)
  · have hs := sortS_pair (l.take k)
    have hle : ∀ y ∈ (sortS (l.take k)).take j, y.s ≤ l[k].s := by
      intro y hy
      obtain ⟨i, hi, rfl⟩ := List.mem_take_iff_getElem.1 hy
      have h2' := h2 (by omega) (by omega)
      rcases Nat.lt_or_ge i (j - 1) with h | h
      · have := List.pairwise_iff_getElem.1 hs i (j - 1) (by omega) (by omega) h
        omega
      · have : i = j - 1 := by omega
        subst this; exact h2'
    have hge : ∀ y ∈ (sortS (l.take k)).drop j, l[k].s < y.s := by
      intro y hy
      obtain ⟨i, hi, rfl⟩ := List.getElem_of_mem hy
      rw [List.getElem_drop]
      exact h1 (j + i) _ (by omega)
    rw [List.pairwise_append]
    refine ⟨hs.sublist (List.take_sublist _ _), ?_, ?_⟩
    · rw [List.pairwise_cons]
      exact ⟨fun y hy => Int.le_of_lt (hge y hy), hs.sublist (List.drop_sublist _ _)⟩
    · intro a ha b hb
      have := hle a ha
      rcases List.mem_cons.1 hb with rfl | hb
      · exact this
      · have := hge b hb; omega

theorem Fresh.set {α : Type} {enc : α → List Value} {k B : Nat} {w : World} {v : Value} {l : List α} (h : Fresh enc k B w v l) {c p : Nat} (hc : c < B) (u : Value) : Fresh enc k B (w.setCell ⟨c, p, none⟩ u) v l := by
  rcases h with h | ⟨g, cap, h1, h2, h3, h4, h5, h6, h7⟩
  · exact Or.inl h
  · refine Or.inr ⟨g, cap, h1, h2, h3, h4, by simpa [World.setCell] using h5, h6.setOther (by omega) u, fun i hi j hj => ?_⟩
    rw [frozen_set]; exact h7 i hi j hj
theorem Fresh.mono {α : Type} {enc : α → List Value} {k B B' : Nat} {w : World} {v : Value} {l : List α} (h : Fresh enc k B w v l) (hB : B' ≤ B) : Fresh enc k B' w v l := by
  rcases h with h | ⟨g, cap, h1, h2, h3, h4, h5⟩
  · exact Or.inl h
  · exact Or.inr ⟨g, cap, h1, h2, h3, Nat.le_trans hB h4, h5⟩
theorem WrAt.nil0 {w : World} {pa : Option Addr} {pn pc : Nat} (h : Sl encPart 2 w (.slice pa pn pc) []) : WrAt 0 w (.agg #[.slice pa pn pc, .int .i64 0]) .nil := ⟨_, rfl, h, fun _ _ => Nat.zero_le _⟩
theorem Sl.nil_any {α : Type} {enc : α → List Value} {k : Nat} {w w' : World} {v : Value} (h : Sl enc k w v []) : Sl enc k w' v [] := by
  rcases h with h | ⟨b, o, c, h1, h2, h3, _⟩
  · exact Or.inl h
  · exact Or.inr ⟨b, o, c, h1, h2, h3, RowAt.nil⟩
theorem gcdAll_sort {l : List Leg} (h : Small l) : gcdAll (sortS l) = gcdAll l := by
  rw [gcdAll_gN h, gcdAll_gN (small_sort h), gN_perm (sortS_perm l)]

set_option maxRecDepth 100000 in
set_option maxHeartbeats 4000000 in
theorem ref_Canon_ok (v : Value) (l : List Leg) (w : World) (h : SlLeg w v l) (hc : checkS l = .nil) :
    Calls Tryz.prog 9 #[v] w fun e w' => ∃ v' wv, e = .returned (.tuple #[v', .bool (canonS l).2, wv]) ∧ Fresh encLeg 3 w.heap.size w' v' (canonS l).1 ∧ WrAt 0 w' wv .nil ∧ Bel w w' := by
  obtain ⟨k1, k2, k3, k4⟩ := check_ok hc
  have HC := fun W (hW : Bel w W) => ref_Check v l W (h.bel encLeg_len hW) (by omega)
  rw [hc] at HC
  have HC := Lib.hid HC
  have K3 := Lib.hid k3
  have K4 := Lib.hid k4
  obtain ⟨i0, hi, hz0, hz1, hz2⟩ := info_parts rleg_info
  rcases h with ⟨rfl, rfl⟩ | ⟨b, o, cap, rfl, hcap, hm, hrow⟩
  · simp at k1
  have HR := Lib.hid hrow
  have hb := lt_of_cell (leg_cells hrow (i := 0) (by omega)).1
  clear hc k3 k4 hrow
  go_enter Tryz.func9, Tryz.ntmps9
  go_wp2_with fail
  refine (HC.out _ (Bel.rfl'.al _)).mono ?_
  rintro en w1 ⟨v1, rfl, hv1, hB1⟩
  obtain ⟨pv, rfl, hsl, hown⟩ := hv1
  obtain ⟨pa, pn, pc, rfl⟩ := sl_shape hsl
  have HS := Lib.hid hsl
  rw [show numOf .nil = 0 from rfl]
  have hbw : Bel w (w1.alloc (.cells #[.slice pa pn pc, .int .i64 0] 26)) := ((Bel.rfl'.al _).step hB1).al _
  have hs1 := hB1.size
  simp at hs1
  clear hsl
  go_wp2_with fail
  obtain ⟨wo, hwo⟩ : ∃ wo : World, wo = w1.alloc (.cells #[.slice pa pn pc, .int .i64 0] 26) := ⟨_, rfl⟩
  have x0 : wo.cell? ⟨w1.heap.size, 0, none⟩ = some (.slice pa pn pc) := by rw [hwo]; simp
  have x1 : wo.cell? ⟨w1.heap.size, 1, none⟩ = some (.int .i64 0) := by rw [hwo]; simp
  obtain ⟨r0, r1, rf0, rf1⟩ := new2 hB1
  have x2 : wo.cell? ⟨w.heap.size, 0, none⟩ = some (.slice none 0 0) := by rw [hwo]; exact (Bel.rfl'.al _).cellv r0
  have x3 : wo.cell? ⟨w.heap.size, 1, none⟩ = some (.int .i64 0) := by rw [hwo]; exact (Bel.rfl'.al _).cellv r1
  have x4 : wo.frozen? ⟨w.heap.size, 0, none⟩ = false := by rw [hwo, (Bel.rfl'.al _).frozen (p := ⟨w.heap.size, 0, none⟩) (lt_of_cell r0)]; exact rf0
  have x5 : wo.frozen? ⟨w.heap.size, 1, none⟩ = false := by rw [hwo, (Bel.rfl'.al _).frozen (p := ⟨w.heap.size, 1, none⟩) (lt_of_cell r1)]; exact rf1
  have HSW : Hid (Sl encPart 2 wo (.slice pa pn pc) []) := by rw [hwo]; exact HS.out.bel encPart_len (Bel.rfl'.al _)
  have hpo : Hid (∀ q, (Value.slice pa pn pc).ownBlock = some q → w.heap.size + 1 ≤ q) := fun q hq => by have := hown q hq; simpa using this
  rw [← hwo] at hbw ⊢
  clear hwo r0 r1 rf0 rf1
  have hbo := hbw.size
  go_loopw [6, 7, 8] (fun g ov i wr => ∃ k : Nat, k ≤ l.length ∧ i = .int .i64 k ∧ g = .int .i64 (gcdTo l k) ∧ Bel wo wr ∧ wr.ownsRow wo.heap.size 58 3 ov k ((sortS (l.take k)).flatMap encLeg)) (fun _ _ i _ => l.length - (intOf i).toNat)
  case atStart => exact ⟨0, by omega, rfl, by rw [gcdTo_zero], Bel.rfl', World.ownsRow_nil _ _ _ _⟩
  case round =>
    obtain ⟨k, hk, rfl, rfl, hB, hown⟩ := hrel
    by_cases hlt : k < l.length
    · have hr := HR.out.bel encLeg_len (hbw.step hB)
      obtain ⟨d0, d1, d2⟩ := leg_cells hr hlt
      obtain ⟨_, _, r1, r4⟩ := bad_facts (K3.out l[k] (List.getElem_mem hlt))
      have hgb := gcdTo_bd (fun x hx => (bad_facts (K3.out x hx)).2.2) k hk
      have HG := Lib.hid (fun W => ref_Gcd (gcdTo l k) l[k].r W (I64_small hgb.1 hgb.2.1) (by unfold I64; omega))
      rw [← gcdTo_succ hlt] at HG
      have hki : (0 : Int) ≤ (k : Int) := by omega
      have hki2 : (k : Int) < (l.length : Int) := by omega
      have hlen : (sortS (l.take k)).length = k := by rw [sortS_len]; simp; omega
      have hsl := own_sl encLeg_len rfl (show wr.ownsRow wo.heap.size 58 3 u7 (sortS (l.take k)).length ((sortS (l.take k)).flatMap encLeg) by rw [hlen]; exact hown)
      have hS := Lib.hid hsl
      obtain ⟨ga, gc, rfl⟩ : ∃ ga gc, u7 = .slice ga k gc := by
        rcases hsl with ⟨h, h0⟩ | ⟨b, o, c, h, _⟩
        · have : k = 0 := by rw [← hlen, h0]; rfl
          exact ⟨none, 0, by rw [h, this]⟩
        · rw [hlen] at h; exact ⟨_, _, h⟩
      have OW := Lib.hid hown
      have H1 := fun (j : Nat) (hj : j ≤ k) h1 h2 => sort_ins (l := l) (k := k) (j := j) hlt K4.out hj h1 h2
      have H1 := Lib.hid H1
      have HX := Lib.hid (rfl : l[k] = l[k])
      clear hsl hown hr HX
      generalize hout : sortS (l.take k) = out at hlen hS OW H1
      have HO := Lib.hid hout
      clear hout
      generalize hx : l[k] = x at d0 d1 d2 r1 r4 HG H1
      clear hx
      obtain ⟨wq, rfl⟩ : ∃ wq : World, wq = wr := ⟨_, rfl⟩
      go_wp2_with fail
      refine (HG.out _).mono ?_
      rintro e w2 ⟨rfl, hB2⟩
      have hB3 := hB.step hB2
      have e0 := hB2.cellv d0
      have e1 := hB2.cellv d1
      have e2 := hB2.cellv d2
      clear d0 d1 d2
      go_wp2_with fail
      go_loopw [9] (fun jv wr => ∃ j : Nat, j ≤ k ∧ jv = .int .i64 j ∧ Bel w2 wr ∧ Hid (∀ i (h : i < out.length), j ≤ i → x.s < out[i].s)) (fun jv _ => (intOf jv).toNat)
      case atStart => exact ⟨k, Nat.le_refl _, rfl, Bel.rfl', fun i h h2 => by omega⟩
      case round =>
        obtain ⟨j, hjk, rfl, hBj, HJ⟩ := hrel
        have hstop : (j = 0 ∨ 0 < j ∧ ∃ h : j - 1 < out.length, out[j - 1].s ≤ x.s) ∨ (0 < j ∧ ∃ h : j - 1 < out.length, x.s < out[j - 1].s) := by
          rcases Nat.eq_zero_or_pos j with h | h
          · exact Or.inl (Or.inl h)
          · have h' : j - 1 < out.length := by omega
            rcases Int.lt_or_le x.s out[j - 1].s with h2 | h2
            · exact Or.inr ⟨h, h', h2⟩
            · exact Or.inl (Or.inr ⟨h, h', h2⟩)
        have f0 := hBj.cellv e0
        have f1 := hBj.cellv e1
        have f2 := hBj.cellv e2
        rcases hstop with hstop | ⟨hj0, hj1, hj2⟩
        · have H3 : Hid (List.take j out ++ x :: List.drop j out = sortS (List.take (k + 1) l)) := by
            refine H1.out j hjk HJ.out (fun h h0 => ?_)
            rcases hstop with h' | ⟨_, _, h'⟩
            · omega
            · exact h'
          have hjk0 : (0 : Int) ≤ (j : Int) := by omega
          have hjk1 : (j : Int) ≤ (k : Int) := by omega
          rcases hS.out with ⟨hnil, ho0⟩ | ⟨g, go, cc, hgg, hcc, hcm, hrow⟩
          · obtain rfl : k = 0 := by rw [← hlen, ho0]; rfl
            obtain rfl : j = 0 := by omega
            injection hnil with e1 _ e3
            subst e1 e3 ho0
            clear hstop hlen H1 HJ hS HO
            simp only [Nat.zero_mul, Nat.add_zero] at f0 f1 f2
            go_wp2_with fail
            go_quiet (fail)
            go_wp2_with fail
            have hBW : Bel wr (wr.drewN nq) := Bel.rfl'.dn nq
            generalize wr.drewN nq = W at hBW
            have g0 := hBW.cellv f0
            have g1 := hBW.cellv f1
            have g2 := hBW.cellv f2
            clear f0 f1 f2 e0 e1 e2 HR HC HS K3 K4 HG x0 x1
            have hWo : wo.heap.size ≤ W.heap.size := by have := hB3.size; have := hBj.size; have := hBW.size; omega
            have hBwo : Bel wo W := (hB3.step hBj).step hBW
            go_region_held3 (fun w' => w'.cell? ⟨b, o, none⟩ = some (.int .i64 x.s) ∧ w'.cell? ⟨b, o + 1, none⟩ = some (.int .i64 x.g) ∧ w'.cell? ⟨b, o + 2, none⟩ = some (.int .i64 x.r))
              (exact ⟨Bel.cellv (by repeat first | assumption | exact Bel.rfl' | apply Bel.dr | apply Bel.al) g0, Bel.cellv (by repeat first | assumption | exact Bel.rfl' | apply Bel.dr | apply Bel.al) g1, Bel.cellv (by repeat first | assumption | exact Bel.rfl' | apply Bel.dr | apply Bel.al) g2⟩)
              (first
                | (refine step_app_none (W := W) (by rfl) _ _ 28 (by rfl) 58 i0 3 Tryz.underlying28 hi _ (by rfl) (by repeat first | assumption | exact Bel.rfl' | apply Bel.dr | apply Bel.al) (by first | exact heap_alloc_new _ _ | exact heap_new_at _ _ (by simp) | (refine (Below.heap_alloc _ _ _ (by first | (simp; done) | (simp; omega))).trans ?_; exact heap_new_at _ _ (by simp))) (by first | omega | (simp; done) | (simp; omega)) (by rfl) ?_; intro v1 w' hown1 hgrow1 hk1 hb1)
                | (refine step_app_one (W := W) (by rfl) _ _ 28 (by rfl) 58 i0 _ 3 24 Tryz.underlying28 hi hz0 hz1 hz2 (by rfl) (by omega) v1 0 _ (by rfl) hb1 (by repeat first | assumption | exact Bel.rfl' | apply Bel.dr | apply Bel.al) hown1 _ #[.int .i64 x.s, .int .i64 x.g, .int .i64 x.r] (by rfl) (by first | exact heap_alloc_new _ _ | exact heap_new_at _ _ (by simp) | exact hk1 _ _ (by omega) (heap_new_at _ _ (by simp)) | exact hk1 _ _ (by omega) ((Below.heap_alloc _ _ _ (by first | (simp; done) | (simp; omega))).trans (heap_new_at _ _ (by simp)))) (by rfl) (by simp [Value.oneCell']) (by unfold maxLen; omega) (by omega) ?_; intro v2 w'' hown2 hb2)
                | fail)
            all_goals
              go_wp2_with (at_builtin; refine wpList_append_own_none rfl _ _ 28 rfl W.heap.size 58 i0 3 Tryz.underlying28 hi v2 (0 + 1) _ rfl hown2 rfl ?_)
              go_roundw
              case rel => exact ⟨1, hlt, by go_num, rfl, hBwo.step hb2, own_base (by rw [← H3.out]; simpa [encLeg] using hown2) hWo⟩
              case measure => simp [intOf]; omega
          obtain ⟨rfl, rfl⟩ : ga = some ⟨g, go, none⟩ ∧ gc = cc := by injection hgg with e1 _ e2; exact ⟨e1, e2⟩
          have hR1 := Lib.hid (hrow.bel encLeg_len (hB2.step hBj))
          have hkc : (k : Int) ≤ (gc : Int) := by omega
          rcases hstop with hj0 | ⟨hj0, hj1, hj2⟩
          · have hJ0b : decide (0 < j) = false := decide_eq_false (by omega)
            clear hj0 hgg hrow
            go_wp2_with fail
            go_quiet (fail)
            go_wp2_with fail
            have hBW : Bel wr (wr.drewN nq) := Bel.rfl'.dn nq
            generalize wr.drewN nq = W at hBW
            have g0 := hBW.cellv f0
            have g1 := hBW.cellv f1
            have g2 := hBW.cellv f2
            clear f0 f1 f2 e0 e1 e2 HJ HR hS HC HS K3 K4 H1 HG x0 x1
            have hWo : wo.heap.size ≤ W.heap.size := by have := hB3.size; have := hBj.size; have := hBW.size; omega
            have hBwo : Bel wo W := (hB3.step hBj).step hBW
            have hR2 := Lib.hid (hR1.out.bel encLeg_len hBW)
            have hjg : (j : Int) ≤ (gc : Int) := by omega
            have hjg' : j ≤ gc := by omega
            have hfl : ((out.take j).flatMap encLeg).length = j * 3 := by rw [flat_len encLeg_len, List.length_take, Nat.min_eq_left (by omega)]
            have hnw := news_row encLeg_len (hR2.out.take j)
            have HFL := Lib.hid hfl
            have HNW := Lib.hid hnw
            have hfd : ((out.drop j).flatMap encLeg).length = (k - j) * 3 := by rw [flat_len encLeg_len, List.length_drop, hlen]
            have hnd := news_row encLeg_len (hR2.out.drop j)
            have HFD := Lib.hid hfd
            have HND := Lib.hid hnd
            clear hfl hnw hfd hnd
            go_region_held3 (fun w' => w'.cell? ⟨b, o + k * 3, none⟩ = some (.int .i64 x.s) ∧ w'.cell? ⟨b, o + k * 3 + 1, none⟩ = some (.int .i64 x.g) ∧ w'.cell? ⟨b, o + k * 3 + 2, none⟩ = some (.int .i64 x.r))
              (exact ⟨Bel.cellv (by repeat first | assumption | exact Bel.rfl' | apply Bel.dr | apply Bel.al) g0, Bel.cellv (by repeat first | assumption | exact Bel.rfl' | apply Bel.dr | apply Bel.al) g1, Bel.cellv (by repeat first | assumption | exact Bel.rfl' | apply Bel.dr | apply Bel.al) g2⟩)
              (first
                | (refine step_app_empty (W := W) (by rfl) _ _ 28 (by rfl) 58 i0 _ 3 24 Tryz.underlying28 hi hz0 hz1 hz2 (by rfl) (by omega) _ (by rfl) (by repeat first | assumption | exact Bel.rfl' | apply Bel.dr | apply Bel.al) (by first | exact heap_alloc_new _ _ | exact heap_new_at _ _ (by simp) | (refine (Below.heap_alloc _ _ _ (by first | (simp; done) | (simp; omega))).trans ?_; exact heap_new_at _ _ (by simp))) (by first | omega | (simp; done) | (simp; omega)) ⟨g, go, none⟩ j gc ((out.take j).flatMap encLeg) (by rfl) HFL.out HNW.out (encLeg_one _) (by unfold maxLen; omega) (by omega) ?_; intro v1 w' hown1 hgrow1 hk1 hb1)
                | (refine step_app_one (W := W) (by rfl) _ _ 28 (by rfl) 58 i0 _ 3 24 Tryz.underlying28 hi hz0 hz1 hz2 (by rfl) (by omega) v1 j _ (by rfl) hb1 (by repeat first | assumption | exact Bel.rfl' | apply Bel.dr | apply Bel.al) hown1 _ #[.int .i64 x.s, .int .i64 x.g, .int .i64 x.r] (by rfl) (by first | exact heap_alloc_new _ _ | exact heap_new_at _ _ (by simp) | exact hk1 _ _ (by omega) (heap_new_at _ _ (by simp)) | exact hk1 _ _ (by omega) ((Below.heap_alloc _ _ _ (by first | (simp; done) | (simp; omega))).trans (heap_new_at _ _ (by simp)))) (by rfl) (by simp [Value.oneCell']) (by unfold maxLen; omega) (by omega) ?_; intro v2 w'' hown2 hb2)
                | fail)
            all_goals
              have HXX := Lib.hid hown2
              by_cases hgc : gc = j
              · obtain rfl : j = k := by omega
                subst hgc
                have hdn : out.drop gc = [] := List.drop_of_length_le (by omega)
                go_wp2_with (at_builtin; refine wpList_append_own_at _ rfl _ _ 28 rfl W.heap.size 58 i0 _ 3 24 Tryz.underlying28 hi hz0 hz1 hz2 rfl (by omega) v2 (gc + 1) _ rfl hown2 ⟨g, go, none⟩ 0 0 [] rfl (by simp) (by simp) (by simp) (by unfold maxLen; omega) (by omega) hb2.size ?_; intro v3 w3 hown3 hgrow3 hiff3 hat3)
                go_roundw
                case rel => exact ⟨gc + 1, hlt, by go_num, rfl, hBwo.step (Below.grown hb2 hgrow3 hb2.size (fun q hq => (hown2.lt q hq).1)), own_base (by rw [← H3.out, hdn, List.flatMap_append, List.flatMap_cons]; simpa [encLeg] using hown3) hWo⟩
                case measure => simp [intOf]; omega
              · have hgcI : ¬ (gc : Int) = (j : Int) := by omega
                have hkj : (k - j) + (j + 1) = k + 1 := by omega
                go_wp2_with (at_builtin; refine wpList_append_own_at _ rfl _ _ 28 rfl W.heap.size 58 i0 _ 3 24 Tryz.underlying28 hi hz0 hz1 hz2 rfl (by omega) v2 (j + 1) _ rfl hown2 ⟨g, go + j * 3, none⟩ (k - j) (gc - j) ((out.drop j).flatMap encLeg) rfl HFD.out (fun jj u hu => hb2.cellv (HND.out jj u hu)) (encLeg_one _) (by unfold maxLen; omega) (by omega) hb2.size ?_; intro v3 w3 hown3 hgrow3 hiff3 hat3)
                go_roundw
                case rel =>
                  rw [show j + 1 + (k - j) = k + 1 by omega] at hown3
                  exact ⟨k + 1, hlt, by go_num, rfl, hBwo.step (Below.grown hb2 hgrow3 hb2.size (fun q hq => (hown2.lt q hq).1)), own_base (by rw [← H3.out, List.flatMap_append, List.flatMap_cons]; simpa [encLeg] using hown3) hWo⟩
                case measure => simp [intOf]; omega
          · obtain ⟨q0, q1, q2⟩ := leg_cells hR1.out hj1
            generalize out[j - 1] = y at q0 q1 q2 hj2
            obtain ⟨jm, hjm⟩ : ∃ jm : Nat, jm = j - 1 := ⟨_, rfl⟩
            rw [← hjm] at q0 q1 q2 hj1
            have hJ1 : (j : Int) - 1 = (jm : Int) := by omega
            have hJ0 : (0 : Int) < (j : Int) := by omega
            have hJ0b : decide (0 < j) = true := decide_eq_true hj0
            have hm1 : (jm : Int) < (k : Int) := by omega
            have hm0 : (0 : Int) ≤ (jm : Int) := by omega
            have hj3 : ¬ x.s < y.s := by omega
            clear hgg hrow hjm hj0
            go_wp2_with fail
            go_quiet (fail)
            go_wp2_with fail
            have hBW : Bel wr (wr.drewN nq) := Bel.rfl'.dn nq
            generalize wr.drewN nq = W at hBW
            have g0 := hBW.cellv f0
            have g1 := hBW.cellv f1
            have g2 := hBW.cellv f2
            clear f0 f1 f2 e0 e1 e2 HJ HR hS HC HS K3 K4 H1 HG x0 x1
            have hWo : wo.heap.size ≤ W.heap.size := by have := hB3.size; have := hBj.size; have := hBW.size; omega
            have hBwo : Bel wo W := (hB3.step hBj).step hBW
            have hR2 := Lib.hid (hR1.out.bel encLeg_len hBW)
            have hjg : (j : Int) ≤ (gc : Int) := by omega
            have hjg' : j ≤ gc := by omega
            have hfl : ((out.take j).flatMap encLeg).length = j * 3 := by rw [flat_len encLeg_len, List.length_take, Nat.min_eq_left (by omega)]
            have hnw := news_row encLeg_len (hR2.out.take j)
            have HFL := Lib.hid hfl
            have HNW := Lib.hid hnw
            have hfd : ((out.drop j).flatMap encLeg).length = (k - j) * 3 := by rw [flat_len encLeg_len, List.length_drop, hlen]
            have hnd := news_row encLeg_len (hR2.out.drop j)
            have HFD := Lib.hid hfd
            have HND := Lib.hid hnd
            clear hfl hnw hfd hnd
            go_region_held3 (fun w' => w'.cell? ⟨b, o + k * 3, none⟩ = some (.int .i64 x.s) ∧ w'.cell? ⟨b, o + k * 3 + 1, none⟩ = some (.int .i64 x.g) ∧ w'.cell? ⟨b, o + k * 3 + 2, none⟩ = some (.int .i64 x.r))
              (exact ⟨Bel.cellv (by repeat first | assumption | exact Bel.rfl' | apply Bel.dr | apply Bel.al) g0, Bel.cellv (by repeat first | assumption | exact Bel.rfl' | apply Bel.dr | apply Bel.al) g1, Bel.cellv (by repeat first | assumption | exact Bel.rfl' | apply Bel.dr | apply Bel.al) g2⟩)
              (first
                | (refine step_app_empty (W := W) (by rfl) _ _ 28 (by rfl) 58 i0 _ 3 24 Tryz.underlying28 hi hz0 hz1 hz2 (by rfl) (by omega) _ (by rfl) (by repeat first | assumption | exact Bel.rfl' | apply Bel.dr | apply Bel.al) (by first | exact heap_alloc_new _ _ | exact heap_new_at _ _ (by simp) | (refine (Below.heap_alloc _ _ _ (by first | (simp; done) | (simp; omega))).trans ?_; exact heap_new_at _ _ (by simp))) (by first | omega | (simp; done) | (simp; omega)) ⟨g, go, none⟩ j gc ((out.take j).flatMap encLeg) (by rfl) HFL.out HNW.out (encLeg_one _) (by unfold maxLen; omega) (by omega) ?_; intro v1 w' hown1 hgrow1 hk1 hb1)
                | (refine step_app_one (W := W) (by rfl) _ _ 28 (by rfl) 58 i0 _ 3 24 Tryz.underlying28 hi hz0 hz1 hz2 (by rfl) (by omega) v1 j _ (by rfl) hb1 (by repeat first | assumption | exact Bel.rfl' | apply Bel.dr | apply Bel.al) hown1 _ #[.int .i64 x.s, .int .i64 x.g, .int .i64 x.r] (by rfl) (by first | exact heap_alloc_new _ _ | exact heap_new_at _ _ (by simp) | exact hk1 _ _ (by omega) (heap_new_at _ _ (by simp)) | exact hk1 _ _ (by omega) ((Below.heap_alloc _ _ _ (by first | (simp; done) | (simp; omega))).trans (heap_new_at _ _ (by simp)))) (by rfl) (by simp [Value.oneCell']) (by unfold maxLen; omega) (by omega) ?_; intro v2 w'' hown2 hb2)
                | fail)
            all_goals
              have HXX := Lib.hid hown2
              by_cases hgc : gc = j
              · obtain rfl : j = k := by omega
                subst hgc
                have hdn : out.drop gc = [] := List.drop_of_length_le (by omega)
                go_wp2_with (at_builtin; refine wpList_append_own_at _ rfl _ _ 28 rfl W.heap.size 58 i0 _ 3 24 Tryz.underlying28 hi hz0 hz1 hz2 rfl (by omega) v2 (gc + 1) _ rfl hown2 ⟨g, go, none⟩ 0 0 [] rfl (by simp) (by simp) (by simp) (by unfold maxLen; omega) (by omega) hb2.size ?_; intro v3 w3 hown3 hgrow3 hiff3 hat3)
                go_roundw
                case rel => exact ⟨gc + 1, hlt, by go_num, rfl, hBwo.step (Below.grown hb2 hgrow3 hb2.size (fun q hq => (hown2.lt q hq).1)), own_base (by rw [← H3.out, hdn, List.flatMap_append, List.flatMap_cons]; simpa [encLeg] using hown3) hWo⟩
                case measure => simp [intOf]; omega
              · have hgcI : ¬ (gc : Int) = (j : Int) := by omega
                have hkj : (k - j) + (j + 1) = k + 1 := by omega
                go_wp2_with (at_builtin; refine wpList_append_own_at _ rfl _ _ 28 rfl W.heap.size 58 i0 _ 3 24 Tryz.underlying28 hi hz0 hz1 hz2 rfl (by omega) v2 (j + 1) _ rfl hown2 ⟨g, go + j * 3, none⟩ (k - j) (gc - j) ((out.drop j).flatMap encLeg) rfl HFD.out (fun jj u hu => hb2.cellv (HND.out jj u hu)) (encLeg_one _) (by unfold maxLen; omega) (by omega) hb2.size ?_; intro v3 w3 hown3 hgrow3 hiff3 hat3)
                go_roundw
                case rel =>
                  rw [show j + 1 + (k - j) = k + 1 by omega] at hown3
                  exact ⟨k + 1, hlt, by go_num, rfl, hBwo.step (Below.grown hb2 hgrow3 hb2.size (fun q hq => (hown2.lt q hq).1)), own_base (by rw [← H3.out, List.flatMap_append, List.flatMap_cons]; simpa [encLeg] using hown3) hWo⟩
                case measure => simp [intOf]; omega
        · obtain ⟨g, go, cc, hgg, _, _, hrow⟩ : ∃ g go cc, Value.slice ga k gc = .slice (some ⟨g, go, none⟩) out.length cc ∧ out.length ≤ cc ∧ cc ≤ maxLen ∧ RowAt encLeg 3 wq g go out := by
            rcases hS.out with ⟨_, h0⟩ | h
            · rw [h0] at hj1; simp at hj1
            · exact h
          obtain ⟨rfl, rfl⟩ : ga = some ⟨g, go, none⟩ ∧ gc = cc := by injection hgg with e1 _ e2; exact ⟨e1, e2⟩
          obtain ⟨q0, q1, q2⟩ := leg_cells (hrow.bel encLeg_len (hB2.step hBj)) hj1
          have HJ2 : Hid (∀ i (h : i < out.length), j - 1 ≤ i → x.s < out[i].s) := by
            intro i h hi
            rcases Nat.lt_or_ge i j with h2 | h2
            · have : i = j - 1 := by omega
              subst this; exact hj2
            · exact HJ.out i h h2
          generalize out[j - 1] = y at q0 q1 q2 hj2
          obtain ⟨jm, hjm⟩ : ∃ jm : Nat, jm = j - 1 := ⟨_, rfl⟩
          rw [← hjm] at q0 q1 q2 hj1 HJ2
          have hJ1 : (j : Int) - 1 = (jm : Int) := by omega
          have hJ0 : (0 : Int) < (j : Int) := by omega
          have hJ0b : decide (0 < j) = true := decide_eq_true hj0
          have hm1 : (jm : Int) < (k : Int) := by omega
          have hm0 : (0 : Int) ≤ (jm : Int) := by omega
          have hmj : jm < j := by omega
          clear hgg hrow hjm hj0
          go_wp2_with fail
          go_quiet (fail)
          go_wp2_with fail
          go_roundw
          case rel => exact ⟨jm, by omega, by go_num, hBj.dn _, HJ2⟩
          case measure => simp [intOf]; omega
    · obtain rfl : k = l.length := by omega
      have hr : ∀ x ∈ sortS l, 1 ≤ x.r ∧ x.r ≤ 4 := fun x hx => (bad_facts (K3.out x ((sortS_perm l).mem_iff.1 hx))).2.2
      have hsl := sortS_len l
      rw [List.take_of_length_le (Nat.le_refl _), ← hsl] at hown
      have hF := own_fresh encLeg_len rfl hown
      have hgb := gcdTo_bd (l := l) (fun x hx => (bad_facts (K3.out x hx)).2.2) l.length (Nat.le_refl _)
      rw [gcdTo_all] at hgb ⊢
      have HDV : Hid (divS l = (sortS l).map (div1 (gcdAll l))) := by
        unfold Hid divS
        rw [gcdAll_sort (fun x hx => (bad_facts (K3.out x hx)).2.2)]
      obtain ⟨_, hg4, hg1⟩ := hgb
      have hg1 := hg1 (by omega)
      rcases hF with ⟨_, h0⟩ | ⟨g, cap', rfl, hcap', hm', hg, hgl, hM⟩
      · rw [h0] at hsl; simp at hsl; omega
      generalize gcdAll l = G at hg4 hg1 HDV ⊢
      have HR2 := Lib.hid hr
      have HG2 : Hid (∀ x ∈ sortS l, x.g = 1 ∨ x.g = -1) := fun x hx => (bad_facts (K3.out x ((sortS_perm l).mem_iff.1 hx))).2.1
      have HM0 := Lib.hid hM
      have HBX := Lib.hid (hbw.step hB)
      have y0 := hB.cellv x0
      have hlw : w1.heap.size < wo.heap.size := lt_of_cell x0
      have y1 := hB.cellv x1
      have hgx : g ≠ w1.heap.size := by have := lt_of_cell x0; simp at this; omega
      have hlo : 2 ≤ (sortS l).length ∧ (sortS l).length ≤ 4 := by omega
      obtain ⟨hlo1, hlo2⟩ := hlo
      have hwg : w.heap.size ≤ g := Nat.le_trans hbo hg
      have hlt1 : w1.heap.size < wr.heap.size := lt_of_cell y0
      have hlt0 : w.heap.size < w1.heap.size := by omega
      have z0 := hB.cellv x2
      have z1 := hB.cellv x3
      have z2 : wr.frozen? ⟨w.heap.size, 0, none⟩ = false := by rw [hB.frozen (p := ⟨w.heap.size, 0, none⟩) (lt_of_cell x2)]; exact x4
      have z3 : wr.frozen? ⟨w.heap.size, 1, none⟩ = false := by rw [hB.frozen (p := ⟨w.heap.size, 1, none⟩) (lt_of_cell x3)]; exact x5
      have hgx2 : g ≠ w.heap.size := by have := lt_of_cell x2; simp at this; omega
      have HSR := Lib.hid (HSW.out.bel encPart_len hB)
      have hpg : Hid (∀ q, (Value.slice pa pn pc).ownBlock = some q → q < wo.heap.size ∨ pn = 0) := fun q hq => by
        rcases HSW.out with ⟨h, _⟩ | ⟨b', o', c', h, _, _, hr'⟩
        · rw [h] at hq; cases hq
        · injection h with h1 h2 h3; exact Or.inr h2
      have HM1 : Hid (MutAt encLeg 3 wr g 0 (mapTo (div1 G) 0 (sortS l))) := by unfold Hid; rw [mapTo_zero]; exact HM0.out
      clear x0 x1 x2 x3 x4 x5 hM hown hr HM0
      generalize hoo : sortS l = oo at HM1 HR2 HG2 HDV hsl hlo1 hlo2 hcap' ⊢
      clear hoo
      have hwo2 := hB.size
      go_wp2_with fail
      obtain ⟨wz, rfl⟩ : ∃ wz : World, wz = wr := ⟨_, rfl⟩
      go_loopw [11] (fun i wr' => ∃ k : Nat, k ≤ oo.length ∧ i = .int .i64 k ∧ Below wo.heap.size wz wr' ∧ g < wr'.heap.size ∧ Hid (MutAt encLeg 3 wr' g 0 (mapTo (div1 G) k oo))) (fun i _ => oo.length - (intOf i).toNat)
      case atStart => exact ⟨0, by omega, rfl, Below.refl _ _, hgl, HM1.out⟩
      case round =>
        obtain ⟨k, hk, rfl, hB', hgl', HM⟩ := hrel
        by_cases hlk : k < oo.length
        · have hlk' : k < (mapTo (div1 G) k oo).length := by rw [mapTo_len]; exact hlk
          obtain ⟨d0, d1, d2⟩ := leg_cells0 HM.out.1 hlk'
          obtain ⟨f0, f1, f2⟩ := leg_froz0 HM.out hlk'
          have hx : (mapTo (div1 G) k oo)[k] = oo[k] := mapTo_get hlk
          rw [hx] at d0 d1 d2
          have HS2 := Lib.hid (leg_set0 HM.out hlk' (c := 2) (by omega) (u := .int .i64 (oo[k].r / G)) (y := div1 G oo[k]) (by rw [hx]; rfl))
          rw [mapTo_set hlk] at HS2
          obtain ⟨r1, r4⟩ := HR2.out oo[k] (List.getElem_mem hlk)
          clear hx hlk'
          generalize oo[k] = x at d0 d1 d2 HS2 r1 r4
          go_wp2
          go_roundw
          case rel => exact ⟨k + 1, hlk, by go_num, hB'.setCell hg _, by simp [World.setCell]; exact hgl', HS2.out⟩
          case measure => simp [intOf]; omega
        · obtain rfl : k = oo.length := by omega
          have hM := HM.out
          rw [mapTo_all, ← HDV.out] at hM
          have hdl : (divS l).length = oo.length := by rw [HDV.out]; simp
          obtain ⟨y, ys, hy⟩ : ∃ y ys, divS l = y :: ys := by
            cases hq : divS l with
            | nil => rw [hq] at hdl; simp at hdl; omega
            | cons y ys => exact ⟨y, ys, rfl⟩
          have hd0 := leg_cells0 hM.1 (i := 0) (by omega)
          obtain ⟨d0, d1, d2⟩ := hd0
          simp only [hy, List.getElem_cons_zero, Nat.zero_mul, Nat.zero_add] at d0 d1 d2
          have hyg0 : y.g = 1 ∨ y.g = -1 := by
            have hm : y ∈ oo.map (div1 G) := by rw [← HDV.out, hy]; simp
            obtain ⟨x, hx, rfl⟩ := List.mem_map.1 hm
            exact HG2.out x hx
          have hF : Fresh encLeg 3 w.heap.size wr (.slice (some ⟨g, 0, none⟩) oo.length cap') (divS l) := Or.inr ⟨g, cap', by rw [hdl], by omega, hm', by omega, hgl', hM⟩
          have hcan : canonS l = if (y.g == 1) = true then (divS l, false) else (turnS (divS l), true) := by unfold canonS; rw [hy]; rfl
          have u0 : wr.cell? ⟨w1.heap.size, 0, none⟩ = some (.slice pa pn pc) := (hB'.cell (p := ⟨w1.heap.size, 0, none⟩) (by simp; omega)).trans y0
          have u1 : wr.cell? ⟨w1.heap.size, 1, none⟩ = some (.int .i64 0) := (hB'.cell (p := ⟨w1.heap.size, 1, none⟩) (by simp; omega)).trans y1
          have v0 : wr.cell? ⟨w.heap.size, 0, none⟩ = some (.slice none 0 0) := (hB'.cell (p := ⟨w.heap.size, 0, none⟩) (by simp; omega)).trans z0
          have v1 : wr.cell? ⟨w.heap.size, 1, none⟩ = some (.int .i64 0) := (hB'.cell (p := ⟨w.heap.size, 1, none⟩) (by simp; omega)).trans z1
          have v2 : wr.frozen? ⟨w.heap.size, 0, none⟩ = false := by rw [hB'.frozen (p := ⟨w.heap.size, 0, none⟩) (by simp; omega)]; exact z2
          have v3 : wr.frozen? ⟨w.heap.size, 1, none⟩ = false := by rw [hB'.frozen (p := ⟨w.heap.size, 1, none⟩) (by simp; omega)]; exact z3
          have hBw : Bel w wr := HBX.out.trans (hB'.mono hbo)
          have hsr : Sl encPart 2 wr (.slice pa pn pc) [] := by
            rcases HSR.out with ⟨h, h'⟩ | ⟨b', o', c', h, h2, h3, h4⟩
            · exact Or.inl ⟨h, h'⟩
            · exact Or.inr ⟨b', o', c', h, h2, h3, RowAt.nil⟩
          have HSN := Lib.hid hsr
          clear y0 y1 z0 z1 z2 z3 HSR HM1 HM hsr
          cases hq : (y.g == 1)
          · rw [hq] at hcan
            have HCAN := Lib.hid hcan
            have HRW := Lib.hid hM.1
            have hdl4 : (divS l).length ≤ 1000000 := by omega
            have HT := Lib.hid (fun W (hW : RowAt encLeg 3 W g 0 (divS l)) => ref_Turned (.slice (some ⟨g, 0, none⟩) l.length cap') (divS l) W (Or.inr ⟨g, 0, cap', by rw [hdl, hsl], by omega, hm', hW⟩) hdl4)
            clear hcan hF hM hy hdl HDV
            generalize divS l = dv at HT HCAN HRW
            have hyg : y.g < 0 := by
              rcases hyg0 with h | h
              · rw [h] at hq; cases hq
              · omega
            clear hyg0 hq
            go_wp2_with fail
            go_region_with (go_at_call 17; (with_reducible refine Calls.mono (HT.out _ ?_) ?_); (· exact HRW.out.bel encLeg_len (by first | exact Bel.rfl' | exact Bel.rfl'.dr | exact Bel.rfl'.dr.dr | exact Bel.rfl'.dr.dr.dr | exact Bel.rfl'.dn _)); rintro e w' ⟨v', rfl, hf, hb⟩; have c0 := hb.cellv u0; have c1 := hb.cellv u1; have c2 := hb.cellv v0; have c3 := hb.cellv v1; have c4 := (hb.frozen (p := ⟨w.heap.size, 0, none⟩) (lt_of_cell v0)).trans v2; have c5 := (hb.frozen (p := ⟨w.heap.size, 1, none⟩) (lt_of_cell v1)).trans v3)
            all_goals
              go_wp2_with fail
              have hbb : Bel w w' := by first | exact (hBw.dr).step hb | exact (hBw.dr.dr).step hb | exact (hBw.dn _).step hb | exact hBw.step hb
              refine bodyPost_ret (v := .tuple #[v', .bool true, .agg #[.slice pa pn pc, .int .i64 0]]) (by simp [results, Tryz.results9, go_sem, c2, c3, c4, c5]) rfl ⟨v', _, by rw [HCAN.out]; rfl, ?_, ?_, ?_⟩
              · rw [HCAN.out]
                have hwz' : w.heap.size < wr.heap.size := by omega
                exact ((hf.mono (show w.heap.size + 1 ≤ _ from hwz')).set (by omega) _).set (by omega) _ |>.mono (by omega)
              · exact WrAt.nil0 HSN.out.nil_any
              · exact (hbb.st (Nat.le_refl _) _).st (Nat.le_refl _) _
          · rw [hq] at hcan
            have HCAN := Lib.hid hcan
            have HF := Lib.hid hF
            clear hcan hF hM hy hdl HDV
            generalize divS l = dv at HF HCAN
            have hyg : ¬ y.g < 0 := by have : y.g = 1 := by simpa using hq
                                       omega
            go_wp2_with fail
            clear hyg0 hq
            go_region
            go_wp2_with fail
            refine bodyPost_ret (v := .tuple #[.slice (some ⟨g, 0, none⟩) l.length cap', .bool false, .agg #[.slice pa pn pc, .int .i64 0]]) (by simp [results, Tryz.results9, go_sem, v0, v1, v2, v3]) rfl ⟨_, _, by rw [HCAN.out]; rfl, ?_, ?_, ?_⟩
            · rw [HCAN.out]
              have hF' := HF.out
              rw [hsl] at hF'
              rcases hF' with ⟨h, _⟩ | ⟨g', cap2, h1, h2, h3, h4, h5, h6⟩
              · cases h
              · injection h1 with e1 e2 e3
                have e1 : g = g' := by injection e1 with e1; injection e1
                subst e1
                exact Or.inr ⟨g, cap2, by rw [e2, e3]; simp, h2, h3, h4, by simpa [World.setCell] using h5, (h6.1.setOther hgx2 _).setOther hgx2 _, fun i hi j hj => by rw [show ∀ W : World, W.drew.frozen? = W.frozen? from fun _ => rfl, frozen_set, frozen_set]; exact h6.2 i hi j hj⟩
            · exact WrAt.nil0 HSN.out.nil_any
            · exact ((hBw.st (Nat.le_refl _) _).st (Nat.le_refl _) _).dr
end Go.Proofs.YtdigfjpknckpfaaGreatDoor
