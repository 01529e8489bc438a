/- Numbers and legs as texts: their contracts. Condition: int64 numbers; the table of powers of ten as its initialiser lays it, or numbers below a hundred. -/
import Derived.Test.YtdigfjpknckpfaaGreatDoorLegG
import Derived.Test.YtdigfjpknckpfaaGreatDoorTxt
import Derived.Deep.AppendLies
namespace Go.Proofs.YtdigfjpknckpfaaGreatDoor
set_option linter.unusedSimpArgs false
set_option linter.unusedVariables false
open Go.RowKit Go.Sort

def legT (x : Leg) : List UInt8 := (if x.g < 0 then [45] else [43]) ++ Lib.itoa x.r ++ [42] ++ Lib.itoa x.s
def textS (l : List Leg) : List UInt8 := Lib.join (l.map legT) [32]

set_option maxRecDepth 100000 in
set_option maxHeartbeats 1000000 in
theorem legs_Text (v : Value) (l : List Leg) (w : World) (h : SlLeg w v l) (hn : l.length ≤ 1000000) (ht : ∀ x ∈ l, Tells w x.r ∧ Tells w x.s) :
    Calls Tryz.prog 14 #[v] w fun e w' => e = .returned (.string ⟨(textS l).toArray⟩) ∧ Bel w w' := by
  have hinfo : (Tryz.prog.info? 9).map (fun i => (i.zero, i.size, i.bytes)) = some (some (.string ByteArray.empty), 1, 16) := by kernel_rfl
  obtain ⟨i0, hi, hz0, hz1, hz2⟩ := info_parts hinfo
  have hv : ∃ a c, v = .slice a l.length c := by
    rcases h with ⟨rfl, rfl⟩ | ⟨b, o, c, rfl, _⟩
    · exact ⟨_, _, rfl⟩
    · exact ⟨_, _, rfl⟩
  have HT := Lib.hid ht
  have HS := Lib.hid h
  clear ht h
  obtain ⟨a0, c0, rfl⟩ := hv
  go_enter Tryz.func14, Tryz.ntmps14
  go_wp2_with fail
  go_loopw [3, 9] (fun ov i wr => ∃ k : Nat, k ≤ l.length ∧ i = .int .i64 k ∧ Bel w wr ∧ wr.ownsRow w.heap.size 9 1 ov k (((l.take k).map legT).flatMap encS)) (fun _ i _ => l.length - (intOf i).toNat)
  case atStart => exact ⟨0, by omega, rfl, Bel.rfl', World.ownsRow_nil _ _ _ _⟩
  case round =>
    obtain ⟨k, hk, rfl, hB, hown⟩ := hrel
    by_cases hlt : k < l.length
    · have hsl := HS.out.bel encLeg_len hB
      rcases hsl with ⟨_, rfl⟩ | ⟨b, o, cap, he, hcap, hm, hc⟩
      · simp at hlt
      obtain ⟨rfl, rfl⟩ : a0 = some ⟨b, o, none⟩ ∧ c0 = cap := by
        injection he with e1 _ e2
        exact ⟨e1, e2⟩
      clear he
      obtain ⟨d0, d1, d2⟩ := leg_cells hc hlt
      obtain ⟨t1, t2⟩ := HT.out l[k] (List.getElem_mem hlt)
      have T1 := Lib.hid (t1.bel hB)
      have T2 := Lib.hid (t2.bel hB)
      have HX : Hid (((l.take (k + 1)).map legT).flatMap encS = ((l.take k).map legT).flatMap encS ++ encS (legT l[k])) := by
        unfold Hid; rw [List.take_succ_eq_append_getElem hlt, List.map_append, List.flatMap_append]; simp
      clear t1 t2 hc
      generalize l[k] = x at d0 d1 d2 T1 T2 HX
      generalize ((l.take k).map legT).flatMap encS = xs at hown HX
      have H1 := (fun W (hW : Bel wr W) => num_Text x.r W (T1.out.bel hW))
      have H2 := (fun W (hW : Bel wr W) => num_Text x.s W (T2.out.bel hW))
      have q1 := T1.out.len
      have q2 := T2.out.len
      unfold legT at HX
      generalize Lib.itoa x.r = tr at H1 q1 HX
      generalize Lib.itoa x.s = ts at H2 q2 HX
      have H1 := Lib.hid H1
      have H2 := Lib.hid H2
      have OW := Lib.hid hown
      clear hown
      by_cases hs : x.g < 0
      · have A1 := fun (W : World) => str_add Tryz.prog W [45] tr (by decide) (by omega)
        have A2 := fun (W : World) => str_add Tryz.prog W ([45] ++ tr) [42] (by simp; omega) (by decide)
        have A3 := fun (W : World) => str_add Tryz.prog W ([45] ++ tr ++ [42]) ts (by simp; omega) (by omega)
        have HX2 : Hid (((l.take (k + 1)).map legT).flatMap encS = xs ++ [.string ⟨([45] ++ tr ++ [42] ++ ts).toArray⟩]) := by
          unfold Hid; have := HX.out; rw [if_pos hs] at this; exact this
        obtain ⟨z1, hu1⟩ : ∃ u, u = (⟨([45] ++ tr).toArray⟩ : ByteArray) := ⟨_, rfl⟩
        rw [← hu1] at A1 A2
        obtain ⟨z2, hu2⟩ : ∃ u, u = (⟨([45] ++ tr ++ [42]).toArray⟩ : ByteArray) := ⟨_, rfl⟩
        rw [← hu2] at A2 A3
        obtain ⟨z3, hu3⟩ : ∃ u, u = (⟨([45] ++ tr ++ [42] ++ ts).toArray⟩ : ByteArray) := ⟨_, rfl⟩
        rw [← hu3] at A3 HX2
        clear hu1 hu2 hu3 q1 q2 HX
        have y0 := hB.size
        have hne : u3.ownBlock ≠ some wr.heap.size := fun h => by have := (OW.out.lt _ h).2; omega
        go_wp2_with fail
        go_region_held3 (fun w' => w'.cell? ⟨wr.heap.size, 0, none⟩ = some (.int .i64 x.s) ∧ w'.cell? ⟨wr.heap.size, 2, none⟩ = some (.int .i64 x.r))
          (first | go_keep | (go_split_ands; exact ⟨(hgrow.cell_far _ (by have e1 := hb.size; have e2 := hb2.size; simp at e1 ⊢; omega) (Ne.symm hne)).trans (by assumption), (hgrow.cell_far _ (by have e1 := hb.size; have e2 := hb2.size; simp at e1 ⊢; omega) (Ne.symm hne)).trans (by assumption)⟩) | (go_split_ands; exact ⟨hb2.cellv (by assumption), hb2.cellv (by assumption)⟩) | (go_split_ands; exact ⟨hb.cellv (by assumption), hb.cellv (by assumption)⟩))
          (first | (go_at_call 42; (with_reducible refine (H1.out _ ((Bel.rfl'.al _).dr)).mono ?_); rintro e w' ⟨rfl, hb⟩) | (go_at_call 42; (with_reducible refine (H2.out _ (((Bel.rfl'.al _).dr).step hb)).mono ?_); rintro e w'' ⟨rfl, hb2⟩) | ((refine step_append_lies _ (by rfl) _ _ _ (by rfl) w.heap.size 9 i0 _ 1 16 Tryz.underlying85 hi hz0 hz1 hz2 rfl (by omega) u3 k xs (by rfl) ((hb2.own (hb.own ((OW.out.alloc _).drew))).alloc _) ⟨w''.heap.size, 0, none⟩ 1 1 [.string z3] (by rfl) (by rfl) (World.news_of_block (cs := #[.string z3]) (t := 9) (fr := (0, 0)) (heap_alloc_new w'' _)) (by simp [Value.oneCell']) (by omega) (by unfold maxLen; omega) (by omega) (by have e1 := hb.size; have e2 := hb2.size; simp at e1 ⊢; omega) (w''.heap.size + 1) (by simp) ?_; intro gg cap w1 hown1 hgrow hat hlt)))
        all_goals
          have HB1 : Bel w w1 := Below.grown ((((hB.al _).dr.step hb).step hb2).al _) hgrow (by have e1 := hb.size; have e2 := hb2.size; simp at e1 ⊢; omega) (fun q h => (OW.out.lt q h).1)
          go_wp2
          go_roundw
          case rel => exact ⟨k + 1, by omega, by go_num, HB1, by rw [HX2.out]; exact hown1⟩
          case measure => simp [intOf]; omega
      · have A1 := fun (W : World) => str_add Tryz.prog W [43] tr (by decide) (by omega)
        have A2 := fun (W : World) => str_add Tryz.prog W ([43] ++ tr) [42] (by simp; omega) (by decide)
        have A3 := fun (W : World) => str_add Tryz.prog W ([43] ++ tr ++ [42]) ts (by simp; omega) (by omega)
        have HX2 : Hid (((l.take (k + 1)).map legT).flatMap encS = xs ++ [.string ⟨([43] ++ tr ++ [42] ++ ts).toArray⟩]) := by
          unfold Hid; have := HX.out; rw [if_neg hs] at this; exact this
        obtain ⟨z1, hu1⟩ : ∃ u, u = (⟨([43] ++ tr).toArray⟩ : ByteArray) := ⟨_, rfl⟩
        rw [← hu1] at A1 A2
        obtain ⟨z2, hu2⟩ : ∃ u, u = (⟨([43] ++ tr ++ [42]).toArray⟩ : ByteArray) := ⟨_, rfl⟩
        rw [← hu2] at A2 A3
        obtain ⟨z3, hu3⟩ : ∃ u, u = (⟨([43] ++ tr ++ [42] ++ ts).toArray⟩ : ByteArray) := ⟨_, rfl⟩
        rw [← hu3] at A3 HX2
        clear hu1 hu2 hu3 q1 q2 HX
        have y0 := hB.size
        have hne : u3.ownBlock ≠ some wr.heap.size := fun h => by have := (OW.out.lt _ h).2; omega
        go_wp2_with fail
        go_region_held3 (fun w' => w'.cell? ⟨wr.heap.size, 0, none⟩ = some (.int .i64 x.s) ∧ w'.cell? ⟨wr.heap.size, 2, none⟩ = some (.int .i64 x.r))
          (first | go_keep | (go_split_ands; exact ⟨(hgrow.cell_far _ (by have e1 := hb.size; have e2 := hb2.size; simp at e1 ⊢; omega) (Ne.symm hne)).trans (by assumption), (hgrow.cell_far _ (by have e1 := hb.size; have e2 := hb2.size; simp at e1 ⊢; omega) (Ne.symm hne)).trans (by assumption)⟩) | (go_split_ands; exact ⟨hb2.cellv (by assumption), hb2.cellv (by assumption)⟩) | (go_split_ands; exact ⟨hb.cellv (by assumption), hb.cellv (by assumption)⟩))
          (first | (go_at_call 42; (with_reducible refine (H1.out _ ((Bel.rfl'.al _).dr)).mono ?_); rintro e w' ⟨rfl, hb⟩) | (go_at_call 42; (with_reducible refine (H2.out _ (((Bel.rfl'.al _).dr).step hb)).mono ?_); rintro e w'' ⟨rfl, hb2⟩) | ((refine step_append_lies _ (by rfl) _ _ _ (by rfl) w.heap.size 9 i0 _ 1 16 Tryz.underlying85 hi hz0 hz1 hz2 rfl (by omega) u3 k xs (by rfl) ((hb2.own (hb.own ((OW.out.alloc _).drew))).alloc _) ⟨w''.heap.size, 0, none⟩ 1 1 [.string z3] (by rfl) (by rfl) (World.news_of_block (cs := #[.string z3]) (t := 9) (fr := (0, 0)) (heap_alloc_new w'' _)) (by simp [Value.oneCell']) (by omega) (by unfold maxLen; omega) (by omega) (by have e1 := hb.size; have e2 := hb2.size; simp at e1 ⊢; omega) (w''.heap.size + 1) (by simp) ?_; intro gg cap w1 hown1 hgrow hat hlt)))
        all_goals
          have HB1 : Bel w w1 := Below.grown ((((hB.al _).dr.step hb).step hb2).al _) hgrow (by have e1 := hb.size; have e2 := hb2.size; simp at e1 ⊢; omega) (fun q h => (OW.out.lt q h).1)
          go_wp2
          go_roundw
          case rel => exact ⟨k + 1, by omega, by go_num, HB1, by rw [HX2.out]; exact hown1⟩
          case measure => simp [intOf]; omega
    · obtain rfl : k = l.length := by omega
      rw [List.take_of_length_le (Nat.le_refl _)] at hown
      have hlen : ∀ x ∈ l, (legT x).length ≤ 44 := fun x hx => by
        have h1 := (HT.out x hx).1.len
        have h2 := (HT.out x hx).2.len
        unfold legT
        split <;> simp <;> omega
      have hjl := join_len 44 (l.map legT) [32] (by intro y hy; obtain ⟨x, hx, rfl⟩ := List.mem_map.1 hy; exact hlen x hx)
      rcases hown.2 with ⟨rfl, h0⟩ | ⟨g, cap, cur, rfl, hg, hh, h1, h2, h3, h4⟩
      · have hl0 : l = [] := List.length_eq_zero_iff.1 h0
        have E : Hid (textS l = []) := by unfold Hid textS; rw [hl0]; rfl
        have HJ := Lib.hid (fun W => Tryz.strings_Join_none none 0 ⟨#[32]⟩ W)
        clear hown hl0 hjl hlen
        go_wp2_with (go_at_call 43; refine (HJ.out _).mono ?_; rintro e w' ⟨rfl, rfl⟩)
        go_ret
        exact ⟨by rw [E.out]; rfl, hB⟩
      · have hj := Tryz.strings_Join g 0 cap (l.map fun x => ⟨(legT x).toArray⟩) ⟨#[32]⟩ wr (by
            intro j y hy
            rw [List.getElem?_map] at hy
            have hj : j < l.length := by
              rcases Nat.lt_or_ge j l.length with h | h
              · exact h
              · rw [List.getElem?_eq_none h] at hy; cases hy
            rw [List.getElem?_eq_getElem hj] at hy
            obtain rfl := Option.some.inj hy
            have := (own_row (enc := encS) (l := l.map legT) (fun _ => rfl) rfl (by simpa using hown)).1 j (by simpa using hj) 0 (Nat.lt_succ_self 0)
            simpa [encS] using this) (by
            rcases Nat.lt_or_ge g wr.heap.size with h | h
            · exact h
            · rw [Array.getElem?_eq_none h] at hh; cases hh) (by simp; omega) (by simpa using h1) (by
            rw [List.map_map]
            show (Lib.join (l.map legT) [32]).length ≤ _
            simp at hjl; omega)
        rw [List.map_map] at hj
        have e1 : (l.map ((fun x : ByteArray => x.data.toList) ∘ fun x => ⟨(legT x).toArray⟩)) = l.map legT := List.map_congr_left (fun x _ => by simp)
        rw [e1] at hj
        simp only [List.length_map] at hj
        have E : Hid (textS l = Lib.join (l.map legT) [32]) := rfl
        have HJ := Lib.hid hj
        clear hown hj hjl hlen e1
        generalize Lib.join (l.map legT) [32] = tx at HJ E
        go_wp2_with (go_at_call 43; refine HJ.out.mono ?_; rintro e w' ⟨rfl, hb⟩)
        go_ret
        exact ⟨by rw [E.out]; rfl, hB.step hb⟩
end Go.Proofs.YtdigfjpknckpfaaGreatDoor
