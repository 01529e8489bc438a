/- The reference's legs as a text: its contract. Condition: the slice reads as a list of legs, int64 numbers. -/
import Derived.Test.YtdigfjpknckpfaaGreatDoorRefLegD
import Derived.Test.YtdigfjpknckpfaaGreatDoorLegH
import Derived.Test.YtdigfjpknckpfaaGreatDoorRefText
namespace Go.Proofs.YtdigfjpknckpfaaGreatDoor
set_option linter.unusedSimpArgs false
set_option linter.unusedVariables false
open Go.RowKit

theorem join_snoc (xs : List (List UInt8)) (x sep : List UInt8) : Lib.join (xs ++ [x]) sep = if xs = [] then x else Lib.join xs sep ++ sep ++ x := by
  unfold Lib.join
  induction xs with
  | nil => simp [List.intercalate]
  | cons y t ih =>
    rw [if_neg (by simp)]
    cases t with
    | nil => simp [List.intercalate]
    | cons z t =>
      rw [if_neg (by simp)] at ih
      simp only [List.intercalate, List.cons_append, List.intersperse_cons_cons, List.flatten_cons, List.append_assoc] at ih ⊢
      rw [ih]
theorem textS_snoc (l : List Leg) (x : Leg) : textS (l ++ [x]) = if l = [] then legT x else textS l ++ [32] ++ legT x := by
  unfold textS
  rw [List.map_append, List.map_cons, List.map_nil, join_snoc]
  cases l <;> simp
theorem legT_len {x : Leg} (h : I64 x.r) (h2 : I64 x.s) : (legT x).length ≤ 44 := by
  have h1 := Lib.itoa_length_le _ h.1 h.2
  have h2 := Lib.itoa_length_le _ h2.1 h2.2
  unfold legT
  split <;> simp <;> omega
theorem textS_len {l : List Leg} (h : ∀ x ∈ l, I64 x.r ∧ I64 x.s) : (textS l).length ≤ l.length * 45 := by
  have := join_len 44 (l.map legT) [32] (by intro y hy; obtain ⟨x, hx, rfl⟩ := List.mem_map.1 hy; exact legT_len (h x hx).1 (h x hx).2)
  unfold textS
  simpa using this

set_option maxRecDepth 100000 in
set_option maxHeartbeats 4000000 in
theorem ref_LegText (v : Value) (l : List Leg) (w : World) (h : SlLeg w v l) (hn : l.length ≤ 1000) (ht : ∀ x ∈ l, I64 x.r ∧ I64 x.s) :
    Calls Tryz.prog 15 #[v] w fun e w' => e = .returned (.string ⟨(textS l).toArray⟩) ∧ Bel w w' := by
  obtain ⟨a0, c0, rfl⟩ : ∃ a c, v = .slice a l.length c := by
    rcases h with ⟨rfl, rfl⟩ | ⟨b, o, c, rfl, _⟩
    · exact ⟨_, _, rfl⟩
    · exact ⟨_, _, rfl⟩
  have HS := Lib.hid h
  have HT := Lib.hid ht
  clear h ht
  go_enter Tryz.func15, Tryz.ntmps15
  go_wp2_with fail
  go_loopw [3, 4] (fun sv i wr => ∃ k : Nat, k ≤ l.length ∧ i = .int .i64 k ∧ sv = .string ⟨(textS (l.take k)).toArray⟩ ∧ Bel w wr) (fun _ i _ => l.length - (intOf i).toNat)
  case atStart => exact ⟨0, by omega, rfl, rfl, Bel.rfl'⟩
  case round =>
    obtain ⟨k, hk, rfl, rfl, hB⟩ := hrel
    by_cases hlt : k < l.length
    · rcases HS.out.bel encLeg_len hB with ⟨h, _⟩ | ⟨b, o, cc1, h, _, _, r1⟩
      · simp only [Value.slice.injEq] at h; omega
      obtain ⟨rfl, rfl⟩ : a0 = some ⟨b, o, none⟩ ∧ c0 = cc1 := by injection h with e1 _ e2; exact ⟨e1, e2⟩
      obtain ⟨d0, d1, d2⟩ := leg_cells r1 hlt
      obtain ⟨t1, t2⟩ := HT.out l[k] (List.getElem_mem hlt)
      have HX := textS_snoc (l.take k) l[k]
      rw [← List.take_succ_eq_append_getElem hlt] at HX
      have hl0 : (l.take k = []) = (k = 0) := by
        rw [eq_iff_iff, List.take_eq_nil_iff]
        constructor
        · rintro (h | h)
          · exact h
          · rw [h] at hlt; simp at hlt
        · exact Or.inl
      simp only [hl0] at HX
      have hsl := textS_len (l := l.take k) (fun x hx => HT.out x (List.mem_of_mem_take hx))
      have hkl : (l.take k).length ≤ 1000 := by simp; omega
      clear h r1
      have hs0 : k = 0 → textS (l.take k) = [] := by rintro rfl; rfl
      generalize textS (l.take k) = s at HX hsl hs0 ⊢
      have G1 := fun W => ref_Text l[k].r W t1
      have G2 := fun W => ref_Text l[k].s W t2
      have q1 := Lib.itoa_length_le _ t1.1 t1.2
      have q2 := Lib.itoa_length_le _ t2.1 t2.2
      clear t1 t2
      generalize l[k] = x at d0 d1 d2 HX G1 G2 q1 q2
      unfold legT at HX
      generalize Lib.itoa x.r = tr at HX G1 q1
      generalize Lib.itoa x.s = ts at HX G2 q2
      have G1 := Lib.hid G1
      have G2 := Lib.hid G2
      have hki : (0 : Int) ≤ (k : Int) := by omega
      have hki2 : (k : Int) < (l.length : Int) := by omega
      by_cases hk0 : k = 0
      · by_cases hs : x.g < 0
        · have E : Hid (textS (l.take (k + 1)) = s ++ [45] ++ tr ++ [42] ++ ts) := by
            unfold Hid; rw [HX, if_pos hk0, if_pos hs, hs0 hk0]; simp
          have A1 := fun (W : World) => str_add Tryz.prog W s [45] (by first | omega | (simp; omega)) (by decide)
          have A2 := fun (W : World) => str_add Tryz.prog W (s ++ [45]) tr (by first | omega | (simp; omega)) (by omega)
          have A3 := fun (W : World) => str_add Tryz.prog W (s ++ [45] ++ tr) [42] (by first | omega | (simp; omega)) (by decide)
          have A4 := fun (W : World) => str_add Tryz.prog W (s ++ [45] ++ tr ++ [42]) ts (by first | omega | (simp; omega)) (by omega)
          obtain ⟨z0, hu0⟩ : ∃ u, u = (⟨s.toArray⟩ : ByteArray) := ⟨_, rfl⟩
          rw [← hu0] at A1 ⊢
          obtain ⟨z1, hu1⟩ : ∃ u, u = (⟨(s ++ [45]).toArray⟩ : ByteArray) := ⟨_, rfl⟩
          rw [← hu1] at A1 A2
          obtain ⟨z2, hu2⟩ : ∃ u, u = (⟨(s ++ [45] ++ tr).toArray⟩ : ByteArray) := ⟨_, rfl⟩
          rw [← hu2] at A2 A3
          obtain ⟨z3, hu3⟩ : ∃ u, u = (⟨(s ++ [45] ++ tr ++ [42]).toArray⟩ : ByteArray) := ⟨_, rfl⟩
          rw [← hu3] at A3 A4
          obtain ⟨z4, hu4⟩ : ∃ u, u = (⟨(s ++ [45] ++ tr ++ [42] ++ ts).toArray⟩ : ByteArray) := ⟨_, rfl⟩
          rw [← hu4] at A4
          have E4 : Hid (z4 = ⟨(textS (l.take (k + 1))).toArray⟩) := by unfold Hid; rw [hu4, E.out]
          clear hs0 hu0 hu1 hu2 hu3 hu4 q1 q2 HX hsl E
          have hkk : ¬ (0 : Int) < (k : Int) := by omega
          clear hk0 hl0
          go_wp2_with fail
          go_region_held3 (fun w' => w'.cell? ⟨b, o + k * 3, none⟩ = some (.int .i64 x.s) ∧ w'.cell? ⟨b, o + k * 3 + 2, none⟩ = some (.int .i64 x.r))
            (first | go_keep | (go_split_ands; exact ⟨hb2.cellv (by assumption), hb2.cellv (by assumption)⟩) | (go_split_ands; exact ⟨hb1.cellv (by assumption), hb1.cellv (by assumption)⟩))
            (first | (go_at_call 44; (with_reducible refine (G1.out _).mono ?_); rintro e w1 ⟨rfl, hb1⟩) | (go_at_call 44; (with_reducible refine (G2.out _).mono ?_); rintro e w2 ⟨rfl, hb2⟩))
          all_goals
            go_wp2_with fail
            go_roundw
            case rel => exact ⟨k + 1, by omega, by go_num, by rw [E4.out], ((hB.dr).step hb1).step hb2⟩
            case measure => simp [intOf]; omega
        · have E : Hid (textS (l.take (k + 1)) = s ++ [43] ++ tr ++ [42] ++ ts) := by
            unfold Hid; rw [HX, if_pos hk0, if_neg hs, hs0 hk0]; simp
          have A1 := fun (W : World) => str_add Tryz.prog W s [43] (by first | omega | (simp; omega)) (by decide)
          have A2 := fun (W : World) => str_add Tryz.prog W (s ++ [43]) tr (by first | omega | (simp; omega)) (by omega)
          have A3 := fun (W : World) => str_add Tryz.prog W (s ++ [43] ++ tr) [42] (by first | omega | (simp; omega)) (by decide)
          have A4 := fun (W : World) => str_add Tryz.prog W (s ++ [43] ++ tr ++ [42]) ts (by first | omega | (simp; omega)) (by omega)
          obtain ⟨z0, hu0⟩ : ∃ u, u = (⟨s.toArray⟩ : ByteArray) := ⟨_, rfl⟩
          rw [← hu0] at A1 ⊢
          obtain ⟨z1, hu1⟩ : ∃ u, u = (⟨(s ++ [43]).toArray⟩ : ByteArray) := ⟨_, rfl⟩
          rw [← hu1] at A1 A2
          obtain ⟨z2, hu2⟩ : ∃ u, u = (⟨(s ++ [43] ++ tr).toArray⟩ : ByteArray) := ⟨_, rfl⟩
          rw [← hu2] at A2 A3
          obtain ⟨z3, hu3⟩ : ∃ u, u = (⟨(s ++ [43] ++ tr ++ [42]).toArray⟩ : ByteArray) := ⟨_, rfl⟩
          rw [← hu3] at A3 A4
          obtain ⟨z4, hu4⟩ : ∃ u, u = (⟨(s ++ [43] ++ tr ++ [42] ++ ts).toArray⟩ : ByteArray) := ⟨_, rfl⟩
          rw [← hu4] at A4
          have E4 : Hid (z4 = ⟨(textS (l.take (k + 1))).toArray⟩) := by unfold Hid; rw [hu4, E.out]
          clear hs0 hu0 hu1 hu2 hu3 hu4 q1 q2 HX hsl E
          have hkk : ¬ (0 : Int) < (k : Int) := by omega
          clear hk0 hl0
          go_wp2_with fail
          go_region_held3 (fun w' => w'.cell? ⟨b, o + k * 3, none⟩ = some (.int .i64 x.s) ∧ w'.cell? ⟨b, o + k * 3 + 2, none⟩ = some (.int .i64 x.r))
            (first | go_keep | (go_split_ands; exact ⟨hb2.cellv (by assumption), hb2.cellv (by assumption)⟩) | (go_split_ands; exact ⟨hb1.cellv (by assumption), hb1.cellv (by assumption)⟩))
            (first | (go_at_call 44; (with_reducible refine (G1.out _).mono ?_); rintro e w1 ⟨rfl, hb1⟩) | (go_at_call 44; (with_reducible refine (G2.out _).mono ?_); rintro e w2 ⟨rfl, hb2⟩))
          all_goals
            go_wp2_with fail
            go_roundw
            case rel => exact ⟨k + 1, by omega, by go_num, by rw [E4.out], ((hB.dr).step hb1).step hb2⟩
            case measure => simp [intOf]; omega
      · by_cases hs : x.g < 0
        · have E : Hid (textS (l.take (k + 1)) = (s ++ [32]) ++ [45] ++ tr ++ [42] ++ ts) := by
            unfold Hid; rw [HX, if_neg hk0, if_pos hs]; simp
          have A0 := fun (W : World) => str_add Tryz.prog W s [32] (by omega) (by decide)
          have A1 := fun (W : World) => str_add Tryz.prog W (s ++ [32]) [45] (by first | omega | (simp; omega)) (by decide)
          have A2 := fun (W : World) => str_add Tryz.prog W ((s ++ [32]) ++ [45]) tr (by first | omega | (simp; omega)) (by omega)
          have A3 := fun (W : World) => str_add Tryz.prog W ((s ++ [32]) ++ [45] ++ tr) [42] (by first | omega | (simp; omega)) (by decide)
          have A4 := fun (W : World) => str_add Tryz.prog W ((s ++ [32]) ++ [45] ++ tr ++ [42]) ts (by first | omega | (simp; omega)) (by omega)
          obtain ⟨z0, hu0⟩ : ∃ u, u = (⟨s.toArray⟩ : ByteArray) := ⟨_, rfl⟩
          rw [← hu0] at A0 ⊢
          obtain ⟨z5, hu5⟩ : ∃ u, u = (⟨(s ++ [32]).toArray⟩ : ByteArray) := ⟨_, rfl⟩
          rw [← hu5] at A0 A1
          obtain ⟨z1, hu1⟩ : ∃ u, u = (⟨((s ++ [32]) ++ [45]).toArray⟩ : ByteArray) := ⟨_, rfl⟩
          rw [← hu1] at A1 A2
          obtain ⟨z2, hu2⟩ : ∃ u, u = (⟨((s ++ [32]) ++ [45] ++ tr).toArray⟩ : ByteArray) := ⟨_, rfl⟩
          rw [← hu2] at A2 A3
          obtain ⟨z3, hu3⟩ : ∃ u, u = (⟨((s ++ [32]) ++ [45] ++ tr ++ [42]).toArray⟩ : ByteArray) := ⟨_, rfl⟩
          rw [← hu3] at A3 A4
          obtain ⟨z4, hu4⟩ : ∃ u, u = (⟨((s ++ [32]) ++ [45] ++ tr ++ [42] ++ ts).toArray⟩ : ByteArray) := ⟨_, rfl⟩
          rw [← hu4] at A4
          have E4 : Hid (z4 = ⟨(textS (l.take (k + 1))).toArray⟩) := by unfold Hid; rw [hu4, E.out]
          clear hs0 hu0 hu1 hu2 hu3 hu4 q1 q2 HX hsl E hu5
          have hkk : (0 : Int) < (k : Int) := by omega
          go_wp2_with fail
          go_region_held3 (fun w' => w'.cell? ⟨b, o + k * 3, none⟩ = some (.int .i64 x.s) ∧ w'.cell? ⟨b, o + k * 3 + 2, none⟩ = some (.int .i64 x.r))
            (first | go_keep | (go_split_ands; exact ⟨hb2.cellv (by assumption), hb2.cellv (by assumption)⟩) | (go_split_ands; exact ⟨hb1.cellv (by assumption), hb1.cellv (by assumption)⟩))
            (first | (go_at_call 44; (with_reducible refine (G1.out _).mono ?_); rintro e w1 ⟨rfl, hb1⟩) | (go_at_call 44; (with_reducible refine (G2.out _).mono ?_); rintro e w2 ⟨rfl, hb2⟩))
          all_goals
            go_wp2_with fail
            go_roundw
            case rel => exact ⟨k + 1, by omega, by go_num, by rw [E4.out], ((hB.dr).step hb1).step hb2⟩
            case measure => simp [intOf]; omega
        · have E : Hid (textS (l.take (k + 1)) = (s ++ [32]) ++ [43] ++ tr ++ [42] ++ ts) := by
            unfold Hid; rw [HX, if_neg hk0, if_neg hs]; simp
          have A0 := fun (W : World) => str_add Tryz.prog W s [32] (by omega) (by decide)
          have A1 := fun (W : World) => str_add Tryz.prog W (s ++ [32]) [43] (by first | omega | (simp; omega)) (by decide)
          have A2 := fun (W : World) => str_add Tryz.prog W ((s ++ [32]) ++ [43]) tr (by first | omega | (simp; omega)) (by omega)
          have A3 := fun (W : World) => str_add Tryz.prog W ((s ++ [32]) ++ [43] ++ tr) [42] (by first | omega | (simp; omega)) (by decide)
          have A4 := fun (W : World) => str_add Tryz.prog W ((s ++ [32]) ++ [43] ++ tr ++ [42]) ts (by first | omega | (simp; omega)) (by omega)
          obtain ⟨z0, hu0⟩ : ∃ u, u = (⟨s.toArray⟩ : ByteArray) := ⟨_, rfl⟩
          rw [← hu0] at A0 ⊢
          obtain ⟨z5, hu5⟩ : ∃ u, u = (⟨(s ++ [32]).toArray⟩ : ByteArray) := ⟨_, rfl⟩
          rw [← hu5] at A0 A1
          obtain ⟨z1, hu1⟩ : ∃ u, u = (⟨((s ++ [32]) ++ [43]).toArray⟩ : ByteArray) := ⟨_, rfl⟩
          rw [← hu1] at A1 A2
          obtain ⟨z2, hu2⟩ : ∃ u, u = (⟨((s ++ [32]) ++ [43] ++ tr).toArray⟩ : ByteArray) := ⟨_, rfl⟩
          rw [← hu2] at A2 A3
          obtain ⟨z3, hu3⟩ : ∃ u, u = (⟨((s ++ [32]) ++ [43] ++ tr ++ [42]).toArray⟩ : ByteArray) := ⟨_, rfl⟩
          rw [← hu3] at A3 A4
          obtain ⟨z4, hu4⟩ : ∃ u, u = (⟨((s ++ [32]) ++ [43] ++ tr ++ [42] ++ ts).toArray⟩ : ByteArray) := ⟨_, rfl⟩
          rw [← hu4] at A4
          have E4 : Hid (z4 = ⟨(textS (l.take (k + 1))).toArray⟩) := by unfold Hid; rw [hu4, E.out]
          clear hs0 hu0 hu1 hu2 hu3 hu4 q1 q2 HX hsl E hu5
          have hkk : (0 : Int) < (k : Int) := by omega
          go_wp2_with fail
          go_region_held3 (fun w' => w'.cell? ⟨b, o + k * 3, none⟩ = some (.int .i64 x.s) ∧ w'.cell? ⟨b, o + k * 3 + 2, none⟩ = some (.int .i64 x.r))
            (first | go_keep | (go_split_ands; exact ⟨hb2.cellv (by assumption), hb2.cellv (by assumption)⟩) | (go_split_ands; exact ⟨hb1.cellv (by assumption), hb1.cellv (by assumption)⟩))
            (first | (go_at_call 44; (with_reducible refine (G1.out _).mono ?_); rintro e w1 ⟨rfl, hb1⟩) | (go_at_call 44; (with_reducible refine (G2.out _).mono ?_); rintro e w2 ⟨rfl, hb2⟩))
          all_goals
            go_wp2_with fail
            go_roundw
            case rel => exact ⟨k + 1, by omega, by go_num, by rw [E4.out], ((hB.dr).step hb1).step hb2⟩
            case measure => simp [intOf]; omega
    · obtain rfl : k = l.length := by omega
      rw [List.take_of_length_le (Nat.le_refl _)]
      go_wp2_with fail
      go_ret
      exact ⟨rfl, hB⟩
end Go.Proofs.YtdigfjpknckpfaaGreatDoor
