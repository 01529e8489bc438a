/- The reference's errors in words. Condition: numbers that can be told; texts that are no giants. -/
import Derived.Test.YtmnmoadkpidggaaDoorTellB
import Derived.Test.YtmnmoadkpidggaaDoorWrongs
namespace Go.Proofs.YtmnmoadkpidggaaDoor
set_option linter.unusedSimpArgs false
set_option linter.unusedVariables false
open Go.RowKit

theorem Good.parts {w : World} : ∀ {e : Er}, Good w e → ∀ x ∈ partsOf e, x.1.length ≤ 1000 ∧ I64 x.2
  | .nil, h => absurd h (fun h => h)
  | .no _, _ => fun x hx => by simp [partsOf] at hx
  | .fault p a e, ⟨h1, h2, h3⟩ => fun x hx => by
    rcases List.mem_cons.1 hx with rfl | hx
    · exact ⟨h1, h2.i64⟩
    · exact Good.parts (e := e) h3 x hx
theorem flat_take {α β : Type} (f : α → List β) (l : List α) (k : Nat) : ((l.take k).flatMap f).length ≤ (l.flatMap f).length := by
  conv => rhs; rw [← List.take_append_drop k l, List.flatMap_append, List.length_append]
  omega
theorem part_le (l : List (List UInt8 × Int)) : l.length ≤ (l.flatMap partT).length := by
  induction l with
  | nil => simp
  | cons x t ih =>
    have : 1 ≤ (partT x).length := by simp [partT]; omega
    rw [List.flatMap_cons, List.length_append, List.length_cons]; omega
theorem part_cells {w : World} {b o : Nat} {l : List (List UInt8 × Int)} (h : RowAt encPart 2 w b o l) {i : Nat} (hi : i < l.length) :
    w.cell? ⟨b, o + i * 2, none⟩ = some (.string ⟨l[i].1.toArray⟩) ∧ w.cell? ⟨b, o + i * 2 + 1, none⟩ = some (.int .i64 l[i].2) :=
  ⟨h i hi 0 (by omega), h i hi 1 (by omega)⟩

set_option maxRecDepth 100000 in
set_option maxHeartbeats 4000000 in
theorem ref_Words (e : Er) (v : Value) (B : Nat) (w : World) (h : WrAt B w v e) (hg : Good w e) (hl : (errT e).length ≤ 1000000) :
    Calls Tryd.prog 39 #[v] w fun en w' => en = .returned (.string ⟨(errT e).toArray⟩) ∧ Bel w w' := by
  obtain ⟨pv, rfl, hs, _⟩ := h
  have hn := hg.num
  have HW := Lib.hid (fun W => ref_Word (numOf e) W (by omega) hn.2)
  have HP := Lib.hid hg.parts
  have E0 : errT e = (partsOf e).flatMap partT ++ wordS (numOf e) := rfl
  have E := Lib.hid E0
  clear E0
  generalize errT e = R at E hl ⊢
  generalize partsOf e = l at hs HP E
  generalize numOf e = n at HW E
  have hwl := wordS_len n
  generalize wordS n = tw at HW E hwl
  have hfl : (l.flatMap partT).length ≤ 1000000 := by rw [E.out, List.length_append] at hl; omega
  have HF := Lib.hid hfl
  have hpn : ∃ a c, pv = .slice a l.length c := by
    rcases hs with ⟨rfl, rfl⟩ | ⟨b, o, c, rfl, _⟩
    · exact ⟨_, _, rfl⟩
    · exact ⟨_, _, rfl⟩
  obtain ⟨pa, pc, rfl⟩ := hpn
  have hll : l.length ≤ 1000000 := Nat.le_trans (part_le l) hfl
  have HS := Lib.hid hs
  clear hs hg hn hl hfl
  go_enter Tryd.func39, Tryd.ntmps39
  go_wp2_with fail
  go_loopw [3, 4] (fun sv i wr => ∃ k : Nat, k ≤ l.length ∧ i = .int .i64 k ∧ sv = .string ⟨((l.take k).flatMap partT).toArray⟩ ∧ Bel (w.alloc (.cells #[.slice pa l.length pc, .int .i64 n] 29)) wr) (fun _ i _ => l.length - (intOf i).toNat)
  case atStart => exact ⟨0, by omega, rfl, by simp, Bel.rfl'⟩
  case round =>
    obtain ⟨k, hk, rfl, rfl, hB⟩ := hrel
    have c0 : wr.cell? ⟨w.heap.size, 0, none⟩ = some (.slice pa l.length pc) := hB.cellv (by simp)
    have c1 : wr.cell? ⟨w.heap.size, 1, none⟩ = some (.int .i64 n) := hB.cellv (by simp)
    by_cases hlt : k < l.length
    · obtain ⟨b, o, rfl, hr⟩ : ∃ b o, pa = some ⟨b, o, none⟩ ∧ RowAt encPart 2 wr b o l := by
        rcases HS.out with ⟨h, _⟩ | ⟨b, o, c, h, h2, _, hr⟩
        · simp only [Value.slice.injEq] at h; omega
        · injection h with e1 _ e2; exact ⟨b, o, e1, hr.bel encPart_len ((Bel.rfl'.al _).step hB)⟩
      obtain ⟨d0, d1⟩ := part_cells hr hlt
      obtain ⟨p1, p2⟩ := HP.out l[k] (List.getElem_mem hlt)
      have HX : Hid ((l.take (k + 1)).flatMap partT = (l.take k).flatMap partT ++ l[k].1 ++ [32] ++ Lib.itoa l[k].2 ++ [58, 32]) := by
        unfold Hid; rw [List.take_succ_eq_append_getElem hlt, List.flatMap_append]; simp [partT]
      have hfk := flat_take partT l k
      have hfl := HF.out
      generalize (l.take k).flatMap partT = s at HX hfk ⊢
      have HT := fun W => ref_Text l[k].2 W p2
      have q1 := Lib.itoa_length_le _ p2.1 p2.2
      clear hr p2
      generalize l[k] = x at d0 d1 p1 HX HT q1
      obtain ⟨xp, xa⟩ := x
      simp only at d0 d1 p1 HX HT q1
      generalize Lib.itoa xa = ta at HX HT q1
      have HT := Lib.hid HT
      have A1 := fun (W : World) => str_add Tryd.prog W s xp (by omega) (by omega)
      have A2 := fun (W : World) => str_add Tryd.prog W (s ++ xp) [32] (by simp; omega) (by decide)
      have A3 := fun (W : World) => str_add Tryd.prog W (s ++ xp ++ [32]) ta (by simp; omega) (by omega)
      have A4 := fun (W : World) => str_add Tryd.prog W (s ++ xp ++ [32] ++ ta) [58, 32] (by simp; omega) (by decide)
      obtain ⟨z0, hu0⟩ : ∃ u, u = (⟨s.toArray⟩ : ByteArray) := ⟨_, rfl⟩
      rw [← hu0] at A1 ⊢
      obtain ⟨zx, hux⟩ : ∃ u, u = (⟨xp.toArray⟩ : ByteArray) := ⟨_, rfl⟩
      rw [← hux] at A1 d0
      obtain ⟨z1, hu1⟩ : ∃ u, u = (⟨(s ++ xp).toArray⟩ : ByteArray) := ⟨_, rfl⟩
      rw [← hu1] at A1 A2
      obtain ⟨z2, hu2⟩ : ∃ u, u = (⟨(s ++ xp ++ [32]).toArray⟩ : ByteArray) := ⟨_, rfl⟩
      rw [← hu2] at A2 A3
      obtain ⟨z3, hu3⟩ : ∃ u, u = (⟨(s ++ xp ++ [32] ++ ta).toArray⟩ : ByteArray) := ⟨_, rfl⟩
      rw [← hu3] at A3 A4
      obtain ⟨z4, hu4⟩ : ∃ u, u = (⟨(s ++ xp ++ [32] ++ ta ++ [58, 32]).toArray⟩ : ByteArray) := ⟨_, rfl⟩
      rw [← hu4] at A4
      have E4 : Hid (z4 = ⟨((l.take (k + 1)).flatMap partT).toArray⟩) := by unfold Hid; rw [HX.out, hu4]
      clear hu0 hux hu1 hu2 hu3 hu4 q1 HX hfk hfl p1
      have hki : (0 : Int) ≤ (k : Int) := by omega
      have hki2 : (k : Int) < (l.length : Int) := by omega
      go_wp2_with fail
      go_region_held3 (fun w' => w'.cell? ⟨w.heap.size, 0, none⟩ = some (.slice (some ⟨b, o, none⟩) l.length pc) ∧ w'.cell? ⟨b, o + k * 2, none⟩ = some (.string zx) ∧ w'.cell? ⟨b, o + k * 2 + 1, none⟩ = some (.int .i64 xa))
        (first | go_keep | (go_split_ands; exact ⟨hb1.cellv (by assumption), hb1.cellv (by assumption), hb1.cellv (by assumption)⟩))
        (first | (go_at_call 54; (with_reducible refine (HT.out _).mono ?_); rintro e w' ⟨rfl, hb1⟩))
      all_goals
        go_wp2_with fail
        go_roundw
        case rel => exact ⟨k + 1, by omega, by go_num, by rw [E4.out], (hB.dr).step hb1⟩
        case measure => simp [intOf]; omega
    · obtain rfl : k = l.length := by omega
      rw [List.take_of_length_le (Nat.le_refl _)]
      have hfl := HF.out
      generalize l.flatMap partT = s at E hfl ⊢
      have A1 := fun (W : World) => str_add Tryd.prog W s tw (by omega) (by omega)
      obtain ⟨z1, hu1⟩ : ∃ u, u = (⟨(s ++ tw).toArray⟩ : ByteArray) := ⟨_, rfl⟩
      rw [← hu1] at A1
      have E4 : Hid ((⟨R.toArray⟩ : ByteArray) = z1) := by unfold Hid; rw [E.out, hu1]
      clear hu1 hfl hwl
      go_wp2_with fail
      refine (HW.out _).mono ?_
      rintro e w1 ⟨rfl, hB1⟩
      go_wp2_with fail
      go_ret
      exact ⟨by rw [E4.out]; rfl, ((Bel.rfl'.al _).step hB).step hB1⟩
end Go.Proofs.YtmnmoadkpidggaaDoor
