/- Package legs: Turned, Canon, Same: their contracts. Condition: the slices read as lists of legs. -/
import Derived.Test.YtdigfjpknckpfaaGreatDoorLegC
namespace Go.Proofs.YtdigfjpknckpfaaGreatDoor
set_option linter.unusedSimpArgs false
set_option linter.unusedVariables false
open Go.RowKit

/-! ### Plain lists -/
def mapTo {α : Type} (f : α → α) (k : Nat) (l : List α) : List α := (l.take k).map f ++ l.drop k
section
variable {α : Type} {f : α → α} {l : List α}
theorem mapTo_zero : mapTo f 0 l = l := by simp [mapTo]
theorem mapTo_all : mapTo f l.length l = l.map f := by simp [mapTo]
theorem mapTo_len {k : Nat} : (mapTo f k l).length = l.length := by simp [mapTo]; omega
theorem mapTo_get {k : Nat} (h : k < l.length) : (mapTo f k l)[k]'(by rw [mapTo_len]; exact h) = l[k] := by
  unfold mapTo
  rw [List.getElem_append_right (by simp; omega)]
  simp; congr 1; omega
theorem mapTo_set {k : Nat} (h : k < l.length) : (mapTo f k l).set k (f l[k]) = mapTo f (k + 1) l := by
  unfold mapTo
  have e : ((l.take k).map f).length = k := by simp; omega
  rw [List.set_append_right _ _ (by omega), e, Nat.sub_self, List.drop_eq_getElem_cons h, List.set_cons_zero, List.take_succ_eq_append_getElem h, List.map_append]
  simp
end

def turn1 (x : Leg) : Leg := ⟨x.s, wrap64 (-x.g), x.r⟩
def turnS (l : List Leg) : List Leg := l.map turn1
def gcdAll (l : List Leg) : Int := l.foldl (fun a x => gcdS a x.r) 0
def div1 (d : Int) (x : Leg) : Leg := ⟨x.s, x.g, x.r / d⟩
def divS (l : List Leg) : List Leg := (sortS l).map (div1 (gcdAll (sortS l)))
def headUp (l : List Leg) : Bool := match l with | [] => false | x :: _ => x.g == 1
def canonS (l : List Leg) : List Leg × Bool := if headUp (divS l) then (divS l, false) else (turnS (divS l), true)

theorem check_ok {l : List Leg} (h : checkS l = .nil) : 2 ≤ l.length ∧ l.length ≤ 4 ∧ (∀ x ∈ l, legBad x = false) ∧ Unlike l := by
  unfold checkS at h
  split at h
  · cases h
  rename_i hn
  split at h
  case h_2 => cases h
  rename_i hf
  have hall : ∀ j, j < l.length → legAt l j = none := by
    intro j hj
    unfold firstBad at hf
    rw [List.findSome?_eq_none_iff] at hf
    have := hf j (by simpa using hj)
    cases hq : legAt l j with
    | none => rfl
    | some e => rw [hq] at this; cases this
  have hbad : ∀ j (hj : j < l.length), legBad l[j] = false ∧ (l.take j).any (fun y => y.s == l[j].s) = false := by
    intro j hj
    have := hall j hj
    unfold legAt at this
    rw [List.getElem?_eq_getElem hj] at this
    simp only at this
    split at this
    · cases this
    · rename_i h1
      split at this
      · cases this
      · rename_i h2; exact ⟨by simpa using h1, by simpa using h2⟩
  refine ⟨by omega, by omega, ?_, ?_⟩
  · intro x hx
    obtain ⟨i, hi, rfl⟩ := List.getElem_of_mem hx
    exact (hbad i hi).1
  · intro a ha b hb hab
    obtain ⟨i, hi, rfl⟩ := List.getElem_of_mem ha
    obtain ⟨j, hj, rfl⟩ := List.getElem_of_mem hb
    have lt : ∀ i j (hi : i < l.length) (hj : j < l.length), i < j → l[i].s = l[j].s → False := by
      intro i j hi hj hij e
      have := (hbad j hj).2
      rw [List.any_eq_false] at this
      have h2 := this l[i] (by rw [List.mem_take_iff_getElem]; exact ⟨i, by omega, rfl⟩)
      simp [e] at h2
    rcases Nat.lt_trichotomy i j with h | h | h
    · exact (lt i j hi hj h hab).elim
    · subst h; rfl
    · exact (lt j i hj hi h hab.symm).elim

theorem bad_facts {x : Leg} (h : legBad x = false) : 1 ≤ x.s ∧ (x.g = 1 ∨ x.g = -1) ∧ 1 ≤ x.r ∧ x.r ≤ 4 := by
  unfold legBad at h
  simp only [Bool.or_eq_false_iff, decide_eq_false_iff_not, Bool.not_eq_false', decide_eq_true_eq, Bool.and_eq_false_iff, beq_iff_eq] at h
  obtain ⟨⟨hb1, hb2⟩, hb3⟩ := h
  exact ⟨by omega, hb2, hb3.1, hb3.2⟩

theorem leg_cells0 {w : World} {b : Nat} {l : List Leg} (h : RowAt encLeg 3 w b 0 l) {i : Nat} (hi : i < l.length) :
    w.cell? ⟨b, i * 3, none⟩ = some (.int .i64 l[i].s) ∧ w.cell? ⟨b, i * 3 + 1, none⟩ = some (.int .i64 l[i].g) ∧ w.cell? ⟨b, i * 3 + 2, none⟩ = some (.int .i64 l[i].r) := by
  have := leg_cells h hi
  simpa using this
theorem leg_froz0 {w : World} {b : Nat} {l : List Leg} (h : MutAt encLeg 3 w b 0 l) {i : Nat} (hi : i < l.length) :
    w.frozen? ⟨b, i * 3, none⟩ = false ∧ w.frozen? ⟨b, i * 3 + 1, none⟩ = false ∧ w.frozen? ⟨b, i * 3 + 2, none⟩ = false := by
  have h0 := h.2 i hi 0 (by omega)
  have h1 := h.2 i hi 1 (by omega)
  have h2 := h.2 i hi 2 (by omega)
  simp only [Nat.zero_add, Nat.add_zero] at h0 h1 h2
  exact ⟨h0, h1, h2⟩
theorem leg_set0 {w : World} {b : Nat} {l : List Leg} (h : MutAt encLeg 3 w b 0 l) {i c : Nat} (hi : i < l.length) (hc : c < 3) {u : Value} {y : Leg} (hy : encLeg y = (encLeg l[i]).set c u) :
    MutAt encLeg 3 (w.setCell ⟨b, i * 3 + c, none⟩ u) b 0 (l.set i y) := by
  have := h.set encLeg_len hi hc hy
  simpa using this

set_option maxHeartbeats 400000 in
theorem legs_Turned (v : Value) (l : List Leg) (w : World) (h : SlLeg w v l) (hn : l.length ≤ 1000000) :
    Calls Tryz.prog 16 #[v] w fun e w' => ∃ v', e = .returned v' ∧ Fresh encLeg 3 w.heap.size w' v' (turnS l) ∧ Bel w w' := by
  have HC := Lib.hid (legs_Clone v l w h hn)
  clear h
  go_enter Tryz.func16, Tryz.ntmps16
  go_wp2_with (go_at_call 28; refine HC.out.mono ?_; rintro e w1 ⟨v1, rfl, hf, hb⟩)
  refine (legs_Clip v1 l _ hf).mono ?_
  rintro e w' ⟨⟨v2, rfl, hf2⟩, rfl⟩
  clear hf HC
  rcases hf2 with ⟨rfl, rfl⟩ | ⟨g, cap, rfl, hcap, hm, hg, hlt, hc⟩
  · go_wp2
    go_loop [10] (fun i => i = .int .i64 0) (fun _ => 0)
    case atStart => rfl
    case round =>
      subst hrel
      go_wp2
      go_ret
      exact ⟨_, rfl, Or.inl ⟨rfl, rfl⟩, hb⟩
  · have hc0 : MutAt encLeg 3 w' g 0 (mapTo turn1 0 l) := by rw [mapTo_zero]; exact hc
    have HC0 := Lib.hid hc0
    clear hc hc0
    have hwe := hb.size
    go_wp2
    go_loopw [10] (fun i wr => ∃ k : Nat, k ≤ l.length ∧ i = .int .i64 k ∧ Bel w wr ∧ g < wr.heap.size ∧ Hid (MutAt encLeg 3 wr g 0 (mapTo turn1 k l))) (fun i _ => l.length - (intOf i).toNat)
    case atStart => exact ⟨0, by omega, rfl, hb, hlt, HC0.out⟩
    case round =>
      obtain ⟨k, hk, rfl, hB, hgl, HM⟩ := hrel
      by_cases hlk : k < l.length
      · have hlk' : k < (mapTo turn1 k l).length := by rw [mapTo_len]; exact hlk
        obtain ⟨d0, d1, d2⟩ := leg_cells0 HM.out.1 hlk'
        obtain ⟨f0, f1, f2⟩ := leg_froz0 HM.out hlk'
        have hx : (mapTo turn1 k l)[k] = l[k] := mapTo_get hlk
        rw [hx] at d0 d1 d2
        have HS := Lib.hid (leg_set0 HM.out hlk' (c := 1) (by omega) (u := .int .i64 (wrap64 (-l[k].g))) (y := turn1 l[k]) (by rw [hx]; rfl))
        rw [mapTo_set hlk] at HS
        clear hx hlk'
        generalize l[k] = x at d0 d1 d2 HS
        go_wp2
        go_roundw
        case rel => exact ⟨k + 1, hlk, by go_num, hB.st (by simpa using hg) _, by simp [World.setCell]; exact hgl, HS.out⟩
        case measure => simp [intOf]; omega
      · obtain rfl : k = l.length := by omega
        go_wp2
        go_ret
        refine ⟨_, rfl, Or.inr ⟨g, cap, by simp [turnS], by simp [turnS]; exact hcap, hm, hg, hgl, ?_⟩, hB⟩
        have := HM.out
        rw [mapTo_all] at this
        exact this

end Go.Proofs.YtdigfjpknckpfaaGreatDoor
