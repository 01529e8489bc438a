/- Package legs: Check, its closure, its fault: their contracts, as plain lists. No condition beside the reading of the slice. -/
import Derived.Test.YtdigfjpknckpfaaGreatDoorErr
import Derived.Test.YtdigfjpknckpfaaGreatDoorNum
namespace Go.Proofs.YtdigfjpknckpfaaGreatDoor
set_option linter.unusedSimpArgs false
set_option linter.unusedVariables false
open Go.RowKit

structure Leg where
  s : Int
  g : Int
  r : Int
  deriving DecidableEq, Inhabited

def encLeg (x : Leg) : List Value := [.int .i64 x.s, .int .i64 x.g, .int .i64 x.r]
theorem encLeg_len (x : Leg) : (encLeg x).length = 3 := rfl
theorem leg_cells {w : World} {b o : Nat} {l : List Leg} (h : RowAt encLeg 3 w b o l) {i : Nat} (hi : i < l.length) :
    w.cell? ⟨b, o + i * 3, none⟩ = some (.int .i64 l[i].s) ∧ w.cell? ⟨b, o + i * 3 + 1, none⟩ = some (.int .i64 l[i].g) ∧ w.cell? ⟨b, o + i * 3 + 2, none⟩ = some (.int .i64 l[i].r) :=
  ⟨h i hi 0 (by omega), h i hi 1 (by omega), h i hi 2 (by omega)⟩
abbrev SlLeg := Sl encLeg 3

def legW : List UInt8 := [108, 101, 103]

set_option maxHeartbeats 400000 in
theorem legs_fault (a e : Int) (w : World) : Calls Tryz.prog 37 #[.int .i64 a, .int .i64 e] w fun en w' => ∃ v, en = .returned v ∧ ErAt w' v (.fault legW a (.no e)) ∧ Bel w w' := by
  go_enter Tryz.func37, Tryz.ntmps37
  go_wp2
  go_ret
  exact ⟨_, rfl, ⟨_, _, rfl, by simp [legW], by simp, by simp, rfl⟩, Bel.rfl'.al _⟩

theorem check1 (a : Addr) (s g r s0 : Int) (w : World) (h0 : w.cell? a = some (.int .i64 s0)) :
    Calls Tryz.prog 40 #[.agg #[.int .i64 s, .int .i64 g, .int .i64 r], .pointer (some a)] w fun e w' => e = .returned (.bool (s == s0)) ∧ Bel w w' := by
  have ha := lt_of_cell h0
  go_enter Tryz.func40, Tryz.ntmps40
  go_wp2
  go_ret
  exact ⟨rfl, Bel.rfl'.al _⟩

def idxSer (l : List Leg) (s0 : Int) : Int := match l.findIdx? (fun y => y.s == s0) with | some i => i | none => -1
theorem idxSer_at {l : List Leg} {s0 : Int} {k : Nat} (hk : k < l.length) (h : (l[k].s == s0) = true) (hp : ∀ (j : Nat), j < k → ∀ (h' : j < l.length), (l[j].s == s0) = false) : idxSer l s0 = k := by
  have : l.findIdx? (fun y => y.s == s0) = some k := by
    rw [List.findIdx?_eq_some_iff_getElem]
    exact ⟨hk, h, fun j hj => by simpa using hp j hj (by omega)⟩
  unfold idxSer; rw [this]
theorem idxSer_no {l : List Leg} {s0 : Int} (hp : ∀ (j : Nat), j < l.length → ∀ (h' : j < l.length), (l[j].s == s0) = false) : idxSer l s0 = -1 := by
  have : l.findIdx? (fun y => y.s == s0) = none := by
    rw [List.findIdx?_eq_none_iff]
    intro x hx
    obtain ⟨i, hi, rfl⟩ := List.getElem_of_mem hx
    exact hp i hi hi
  unfold idxSer; rw [this]
theorem idxSer_any (l : List Leg) (s0 : Int) : decide (0 ≤ idxSer l s0) = l.any (fun y => y.s == s0) := by
  unfold idxSer
  cases h : l.findIdx? (fun y => y.s == s0) with
  | none =>
    rw [List.findIdx?_eq_none_iff] at h
    simp; intro x hx; simpa using h x hx
  | some i =>
    rw [List.findIdx?_eq_some_iff_getElem] at h
    obtain ⟨hi, hp, _⟩ := h
    simp; exact ⟨l[i], List.getElem_mem hi, by simpa using hp⟩

set_option maxHeartbeats 400000 in
theorem idx34 (b o cap : Nat) (l : List Leg) (a : Addr) (s0 : Int) (w : World) (hn : l.length ≤ 1000000) (h0 : w.cell? a = some (.int .i64 s0)) (hc : RowAt encLeg 3 w b o l) :
    Calls Tryz.prog 63 #[.slice (some ⟨b,o,none⟩) l.length cap, .func (.func 40) #[] #[.pointer (some a)]] w fun e w' => e = .returned (.int .i64 (idxSer l s0)) ∧ Bel w w' := by
  go_enter Tryz.func63, Tryz.ntmps63
  go_wp2
  go_loopw [8] (fun i wr => ∃ k : Nat, k ≤ l.length ∧ i = .int .i64 k ∧ Bel w wr ∧ Hid (∀ (j : Nat), j < k → ∀ (h' : j < l.length), (l[j].s == s0) = false)) (fun i _ => l.length - (intOf i).toNat)
  case atStart => exact ⟨0, by omega, rfl, Bel.rfl', fun j h => by omega⟩
  case round =>
    obtain ⟨k, hk, rfl, hB, HP⟩ := hrel
    by_cases hlt : k < l.length
    · obtain ⟨d0, d1, d2⟩ := leg_cells (hc.bel encLeg_len hB) hlt
      have e0 := hB.cellv h0
      have HC := Lib.hid hc
      clear hc
      generalize hx : l[k] = x at d0 d1 d2
      have HX := Lib.hid hx
      clear hx
      cases hq : (x.s == s0)
      · go_wp2_with (go_at_call 40; refine (check1 a _ _ _ s0 _ e0).mono ?_; rintro e w' ⟨rfl, hb⟩)
        go_roundw
        case rel =>
          refine ⟨k+1, hlt, by go_num, hB.step hb, fun j h h' => ?_⟩
          rcases Nat.lt_succ_iff_lt_or_eq.1 h with h | rfl
          · exact HP.out j h h'
          · rw [HX.out]; exact hq
        case measure => simp [intOf]; omega
      · go_wp2_with (go_at_call 40; refine (check1 a _ _ _ s0 _ e0).mono ?_; rintro e w' ⟨rfl, hb⟩)
        go_ret
        exact ⟨ret_int (idxSer_at hlt (by rw [HX.out]; exact hq) HP.out).symm, hB.step hb⟩
    · obtain rfl : k = l.length := by omega
      have E := idxSer_no HP.out
      have EE := Lib.hid E
      clear E
      go_wp2
      go_ret
      exact ⟨ret_int EE.out.symm, hB⟩

set_option maxHeartbeats 400000 in
theorem cont34 (b o cap : Nat) (l : List Leg) (a : Addr) (s0 : Int) (w : World) (hn : l.length ≤ 1000000) (h0 : w.cell? a = some (.int .i64 s0)) (hc : RowAt encLeg 3 w b o l) :
    Calls Tryz.prog 39 #[.slice (some ⟨b,o,none⟩) l.length cap, .func (.func 40) #[] #[.pointer (some a)]] w fun e w' => e = .returned (.bool (l.any (fun y => y.s == s0))) ∧ Bel w w' := by
  have H := Lib.hid (idx34 b o cap l a s0 w hn h0 hc)
  rw [← idxSer_any]
  generalize idxSer l s0 = r at H ⊢
  clear hc h0
  go_enter Tryz.func39, Tryz.ntmps39
  go_wp2_with (go_at_call 63; refine H.out.mono ?_; rintro e w' ⟨rfl, hb⟩)
  go_ret
  exact ⟨rfl, hb⟩

/-- The first place where something is wrong. -/
def firstBad (f : Nat → Option Int) (n : Nat) : Option (Nat × Int) := (List.range n).findSome? fun i => (f i).map (i, ·)
theorem firstBad_none {f : Nat → Option Int} {n : Nat} (h : ∀ j, j < n → f j = none) : firstBad f n = none := by
  unfold firstBad
  rw [List.findSome?_eq_none_iff]
  intro j hj
  rw [h j (by simpa using hj)]; rfl
theorem firstBad_some {f : Nat → Option Int} {n i : Nat} {e : Int} (hi : i < n) (h : ∀ j, j < i → f j = none) (he : f i = some e) : firstBad f n = some (i, e) := by
  unfold firstBad
  obtain ⟨m, rfl⟩ : ∃ m, n = i + (1 + m) := ⟨n - i - 1, by omega⟩
  rw [List.range_add, List.findSome?_append, List.findSome?_eq_none_iff.2 (by intro j hj; rw [h j (by simpa using hj)]; rfl)]
  rw [List.range_add]
  simp [he]

def legBad (x : Leg) : Bool := decide (x.s < 1) || (!(x.g == 1) && !(x.g == -1)) || !(decide (1 ≤ x.r ∧ x.r ≤ 4))
def legAt (l : List Leg) (i : Nat) : Option Int :=
  match l[i]? with
  | none => none
  | some x => if legBad x then some 1 else if (l.take i).any (fun y => y.s == x.s) then some 6 else none
def checkS (l : List Leg) : Er :=
  if l.length < 2 ∨ 4 < l.length then .fault legW (min (l.length : Int) 4) (.no 1)
  else match firstBad (legAt l) l.length with
    | none => .nil
    | some (i, e) => .fault legW i (.no e)

end Go.Proofs.YtdigfjpknckpfaaGreatDoor
