/- Package legs: copies, the sort by series: their contracts. Condition: the slice reads as a list of legs; few enough for memory. -/
import Derived.Test.YtdigfjpknckpfaaGreatDoorLegB
import Derived.Test.YtdigfjpknckpfaaGreatDoorFresh
import Derived.Test.YtdigfjpknckpfaaGreatDoorShelfB
namespace Go.Proofs.YtdigfjpknckpfaaGreatDoor
set_option linter.unusedSimpArgs false
set_option linter.unusedVariables false
open Go.RowKit Go.Sort Go.Shelf Go.Lib

theorem encLeg_one (l : List Leg) : ∀ u ∈ l.flatMap encLeg, u.oneCell' = true := by
  intro u hu
  obtain ⟨x, _, hx⟩ := List.mem_flatMap.1 hu
  simp only [encLeg, List.mem_cons, List.not_mem_nil, or_false] at hx
  rcases hx with rfl | rfl | rfl <;> rfl

theorem legs_Clone (v : Value) (l : List Leg) (w : World) (h : SlLeg w v l) (hn : l.length ≤ 1000000) :
    Calls Tryz.prog 28 #[v] w fun e w' => ∃ v', e = .returned v' ∧ Fresh encLeg 3 w.heap.size w' v' l ∧ Bel w w' := by
  rcases h with ⟨rfl, rfl⟩ | ⟨b, o, cap, rfl, hcap, hm, hc⟩
  · refine (AnyE.slices_Clone_nil Tryz.cloneLeg 0 0 w).mono ?_
    rintro e w' ⟨rfl, rfl⟩
    exact ⟨_, rfl, Or.inl ⟨rfl, rfl⟩, Bel.rfl'⟩
  · have hinfo : (Tryz.prog.info? 62).map (fun i => (i.zero, i.size, i.bytes)) = some (some (.agg #[.int .i64 0, .int .i64 0, .int .i64 0]), 3, 24) := by kernel_rfl
    obtain ⟨i0, hi, hz0, hz1, hz2⟩ := info_parts hinfo
    refine (AnyE.slices_Clone Tryz.cloneLeg i0 (.agg #[.int .i64 0, .int .i64 0, .int .i64 0]) 3 24 hi hz0 hz1 hz2 rfl (by omega) (fun _ => by kernel_rfl) b o l.length cap (l.flatMap encLeg) w (flat_len encLeg_len l) (by unfold maxLen; omega) (by omega) (row_flat encLeg_len hc) (encLeg_one l)).mono ?_
    rintro e w' ⟨v', rfl, hown, _, hB⟩
    exact ⟨v', rfl, own_fresh encLeg_len rfl hown, hB⟩

theorem legs_Clip_nil (w : World) : Calls Tryz.prog 27 #[.slice none 0 0] w fun e w' => e = .returned (.slice none 0 0) ∧ w' = w := by
  go_enter Tryz.func27, Tryz.ntmps27
  go_wp2
  go_ret
  exact ⟨rfl, rfl⟩
theorem legs_Clip_some (a : Addr) (n c : Nat) (w : World) (hc : n ≤ c) (hm : c ≤ maxLen) : Calls Tryz.prog 27 #[.slice (some a) n c] w fun e w' => e = .returned (.slice (some a) n n) ∧ w' = w := by
  unfold maxLen at hm
  go_enter Tryz.func27, Tryz.ntmps27
  go_wp2
  go_ret
  exact ⟨rfl, rfl⟩

theorem legs_Clip {B : Nat} (v : Value) (l : List Leg) (w : World) (h : Fresh encLeg 3 B w v l) : Calls Tryz.prog 27 #[v] w fun e w' => (∃ v', e = .returned v' ∧ Fresh encLeg 3 B w v' l) ∧ w' = w := by
  rcases h with ⟨rfl, rfl⟩ | ⟨g, cap, rfl, hcap, hm, hg, hlt, hc⟩
  · refine (legs_Clip_nil w).mono ?_
    rintro e w' ⟨rfl, rfl⟩
    exact ⟨⟨_, rfl, Or.inl ⟨rfl, rfl⟩⟩, rfl⟩
  · refine (legs_Clip_some ⟨g, 0, none⟩ l.length cap w hcap hm).mono ?_
    rintro e w' ⟨rfl, rfl⟩
    exact ⟨⟨_, rfl, Or.inr ⟨g, l.length, rfl, Nat.le_refl _, Nat.le_trans hcap hm, hg, hlt, hc⟩⟩, rfl⟩

/-- The closure that Canon sorts by. -/
theorem legs_cmp (x y : Leg) (W : World) : Calls Tryz.prog 30 #[.agg (encLeg x).toArray, .agg (encLeg y).toArray] W fun e w' => e = .returned (.int .i64 (Lib.compareInt x.s y.s)) ∧ ∃ q os', w' = grow (W.drewN q) os' := by
  have hcon := fun W' => Tryz.cmp_Compare_int x.s y.s W'
  generalize Lib.compareInt x.s y.s = r at hcon ⊢
  have HC := Lib.hid hcon
  clear hcon
  unfold encLeg
  go_enter Tryz.func30, Tryz.ntmps30
  go_wp2_with (go_at_call 31; refine (HC.out _).mono ?_; rintro e w' ⟨rfl, rfl⟩)
  go_ret
  exact ⟨rfl, 0, _, by rw [alloc_eq_grow, alloc_eq_grow, grow_grow]; rfl⟩

theorem cmp_lt (x y : Leg) : ltOf (fun x y : Leg => Lib.compareInt x.s y.s) x y = decide (x.s < y.s) := by
  unfold ltOf Lib.compareInt
  by_cases h1 : x.s < y.s
  · simp [h1]
  · by_cases h2 : y.s < x.s <;> simp [h1, h2]
theorem cmp_swo : SWO (ltOf fun x y : Leg => Lib.compareInt x.s y.s) where
  irrefl x := by rw [cmp_lt]; simp
  trans x y z h1 h2 := by rw [cmp_lt] at *; simp at *; omega
  ntrans x y z h1 h2 := by rw [cmp_lt] at *; simp at *; omega

section
variable {α : Type} [Inhabited α] {enc : α → List Value} {k : Nat}
theorem holdsK_of_mut (hk : ∀ x, (enc x).length = k) (hk0 : 0 < k) {w : World} {g o : Nat} {l : List α} (h : MutAt enc k w g o l) : HoldsK enc k w g o l.toArray := by
  intro j hj
  rw [size_flatK] at hj
  have hj' : j < l.length * k := by simpa using hj
  have h1 : j / k < l.length := Nat.div_lt_of_lt_mul (by rw [Nat.mul_comm]; exact hj')
  have h2 : j % k < k := Nat.mod_lt _ hk0
  have e : o + j / k * k + j % k = o + j := by rw [Nat.add_assoc, Nat.mul_comm, Nat.div_add_mod]
  have hc := h.1 (j / k) h1 (j % k) h2
  have hf := h.2 (j / k) h1 (j % k) h2
  rw [e] at hc hf
  refine ⟨?_, hf⟩
  rw [hc, get_flatK _ _ _ _ hj]
  have hlen : j % k < (enc l[j / k]).length := by rw [hk]; exact h2
  have e2 : l.toArray[j / k]! = l[j / k] := by simp [h1]
  rw [e2, List.getElem?_eq_getElem hlen, getElem!_pos (enc l[j / k]) (j % k) hlen]; rfl
theorem mut_of_holdsK (hk : ∀ x, (enc x).length = k) {w : World} {g o : Nat} {d : Array α} (h : HoldsK enc k w g o d) : MutAt enc k w g o d.toList := by
  have lt : ∀ i j, i < d.size → j < k → i * k + j < d.size * k := by
    intro i j hi hj
    have : (i + 1) * k ≤ d.size * k := Nat.mul_le_mul_right _ hi
    rw [Nat.add_mul] at this; omega
  refine ⟨fun i hi j hj => ?_, fun i hi j hj => ?_⟩
  · have hi' : i < d.size := by simpa using hi
    have h0 := (h (i * k + j) (by rw [size_flatK]; exact lt i j hi' hj)).1
    rw [Nat.add_assoc, h0, get_flatK _ _ _ _ (lt i j hi' hj)]
    have e1 : (i * k + j) / k = i := by rw [Nat.mul_comm, Nat.mul_add_div (by omega), Nat.div_eq_of_lt hj]; omega
    have e2 : (i * k + j) % k = j := by rw [Nat.mul_comm, Nat.mul_add_mod, Nat.mod_eq_of_lt hj]
    rw [e1, e2]
    have hlen : j < (enc d[i]).length := by rw [hk]; exact hj
    rw [getElem!_pos d i hi', getElem!_pos (enc d[i]) j hlen]
    simp [hlen]
  · have hi' : i < d.size := by simpa using hi
    rw [Nat.add_assoc]
    exact (h (i * k + j) (by rw [size_flatK]; exact lt i j hi' hj)).2
theorem below_sort {B : Nat} {w0 w : World} (h : Below B w0 w) (hB : B ≤ w.heap.size) {g o m : Nat} (hg : B ≤ g) {d : Array α} {os : Array Obj} : Below B w0 (sortWorldK enc k w g o m d os) := by
  refine h.trans ⟨rfl, rfl, rfl, ?_, fun i hi => ?_⟩
  · show w.heap.size ≤ ((w.heap.modify g _) ++ os).size
    simp
  · show ((w.heap.modify g _) ++ os)[i]? = w.heap[i]?
    rw [Array.getElem?_append_left (by simp; omega), Array.getElem?_modify, if_neg (by omega)]
theorem mut_sort (hk : ∀ x, (enc x).length = k) {w : World} {g o m : Nat} {d d' : Array α} {os : Array Obj} (h : HoldsK enc k w g o d) (hg : g < w.heap.size) (hs : d'.size = d.size) : MutAt enc k (sortWorldK enc k w g o m d' os) g o d'.toList := by
  apply mut_of_holdsK hk
  unfold sortWorldK
  exact holdsK_grow _ _ _ _ _ _ _ (by show g < (w.heap.modify g _).size; simpa using hg) (holdsK_putRowK enc k (Sort.ahead w m) g o d d' (holdsK_ahead _ _ _ _ _ _ _ h) hs)
end

/-- Sorted by series. -/
def insL (x : Leg) : List Leg → List Leg
  | [] => [x]
  | y :: t => if x.s ≤ y.s then x :: y :: t else y :: insL x t
def sortS : List Leg → List Leg
  | [] => []
  | x :: t => insL x (sortS t)
theorem insL_perm (x : Leg) (l : List Leg) : (insL x l).Perm (x :: l) := by
  induction l with
  | nil => exact List.Perm.refl _
  | cons y t ih =>
    unfold insL; split
    · exact List.Perm.refl _
    · exact (ih.cons y).trans (List.Perm.swap x y t)
theorem sortS_perm (l : List Leg) : (sortS l).Perm l := by
  induction l with
  | nil => exact List.Perm.refl _
  | cons x t ih => exact (insL_perm x _).trans (ih.cons x)
theorem sortS_len (l : List Leg) : (sortS l).length = l.length := (sortS_perm l).length_eq
theorem insL_pair (x : Leg) (l : List Leg) (h : l.Pairwise fun a b => a.s ≤ b.s) : (insL x l).Pairwise fun a b => a.s ≤ b.s := by
  induction l with
  | nil => simp [insL]
  | cons y t ih =>
    have h' := List.pairwise_cons.1 h
    unfold insL; split
    · rename_i hxy
      refine List.pairwise_cons.2 ⟨fun b hb => ?_, h⟩
      rcases List.mem_cons.1 hb with rfl | hb
      · exact hxy
      · have := h'.1 b hb; omega
    · rename_i hxy
      refine List.pairwise_cons.2 ⟨fun b hb => ?_, ih h'.2⟩
      rcases List.mem_cons.1 ((insL_perm x t).mem_iff.1 hb) with rfl | hb
      · omega
      · exact h'.1 b hb
theorem sortS_pair (l : List Leg) : (sortS l).Pairwise fun a b => a.s ≤ b.s := by
  induction l with
  | nil => exact List.Pairwise.nil
  | cons x t ih => exact insL_pair x _ ih

/-- Unlike series: what is sorted is the sorted one. -/
def Unlike (l : List Leg) : Prop := ∀ a ∈ l, ∀ b ∈ l, a.s = b.s → a = b
theorem sorted_eq {l : List Leg} {d' : Array Leg} (hu : Unlike l) (hp : PermIn 0 l.toArray.size l.toArray d') (hs : SortedIn (ltOf fun x y : Leg => Lib.compareInt x.s y.s) 0 l.toArray.size d') : d'.toList = sortS l := by
  obtain ⟨h1, _, h3⟩ := hp
  have hp' : d'.toList.Perm l := by
    have e1 : d'.extract 0 l.toArray.size = d' := by rw [← h1]; simp
    have e2 : l.toArray.extract 0 l.toArray.size = l.toArray := by simp
    rw [e1, e2] at h3
    simpa using h3
  refine List.Perm.eq_of_pairwise (le := fun a b : Leg => a.s ≤ b.s) ?_ ?_ (sortS_pair l) (hp'.trans (sortS_perm l).symm)
  · intro a b ha hb h h'
    exact hu a (hp'.mem_iff.1 ha) b ((sortS_perm l).mem_iff.1 hb) (by omega)
  · rw [List.pairwise_iff_getElem]
    intro i j hi hj hij
    have hi' : i < d'.size := by simpa using hi
    have hj' : j < d'.size := by simpa using hj
    have := hs i j (by omega) hij (by rw [← h1]; exact hj')
    rw [cmp_lt, getElem!_pos d' i hi', getElem!_pos d' j hj'] at this
    simp at this ⊢
    exact this

theorem legs_Sort {B : Nat} {w0 : World} (v : Value) (l : List Leg) (w : World) (h : Fresh encLeg 3 B w v l) (hl : l ≠ []) (hu : Unlike l) (h0 : Below B w0 w) (hB : B ≤ w.heap.size) (hn : l.length ≤ 1000000) :
    Calls Tryz.prog 29 #[v, .func (.func 30) #[] #[]] w fun e w' => e = .returned (.tuple #[]) ∧ Fresh encLeg 3 B w' v (sortS l) ∧ Below B w0 w' := by
  rcases h with ⟨rfl, rfl⟩ | ⟨g, cap, rfl, hcap, hm, hg, hlt, hc⟩
  · exact absurd rfl hl
  · have eg : ∀ args w, (callFunc 30 args).run Tryz.prog w = .ok (.enter 30 args) w := enters_of Tryz.func30 (by kernel_rfl) rfl
    have hH := holdsK_of_mut encLeg_len (by omega) hc
    have hcon := AnyQ.slices_SortFunc Tryz.sortLeg 3 (fun _ => by kernel_rfl) (fun _ => by kernel_rfl) encLeg encLeg_len (fun x v hv => by simp [encLeg] at hv; rcases hv with rfl | rfl | rfl <;> rfl) (fun x y => Lib.compareInt x.s y.s) cmp_swo 30 #[] g 0 cap l.toArray w eg (fun _ _ _ _ x y => legs_cmp x y _) hH hlt (by simp; omega)
    refine hcon.mono ?_
    rintro e w' ⟨rfl, d', n, os, hp, hs, rfl⟩
    have e1 := sorted_eq hu hp hs
    have e2 : d'.size = l.toArray.size := hp.1
    refine ⟨rfl, Or.inr ⟨g, cap, by rw [sortS_len], by rw [sortS_len]; exact hcap, hm, hg, ?_, ?_⟩, below_sort h0 hB hg⟩
    · show g < ((w.heap.modify g _) ++ os).size
      simp; omega
    · rw [← e1]; exact mut_sort encLeg_len hH hlt e2

end Go.Proofs.YtdigfjpknckpfaaGreatDoor
