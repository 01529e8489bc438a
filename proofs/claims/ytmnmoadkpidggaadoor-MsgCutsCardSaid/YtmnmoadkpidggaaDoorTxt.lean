/- Numbers as texts: num.Text. Condition: the table of powers of ten as its initialiser lays it, or numbers below a hundred. -/
import Derived.Test.YtmnmoadkpidggaaDoorNumA
import Derived.Lib.LaidTab
import Derived.Lib.SmallJoins
import Derived.Lib.ItoaLen
namespace Go.Proofs.YtmnmoadkpidggaaDoor
set_option linter.unusedSimpArgs false
set_option linter.unusedVariables false
open Go.RowKit Go.Sort

def Tab (w : World) : Prop := Lib.TabIs Tryd.prog w "internal/strconv.uint64pow10" .u64 Lib.pow10Tab
theorem Tab.bel {w w' : World} (h : Tab w) (hB : Bel w w') : Tab w' :=
  Joins.tab_stays (g := 1) (by kernel_rfl) h hB (Nat.le_refl _)
/-- A number that can be told here. -/
def Tells (w : World) (n : Int) : Prop := (Tab w ∧ I64 n) ∨ (0 ≤ n ∧ n < 100)
theorem Tells.bel {w w' : World} {n : Int} (h : Tells w n) (hB : Bel w w') : Tells w' n := by
  rcases h with ⟨h, h'⟩ | h
  · exact Or.inl ⟨h.bel hB, h'⟩
  · exact Or.inr h
theorem bel_grow (w : World) (k : Nat) (os : Array Obj) : Bel w (grow (w.drewN k) os) := by
  refine ⟨rfl, rfl, rfl, ?_, fun i hi => ?_⟩
  · show w.heap.size ≤ (w.heap ++ os).size
    simp
  · show (w.heap ++ os)[i]? = w.heap[i]?
    rw [Array.getElem?_append_left hi]

theorem fmt_any (n : Int) (w : World) (h : Tells w n) : Calls Tryd.prog 88 #[.int .i64 n, .int .i64 10] w fun e w' => e = .returned (.string ⟨(Lib.itoa n).toArray⟩) ∧ Bel w w' := by
  rcases h with ⟨ht, hi⟩ | ⟨h0, h1⟩
  · refine (Tryd.strconv_FormatInt_10 n hi.1 hi.2 w ht).mono ?_
    rintro e w' ⟨rfl, k, os, rfl⟩
    exact ⟨rfl, bel_grow _ _ _⟩
  · obtain ⟨m, rfl⟩ := Int.eq_ofNat_of_zero_le h0
    refine (Tryd.strconv_FormatInt_10_small m (by omega) w).mono ?_
    rintro e w' ⟨rfl, rfl⟩
    refine ⟨?_, Bel.rfl'⟩
    unfold Lib.itoa
    rw [if_neg (by omega)]; rfl

theorem num_Text (n : Int) (w : World) (h : Tells w n) : Calls Tryd.prog 78 #[.int .i64 n] w fun e w' => e = .returned (.string ⟨(Lib.itoa n).toArray⟩) ∧ Bel w w' := by
  have H := Lib.hid (fmt_any n w h)
  clear h
  generalize Lib.itoa n = t at H ⊢
  go_enter Tryd.func78, Tryd.ntmps78
  go_wp2_with fail
  refine H.out.mono ?_
  rintro e w' ⟨rfl, hb⟩
  go_wp2_with fail
  go_ret
  exact ⟨rfl, hb⟩

theorem Tells.i64 {w : World} {n : Int} (h : Tells w n) : I64 n := by
  rcases h with h | h
  · exact h.2
  · unfold I64; omega
theorem Tells.len {w : World} {n : Int} (h : Tells w n) : (Lib.itoa n).length ≤ 21 := Lib.itoa_length_le n h.i64.1 h.i64.2
def encS (x : List UInt8) : List Value := [.string ⟨x.toArray⟩]
theorem join_len (M : Nat) (xs : List (List UInt8)) (sep : List UInt8) (h : ∀ x ∈ xs, x.length ≤ M) : (Lib.join xs sep).length ≤ xs.length * (M + sep.length) := by
  unfold Lib.join
  induction xs with
  | nil => simp [List.intercalate]
  | cons x r ih =>
    have hx := h x (by simp)
    have hr := ih (fun y hy => h y (by simp [hy]))
    cases r with
    | nil => simp [List.intercalate]; omega
    | cons y r =>
      simp only [List.intercalate, List.intersperse_cons_cons, List.flatten_cons, List.length_append, List.length_cons] at hr ⊢
      have e : (r.length + 1 + 1) * (M + sep.length) = (r.length + 1) * (M + sep.length) + (M + sep.length) := Nat.succ_mul _ _
      omega
theorem str_add (P : Program) (W : World) (a b : List UInt8) (ha : a.length ≤ 8000000) (hb : b.length ≤ 8000000) : (Op.stringOp .add ⟨a.toArray⟩ ⟨b.toArray⟩).run P W = .ok (.string ⟨(a ++ b).toArray⟩) W :=
  run_string_add_lists W a b (by omega) (by omega)

end Go.Proofs.YtmnmoadkpidggaaDoor
