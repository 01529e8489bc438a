/- Errors in words: an Errno's, a fault's; the reference's. Condition: numbers that can be told; texts that are no giants. -/
import Derived.Test.YtmnmoadkpidggaaDoorRefErr
import Derived.Test.YtmnmoadkpidggaaDoorRefText
import Derived.Handy
namespace Go.Proofs.YtmnmoadkpidggaaDoor
set_option linter.unusedSimpArgs false
set_option linter.unusedVariables false
open Go.RowKit

def wordL : List (List UInt8) := [[111, 107], [97, 114, 103], [102, 111, 114, 109], [115, 104, 111, 114, 116], [108, 111, 110, 103], [110, 97, 109, 101], [116, 119, 105, 99, 101], [115, 116, 97, 116, 101], [102, 117, 108, 108], [114, 97, 110, 103, 101], [103, 114, 105, 100], [99, 114, 111, 115, 115], [107, 105, 108, 108], [115, 101, 113], [115, 117, 109]]
def wordS (n : Int) : List UInt8 := wordL.getD n.toNat []
theorem wordS_len (n : Int) : (wordS n).length ≤ 5 := by
  unfold wordS
  rcases Nat.lt_or_ge n.toNat wordL.length with h | h
  · have key : ∀ x ∈ wordL, x.length ≤ 5 := by decide
    rw [List.getD_eq_getElem?_getD, List.getElem?_eq_getElem h]
    exact key _ (List.getElem_mem h)
  · rw [List.getD_eq_getElem?_getD, List.getElem?_eq_none h]; simp

set_option maxRecDepth 100000 in
set_option maxHeartbeats 4000000 in
theorem errno_Error (n : Int) (w : World) (h0 : 0 ≤ n) (h1 : n ≤ 14) : Calls Tryd.prog 122 #[.int .i64 n] w fun e w' => e = .returned (.string ⟨(wordS n).toArray⟩) ∧ Bel w w' := by
  have hn : n = 0 ∨ n = 1 ∨ n = 2 ∨ n = 3 ∨ n = 4 ∨ n = 5 ∨ n = 6 ∨ n = 7 ∨ n = 8 ∨ n = 9 ∨ n = 10 ∨ n = 11 ∨ n = 12 ∨ n = 13 ∨ n = 14 := by omega
  rcases hn with rfl | rfl | rfl | rfl | rfl | rfl | rfl | rfl | rfl | rfl | rfl | rfl | rfl | rfl | rfl
  all_goals
    go_enter Tryd.func122, Tryd.ntmps122
    go_wp2_with fail
    go_ret
    exact ⟨rfl, Bel.rfl'⟩

set_option maxRecDepth 100000 in
set_option maxHeartbeats 4000000 in
theorem ref_Word (n : Int) (w : World) (h0 : 0 ≤ n) (h1 : n ≤ 14) : Calls Tryd.prog 68 #[.int .i64 n] w fun e w' => e = .returned (.string ⟨(wordS n).toArray⟩) ∧ Bel w w' := by
  have hn : n = 0 ∨ n = 1 ∨ n = 2 ∨ n = 3 ∨ n = 4 ∨ n = 5 ∨ n = 6 ∨ n = 7 ∨ n = 8 ∨ n = 9 ∨ n = 10 ∨ n = 11 ∨ n = 12 ∨ n = 13 ∨ n = 14 := by omega
  rcases hn with rfl | rfl | rfl | rfl | rfl | rfl | rfl | rfl | rfl | rfl | rfl | rfl | rfl | rfl | rfl
  all_goals
    go_enter Tryd.func68, Tryd.ntmps68
    go_wp2_with fail
    go_ret
    exact ⟨rfl, Bel.rfl'.al _⟩

def partT (x : List UInt8 × Int) : List UInt8 := x.1 ++ [32] ++ Lib.itoa x.2 ++ [58, 32]
/-- An error's words. -/
def errT (e : Er) : List UInt8 := (partsOf e).flatMap partT ++ wordS (numOf e)
/-- An error that ends in a number, whose parts are short and can be told. -/
def Good (w : World) : Er → Prop
  | .nil => False
  | .no n => 1 ≤ n ∧ n ≤ 14
  | .fault p a e => p.length ≤ 1000 ∧ Tells w a ∧ Good w e
theorem Good.bel {w w' : World} (hB : Bel w w') : ∀ {e : Er}, Good w e → Good w' e
  | .nil, h => h
  | .no _, h => h
  | .fault _ _ e, ⟨h1, h2, h3⟩ => ⟨h1, h2.bel hB, Good.bel hB (e := e) h3⟩
theorem Good.num {w : World} : ∀ {e : Er}, Good w e → 1 ≤ numOf e ∧ numOf e ≤ 14
  | .no _, h => h
  | .fault _ _ e, ⟨_, _, h3⟩ => Good.num (e := e) h3
theorem errT_fault (p : List UInt8) (a : Int) (e : Er) : errT (.fault p a e) = p ++ [32] ++ Lib.itoa a ++ [58, 32] ++ errT e := by
  unfold errT partT
  simp [partsOf, numOf]

end Go.Proofs.YtmnmoadkpidggaaDoor
