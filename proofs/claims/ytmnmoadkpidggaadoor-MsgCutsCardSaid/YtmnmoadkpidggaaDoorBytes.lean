/- Bytes copied and clipped: slices.Clone, slices.Clip. Condition: the slice reads as a list; few enough for memory. -/
import Derived.Test.YtmnmoadkpidggaaDoorMd
import Derived.Test.YtmnmoadkpidggaaDoorAppend
import Derived.Test.YtmnmoadkpidggaaDoorNumA
import Derived.Maps.AppendAt
namespace Go.Proofs.YtmnmoadkpidggaaDoor
set_option linter.unusedSimpArgs false
set_option linter.unusedVariables false
open Go.RowKit

theorem bytes_info : (Tryd.prog.info? 5).map (fun i => (i.zero, i.size, i.bytes)) = some (some (.int .u8 0), 1, 1) := by kernel_rfl
set_option maxRecDepth 100000 in
theorem bytes_Clone (v : Value) (l : List _) (w : World) (h : Sl encB 1 w v l) (hn : l.length ≤ 1000000000) :
    Calls Tryd.prog 32 #[v] w fun e w' => ∃ v', e = .returned v' ∧ w'.ownsRow w.heap.size 5 1 v' l.length (l.flatMap encB) ∧ Bel w w' := by
  rcases h with ⟨rfl, rfl⟩ | ⟨b, o, cap, rfl, hcap, hm, hc⟩
  · have hq := fun W => Lib.run_eql_slice_nil (P := Tryd.prog) W 22 5 none 0 0 0 0 Tryd.underlying22
    go_enter Tryd.func32, Tryd.ntmps32
    go_wp2_with fail
    go_ret
    exact ⟨_, rfl, World.ownsRow_nil _ _ _ _, Bel.rfl'⟩
  · obtain ⟨i0, hi, hz0, hz1, hz2⟩ := info_parts bytes_info
    have hq := fun W => Lib.run_eql_slice_nil (P := Tryd.prog) W 22 5 (some ⟨b, o, none⟩) l.length cap 0 0 Tryd.underlying22
    have HC := Lib.hid hc
    have HF := Lib.hid (flat_len encB_len l)
    clear hc
    go_enter Tryd.func32, Tryd.ntmps32
    go_wp2_with (at_builtin; refine wpList_append_own_at _ rfl _ _ 22 rfl w.heap.size 5 i0 _ 1 1 Tryd.underlying22 hi hz0 hz1 hz2 rfl (by omega) (.slice (some ⟨w.heap.size, 0, none⟩) 0 0) 0 [] rfl (own_empty (heap_alloc_new w _) (Nat.le_refl _)) ⟨b, o, none⟩ l.length cap (l.flatMap encB) rfl HF.out (news_row encB_len (HC.out.bel encB_len (Bel.rfl'.al _))) (encB_one l) (by unfold maxLen; omega) (by omega) (by simp) ?_; intro v' w1 hown hgrow hiff hat)
    go_ret
    exact ⟨_, rfl, by simpa using hown, Below.grown (Bel.rfl'.al _) hgrow (by simp) (fun q hq => by have hq := Option.some.inj hq; exact Nat.le_of_eq hq)⟩

set_option maxHeartbeats 400000 in
theorem bytes_Clip (a : Option Addr) (n c : Nat) (w : World) (hc : n ≤ c) (hm : c ≤ maxLen) : Calls Tryd.prog 76 #[.slice a n c] w fun e w' => e = .returned (.slice a n n) ∧ w' = w := by
  unfold maxLen at hm
  go_enter Tryd.func76, Tryd.ntmps76
  go_wp2
  go_ret
  exact ⟨rfl, rfl⟩
/-- A row that a call owns is clipped. -/
theorem bytes_Clip_own {B : Nat} {T : TypeId} {k n : Nat} {xs : List Value} (v : Value) (w : World) (h : w.ownsRow B T k v n xs) : Calls Tryd.prog 76 #[v] w fun e w' => (∃ a c, v = .slice a n c ∧ e = .returned (.slice a n n)) ∧ w' = w := by
  rcases h.2 with ⟨rfl, rfl⟩ | ⟨g, cap, cur, rfl, hg, hh, h1, h2, h3, h4⟩
  · exact (bytes_Clip none 0 0 w (by omega) (by unfold maxLen; omega)).mono fun e w' ⟨h1, h2⟩ => ⟨⟨_, _, rfl, h1⟩, h2⟩
  · exact (bytes_Clip _ n cap w h1 h2).mono fun e w' ⟨h1, h2⟩ => ⟨⟨_, _, rfl, h1⟩, h2⟩
end Go.Proofs.YtmnmoadkpidggaaDoor
