/- Numbers as bytes: Enc.Bytes, the reference's Int: their contracts. Condition: int64 numbers. -/
import Derived.Test.YtmnmoadkpidggaaDoorMsgA
namespace Go.Proofs.YtmnmoadkpidggaaDoor
set_option linter.unusedSimpArgs false
set_option linter.unusedVariables false
open Go.RowKit

theorem enc_Bytes (e B : Nat) (v : Value) (xs : List UInt8) (w : World) (h : EncAt w e B v xs) (hn : xs.length ≤ 1000000000) :
    Calls Tryd.prog 47 #[.pointer (some ⟨e, 0, none⟩)] w fun en w' => ∃ v', en = .returned v' ∧ Fresh encB 1 w.heap.size w' v' xs ∧ Bel w w' := by
  have HC := Lib.hid (bytes_Clone v xs w (own_sl encB_len rfl h.own) hn)
  have hc := h.cell
  clear h
  go_enter Tryd.func47, Tryd.ntmps47
  go_wp2_with fail
  refine HC.out.mono ?_
  rintro e1 w1 ⟨v1, rfl, hown, hB⟩
  have HF := Lib.hid (own_fresh encB_len rfl hown)
  have HP := Lib.hid (bytes_Clip_own v1 w1 hown)
  clear hown
  go_wp2_with fail
  refine HP.out.mono ?_
  rintro e1 w2 ⟨⟨a, c, rfl, rfl⟩, rfl⟩
  go_wp2_with fail
  go_ret
  refine ⟨_, rfl, ?_, hB⟩
  rcases HF.out with ⟨h1, h2⟩ | ⟨g, cap, h1, h2, h3, h4, h5, h6⟩
  · injection h1 with e1 e2 e3
    subst e1 h2
    exact Or.inl ⟨rfl, rfl⟩
  · injection h1 with e1 e2 e3
    subst e1
    exact Or.inr ⟨g, xs.length, rfl, Nat.le_refl _, Nat.le_trans h2 h3, h4, h5, h6⟩

theorem own_push {w : World} {B : Nat} {T : TypeId} {v : Value} {xs : List UInt8} {c : UInt8} {x : Int} (hc : (c.toNat : Int) = x) (h : w.ownsRow B T 1 v (xs.length + 1) (xs.flatMap encB ++ [.int .u8 x])) : w.ownsRow B T 1 v (xs ++ [c]).length ((xs ++ [c]).flatMap encB) := by
  rw [List.flatMap_append, List.length_append]
  subst hc
  exact h
set_option maxRecDepth 100000 in
set_option maxHeartbeats 1000000 in
theorem ref_Int (n : Int) (w : World) (hn : I64 n) : Calls Tryd.prog 50 #[.int .i64 n] w fun e w' => ∃ v, e = .returned v ∧ w'.ownsRow w.heap.size 5 1 v (encI n).length ((encI n).flatMap encB) ∧ Bel w w' := by
  obtain ⟨i0, hi, hz0, hz1, hz2⟩ := info_parts bytes_info
  have hel := encI_len hn
  have hzl := zig_lt hn
  have HZ : Hid (encI n = encU (zig n)) := rfl
  have hzz : (n < 0 ∧ bits BinOp.or IntKind.u64 ((-(n + 1)) * 2) 1 = (zig n : Int)) ∨ (¬ n < 0 ∧ n * 2 = (zig n : Int)) := by
    unfold I64 at hn
    by_cases h0 : n < 0
    · left
      refine ⟨h0, ?_⟩
      obtain ⟨m, hm⟩ : ∃ m : Nat, -(n + 1) = (m : Int) := ⟨(-(n + 1)).toNat, by omega⟩
      rw [hm, show (m : Int) * 2 = ((2 * m : Nat) : Int) by omega, show (1 : Int) = ((1 : Nat) : Int) from rfl, u64_or_nat _ _ (by omega) (by omega), nat_join 1 (2 * m) 1 (by omega) (by omega)]
      unfold zig; rw [if_neg (by omega)]; omega
    · right
      refine ⟨h0, ?_⟩
      unfold zig; rw [if_pos (by omega)]; omega
  unfold I64 at hn
  obtain ⟨hn1, hn2⟩ := hn
  generalize zig n = u0 at hzz HZ hzl
  generalize encI n = zs at HZ hel ⊢
  have HZ := Lib.hid HZ
  rcases hzz with ⟨hn0, hzz⟩ | ⟨hn0, hzz⟩
  all_goals
    go_enter Tryd.func50, Tryd.ntmps50
    go_wp2_with fail
    go_loopw [3, 4] (fun uv ov wr => ∃ u : Nat, ∃ ps, uv = .int .u64 u ∧ u < 18446744073709551616 ∧ wr.ownsRow w.heap.size 5 1 ov ps.length (ps.flatMap encB) ∧ Bel w wr ∧ Hid (zs = ps ++ encU u)) (fun uv _ _ => (intOf uv).toNat)
    case atStart => exact ⟨u0, [], rfl, hzl, World.ownsRow_nil _ _ _ _, Bel.rfl', HZ.out⟩
    case round =>
      obtain ⟨u, ps, rfl, hu, hown, hB, HP⟩ := hrel
      have hpl : ps.length ≤ 10 := by
        have h1 := congrArg List.length HP.out
        rw [List.length_append] at h1; omega
      have OW := Lib.hid hown
      have hbs := hB.size
      clear hown
      by_cases h128 : u < 128
      · have HU : Hid (zs = ps ++ [UInt8.ofNat u]) := by unfold Hid; rw [HP.out, encU_one h128]
        have hu8 : ((UInt8.ofNat u).toNat : Int) = (u : Int) := by rw [u8n (by omega)]
        go_wp2_with (at_builtin; refine wpList_append_lies _ rfl _ _ 22 rfl w.heap.size 5 i0 _ 1 1 Tryd.underlying22 hi hz0 hz1 hz2 rfl (by omega) u4 ps.length _ rfl (Bel.own (Bel.rfl'.al _) OW.out) ⟨wr.heap.size, 0, none⟩ 1 1 [.int .u8 u] rfl rfl (World.news_of_block (cs := #[.int .u8 u]) (t := 5) (fr := (0, 0)) (heap_alloc_new wr _)) (by simp [Value.oneCell']) (by omega) (by unfold maxLen; omega) (by omega) (by simp; omega) (wr.heap.size + 1) (by simp) ?_; intro g cap w1 hown1 hgrow hat hlt2)
        go_ret
        refine ⟨_, rfl, ?_, Below.grown (hB.al _) hgrow (by simp; omega) (fun q hq => (OW.out.lt q hq).1)⟩
        rw [HU.out]
        exact own_push hu8 hown1
      · obtain ⟨r, hr2⟩ : ∃ r : Nat, r = u % 128 := ⟨_, rfl⟩
        have hr3 : r < 128 := by omega
        have E1 : bits BinOp.and IntKind.u64 (u : Int) 127 = (r : Int) := by
          rw [show (127 : Int) = ((127 : Nat) : Int) from rfl, u64_and_nat _ _ hu (by omega), nat_mask7, hr2]
        have E2 : bits BinOp.or IntKind.u64 (r : Int) 128 = (r : Int) + 128 := by
          rw [show (128 : Int) = ((128 : Nat) : Int) from rfl, u64_or_nat _ _ (by omega) (by omega), Nat.or_comm, nat_join 7 128 r (by decide) hr3]; omega
        have HU : Hid (zs = (ps ++ [UInt8.ofNat (r + 128)]) ++ encU (u / 128)) := by unfold Hid; rw [HP.out, encU_more h128, ← hr2]; simp
        have hu8 : ((UInt8.ofNat (r + 128)).toNat : Int) = (r : Int) + 128 := by rw [u8n (by omega)]; omega
        have hq1 : u / 128 < 18446744073709551616 := by omega
        have hq2 : u / 128 < u := by omega
        clear hr2
        go_wp2_with (at_builtin; refine wpList_append_lies _ rfl _ _ 22 rfl w.heap.size 5 i0 _ 1 1 Tryd.underlying22 hi hz0 hz1 hz2 rfl (by omega) u4 ps.length _ rfl (Bel.own (Bel.rfl'.al _) OW.out) ⟨wr.heap.size, 0, none⟩ 1 1 [.int .u8 (r + 128)] rfl rfl (World.news_of_block (cs := #[.int .u8 (r + 128)]) (t := 5) (fr := (0, 0)) (heap_alloc_new wr _)) (by simp [Value.oneCell']) (by omega) (by unfold maxLen; omega) (by omega) (by simp; omega) (wr.heap.size + 1) (by simp) ?_; intro g cap w1 hown1 hgrow hat hlt2)
        go_roundw
        case rel =>
          refine ⟨u / 128, ps ++ [UInt8.ofNat (r + 128)], by simp, hq1, ?_, Below.grown (hB.al _) hgrow (by simp; omega) (fun q hq => (OW.out.lt q hq).1), HU.out⟩
          exact own_push hu8 hown1
        case measure => simp [intOf]; omega
end Go.Proofs.YtmnmoadkpidggaaDoor
