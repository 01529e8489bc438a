/- Package codec: the writer: Enc.Int, Enc.Bytes: their contracts. Condition: the writer's bytes are its own; int64 numbers, few enough for memory. -/
import Derived.Test.YtmnmoadkpidggaaDoorMd
import Derived.Test.YtmnmoadkpidggaaDoorMsgP
import Derived.Test.YtmnmoadkpidggaaDoorNumA
import Derived.Laws.BitsAllLaws
import Derived.Laws.BitsLemmas
namespace Go.Proofs.YtmnmoadkpidggaaDoor
set_option linter.unusedSimpArgs false
set_option linter.unusedVariables false
open Go.RowKit

/-- A writer: its bytes are its own. -/
structure EncAt (w : World) (e B : Nat) (v : Value) (xs : List UInt8) : Prop where
  cell : w.cell? ⟨e, 0, none⟩ = some v
  free : w.frozen? ⟨e, 0, none⟩ = false
  own : w.ownsRow B 5 1 v xs.length (xs.flatMap encB)
  apart : v.ownBlock ≠ some e
  base : B ≤ e

theorem u8_info : (Tryd.prog.info? 5).map (fun i => (i.zero, i.size, i.bytes)) = some (some (.int .u8 0), 1, 1) := by kernel_rfl

theorem xor_ones {x : Nat} (h : x < 18446744073709551616) : x ^^^ 18446744073709551615 = 18446744073709551615 - x := by
  have h1 : (BitVec.ofNat 64 x ^^^ BitVec.allOnes 64) = ~~~(BitVec.ofNat 64 x) := BitVec.xor_allOnes
  have h2 := congrArg BitVec.toNat h1
  rw [BitVec.toNat_xor, BitVec.toNat_not, BitVec.toNat_allOnes, BitVec.toNat_ofNat, Nat.mod_eq_of_lt (by omega)] at h2
  exact h2
theorem zig_pos {n : Int} (h0 : ¬ n < 0) (h : n ≤ 9223372036854775807) : bits BinOp.xor IntKind.u64 (n * 2) (n / 9223372036854775808) = (zig n : Int) := by
  obtain ⟨m, rfl⟩ := Int.eq_ofNat_of_zero_le (show 0 ≤ n by omega)
  have e : ((m : Nat) : Int) / 9223372036854775808 = ((0 : Nat) : Int) := by omega
  rw [e, show (m : Int) * 2 = ((2 * m : Nat) : Int) by omega, u64_xor_nat _ _ (by omega) (by omega), Nat.xor_zero]
  unfold zig; rw [if_pos (by omega)]; omega
theorem zig_neg {n : Int} (h0 : n < 0) (h : -9223372036854775808 ≤ n) : bits BinOp.xor IntKind.u64 (IntKind.u64.wrap (IntKind.u64.wrap n * 2)) (IntKind.u64.wrap (n / 9223372036854775808)) = (zig n : Int) := by
  obtain ⟨m, rfl⟩ : ∃ m : Nat, n = -((m : Nat) : Int) := ⟨n.natAbs, by omega⟩
  have e1 : IntKind.u64.wrap (IntKind.u64.wrap (-((m : Nat) : Int)) * 2) = ((18446744073709551616 - 2 * m : Nat) : Int) := by
    simp [IntKind.wrap, IntKind.bits, IntKind.signed]; omega
  have e2 : IntKind.u64.wrap (-((m : Nat) : Int) / 9223372036854775808) = ((18446744073709551615 : Nat) : Int) := by
    have : -((m : Nat) : Int) / 9223372036854775808 = -1 := by omega
    rw [this]; rfl
  rw [e1, e2, u64_xor_nat _ _ (by omega) (by omega), xor_ones (by omega)]
  unfold zig; rw [if_neg (by omega)]; omega
theorem encI_len {n : Int} (h : I64 n) : (encI n).length ≤ 10 := encU_len 10 _ (by have := zig_lt h; omega) (by omega)
theorem encIs_len : ∀ (l : List Int) (_ : ∀ n ∈ l, I64 n), (encIs l).length ≤ l.length * 10 := by
  intro l
  induction l with
  | nil => intro _; simp [encIs]
  | cons n t ih =>
    intro h
    have h1 := encI_len (h n (by simp))
    have h2 := ih (fun m hm => h m (by simp [hm]))
    show (encI n ++ encIs t).length ≤ _
    rw [List.length_append, List.length_cons]; omega
theorem encIs_take {l : List Int} {k : Nat} (h : k < l.length) : encIs (l.take (k + 1)) = encIs (l.take k) ++ encI l[k] := by
  unfold encIs; rw [List.take_succ_eq_append_getElem h, List.flatMap_append]; simp

/-- A byte is put behind a writer's bytes, and the writer keeps it. -/
theorem EncAt.push {w w1 : World} {e B g cap : Nat} {v : Value} {xs : List UInt8} {c : UInt8} {ob : Obj} (h : EncAt w e B v xs) (hown : w1.ownsRow B 5 1 (.slice (some ⟨g, 0, none⟩) (xs.length + 1) cap) (xs.length + 1) (xs.flatMap encB ++ [.int .u8 (c.toNat : Int)]))
    (hgrow : (w.alloc ob).grownBy w1 v.ownBlock) (hat : v.ownBlock = some g ∨ g = w.heap.size + 1) :
    w1.cell? ⟨e, 0, none⟩ = some v ∧ w1.frozen? ⟨e, 0, none⟩ = false ∧ e < w1.heap.size ∧ EncAt (w1.setCell ⟨e, 0, none⟩ (.slice (some ⟨g, 0, none⟩) (xs.length + 1) cap)) e B (.slice (some ⟨g, 0, none⟩) (xs.length + 1) cap) (xs ++ [c]) ∧ Below B w (w1.setCell ⟨e, 0, none⟩ (.slice (some ⟨g, 0, none⟩) (xs.length + 1) cap)) ∧ Md (fun k => k = e ∨ v.ownBlock = some k) w (w1.setCell ⟨e, 0, none⟩ (.slice (some ⟨g, 0, none⟩) (xs.length + 1) cap)) := by
  have hlt : e < w.heap.size := lt_of_cell h.cell
  have hc : w1.cell? ⟨e, 0, none⟩ = some v := (hgrow.cell_far _ (by simp; omega) (fun h' => h.apart h'.symm)).trans ((Bel.rfl'.al _).cellv h.cell)
  have hf : w1.frozen? ⟨e, 0, none⟩ = false := by
    rw [hgrow.frozen_far _ (by simp; omega) (fun h' => h.apart h'.symm), (Bel.rfl'.al ob).frozen (p := ⟨e, 0, none⟩) hlt]; exact h.free
  have hge : g ≠ e := by
    rcases hat with h' | h'
    · intro h2; rw [h2] at h'; exact h.apart h'
    · omega
  have hsz := hgrow.size
  simp at hsz
  have hb : Below B w w1 := ((Below.refl _ _).alloc (by have := h.base; omega) ob).grown hgrow (by have := h.base; simp; omega) (fun k hk => (h.own.lt k hk).1)
  refine ⟨hc, hf, by omega, ⟨cell_set_same hc, ?_, ?_, ?_, h.base⟩, hb.setCell h.base _, Md.st (S := fun k => k = e ∨ v.ownBlock = some k) ((Md.rfl'.al ob).grown hgrow (fun k hk => Or.inl (Or.inr hk))) (p := ⟨e, 0, none⟩) (Or.inl (Or.inl rfl)) _⟩
  · rw [frozen_set]; exact hf
  · have := (Md.st (S := fun k => k = e) (Md.rfl' (w := w1)) (p := ⟨e, 0, none⟩) (Or.inl rfl) (.slice (some ⟨g, 0, none⟩) (xs.length + 1) cap)).own hown (fun k hk => by
      have hk := Option.some.inj hk
      rw [← hk]; exact hge)
    simpa [encB] using this
  · intro h'; exact hge (Option.some.inj h')

set_option maxRecDepth 100000 in
set_option maxHeartbeats 1000000 in
theorem enc_Int (e B : Nat) (v v2 : Value) (xs : List UInt8) (l : List Int) (w : World) (h : EncAt w e B v xs) (h2 : SlN w v2 l) (hl : ∀ n ∈ l, I64 n) (hn : l.length ≤ 1000000) (hx : xs.length ≤ 100000000) (ha : ∀ g, v2.ownBlock = some g → g ≠ e ∧ v.ownBlock ≠ some g) :
    Calls Tryd.prog 46 #[.pointer (some ⟨e, 0, none⟩), v2] w fun en w' => en = .returned (.tuple #[]) ∧ Below B w w' ∧ ∃ v', EncAt w' e B v' (xs ++ encIs l) := by
  obtain ⟨i0, hi, hz0, hz1, hz2⟩ := info_parts u8_info
  obtain ⟨a2, c2, rfl⟩ := slot_shape h2
  have HL := Lib.hid (encIs_len l hl)
  have HI := Lib.hid hl
  have hB0 := h.base
  clear hl
  go_enter Tryd.func46, Tryd.ntmps46
  go_wp2_with fail
  go_loopw [9] (fun i wr => ∃ k : Nat, ∃ v', k ≤ l.length ∧ i = .int .i64 k ∧ Below B w wr ∧ EncAt wr e B v' (xs ++ encIs (l.take k)) ∧ SlN wr (.slice a2 l.length c2) l ∧ (∀ g, (Value.slice a2 l.length c2).ownBlock = some g → g ≠ e ∧ v'.ownBlock ≠ some g)) (fun i _ => l.length - (intOf i).toNat)
  case atStart => exact ⟨0, v, by omega, rfl, Below.refl _ _, by simpa [encIs] using h, h2, ha⟩
  case round =>
    obtain ⟨k, v', hk, rfl, hB, hE, hS, hA⟩ := hrel
    by_cases hlt : k < l.length
    · rcases hS with ⟨_, rfl⟩ | ⟨b, o, cap, hq, hcap, hm, hr⟩
      · simp at hlt
      obtain ⟨rfl, rfl⟩ : a2 = some ⟨b, o, none⟩ ∧ c2 = cap := by injection hq with e1 _ e2; exact ⟨e1, e2⟩
      have d0 := num_cell hr hlt
      have hi64 := HI.out l[k] (List.getElem_mem hlt)
      have HT := Lib.hid (encIs_take hlt)
      have hlen : (encIs (l.take k)).length ≤ 10000000 := by
        have := encIs_len (l.take k) (fun n hn => HI.out n (List.mem_of_mem_take hn))
        have h2 : (l.take k).length ≤ l.length := by simp; omega
        omega
      clear hq
      generalize l[k] = n at d0 hi64 HT
      obtain ⟨ys, hys⟩ : ∃ ys, ys = xs ++ encIs (l.take k) := ⟨_, rfl⟩
      have hyl : ys.length ≤ 120000000 := by rw [hys, List.length_append]; omega
      rw [← hys] at hE
      have HN : Hid (xs ++ encIs (l.take (k + 1)) = ys ++ encI n) := by unfold Hid; rw [HT.out, hys, List.append_assoc]
      have hel := encI_len hi64
      have HZ : Hid (encI n = encU (zig n)) := rfl
      have hzl := zig_lt hi64
      clear hys
      unfold I64 at hi64
      obtain ⟨hi1, hi2⟩ := hi64
      have hzz : (n < 0 ∧ bits BinOp.xor IntKind.u64 (IntKind.u64.wrap (IntKind.u64.wrap n * 2)) (IntKind.u64.wrap (n / 9223372036854775808)) = (zig n : Int)) ∨ (¬ n < 0 ∧ bits BinOp.xor IntKind.u64 (n * 2) (n / 9223372036854775808) = (zig n : Int)) := by
        by_cases hn0 : n < 0
        · exact Or.inl ⟨hn0, zig_neg hn0 hi1⟩
        · exact Or.inr ⟨hn0, zig_pos hn0 hi2⟩
      generalize zig n = u0 at hzz HZ hzl
      obtain ⟨zs, hzs⟩ : ∃ zs, zs = encI n := ⟨_, rfl⟩
      rw [← hzs] at HZ hel HN
      have HZ := Lib.hid HZ
      clear hzs
      rcases hzz with ⟨hn0, hzz⟩ | ⟨hn0, hzz⟩
      all_goals
        go_wp2_with fail
        obtain ⟨wo, rfl⟩ : ∃ wo : World, wo = wr := ⟨_, rfl⟩
        go_loopw [6] (fun uv wr => ∃ u : Nat, ∃ v'' ps, uv = .int .u64 u ∧ u < 18446744073709551616 ∧ Below B w wr ∧ EncAt wr e B v'' (ys ++ ps) ∧ Hid (zs = ps ++ encU u) ∧ RowAt encN 1 wr b o l ∧ v''.ownBlock ≠ some b) (fun uv _ => (intOf uv).toNat)
        case atStart => exact ⟨u0, v', [], rfl, hzl, hB, by simpa using hE, HZ.out, hr, (hA b rfl).2⟩
        case round =>
          obtain ⟨u, v'', ps, rfl, hu, hB1, hE1, HP, hR, hne⟩ := hrel
          have hE1' := hE1
          obtain ⟨c0, f0, own, ap, bs⟩ := hE1
          have hew : e < wr.heap.size := lt_of_cell c0
          have hpl : ps.length ≤ 10 := by
            have h1 := congrArg List.length HP.out
            rw [List.length_append] at h1; omega
          have hE2 := Lib.hid hE1'
          have HO := Lib.hid own
          have hbw : b < wr.heap.size := lt_of_cell (num_cell hR hlt)
          have hpl2 : (ys ++ ps).length ≤ 120000010 := by rw [List.length_append]; omega
          clear own
          have hE1 := hE2
          clear hE2 hE1'
          by_cases h128 : u < 128
          · have HU : Hid (ys ++ zs = (ys ++ ps) ++ [UInt8.ofNat u]) := by unfold Hid; rw [HP.out, encU_one h128, List.append_assoc]
            have hu8 : ((UInt8.ofNat u).toNat : Int) = (u : Int) := by rw [u8n (by omega)]
            generalize ys ++ ps = qs at *
            go_wp2_with (at_builtin; refine wpList_append_lies _ rfl _ _ 22 rfl B 5 i0 _ 1 1 Tryd.underlying22 hi hz0 hz1 hz2 rfl (by omega) v'' qs.length _ rfl (Bel.own (Bel.rfl'.al _) HO.out) ⟨wr.heap.size, 0, none⟩ 1 1 [.int .u8 u] rfl rfl (World.news_of_block (cs := #[.int .u8 u]) (t := 5) (fr := (0, 0)) (heap_alloc_new wr _)) (by simp [Value.oneCell']) (by omega) (by unfold maxLen; omega) (by omega) (by simp; omega) (wr.heap.size + 1) (by simp) ?_; intro g cap w1 hown1 hgrow hat hlt2; obtain ⟨k1, k2, k3, k4, k5, k6⟩ := EncAt.push (c := UInt8.ofNat u) hE1.out (by rw [hu8]; exact hown1) hgrow hat)
            go_roundw
            case rel =>
              refine ⟨k + 1, _, hlt, by go_num, hB1.trans k5, by rw [HN.out, HU.out]; exact k4, Or.inr ⟨b, o, c2, rfl, hcap, hm, k6.row encN_len hR ?_⟩, fun q hq => ?_⟩
              · rintro (h | h)
                · exact (hA b rfl).1 h
                · exact hne h
              · have hq := Option.some.inj hq
                subst hq
                refine ⟨(hA b rfl).1, fun h => ?_⟩
                have h : g = b := Option.some.inj h
                rcases hat with h' | h'
                · rw [h] at h'; exact hne h'
                · omega
            case measure => simp [intOf]; omega
          · obtain ⟨r, hr2⟩ : ∃ r : Nat, r = u % 128 := ⟨_, rfl⟩
            have hr3 : r < 128 := by omega
            have E1 : bits BinOp.and IntKind.u64 (u : Int) 127 = (r : Int) := by
              rw [show (127 : Int) = ((127 : Nat) : Int) from rfl, u64_and_nat _ _ hu (by omega), nat_mask7, hr2]
            have E2 : bits BinOp.or IntKind.u8 (r : Int) 128 = (r : Int) + 128 := by
              rw [show (128 : Int) = ((128 : Nat) : Int) from rfl, u8_or_nat _ _ (by omega) (by omega), Nat.or_comm, nat_join 7 128 r (by decide) hr3]; omega
            have HU : Hid (zs = (ps ++ [UInt8.ofNat (r + 128)]) ++ encU (u / 128)) := by unfold Hid; rw [HP.out, encU_more h128, ← hr2]; simp
            have HY : Hid (ys ++ (ps ++ [UInt8.ofNat (r + 128)]) = (ys ++ ps) ++ [UInt8.ofNat (r + 128)]) := by unfold Hid; simp
            have hu8 : ((UInt8.ofNat (r + 128)).toNat : Int) = (r : Int) + 128 := by rw [u8n (by omega)]; omega
            have hq1 : u / 128 < 18446744073709551616 := by omega
            have hq2 : u / 128 < u := by omega
            clear hr2
            generalize ys ++ ps = qs at *
            go_wp2_with (at_builtin; refine wpList_append_lies _ rfl _ _ 22 rfl B 5 i0 _ 1 1 Tryd.underlying22 hi hz0 hz1 hz2 rfl (by omega) v'' qs.length _ rfl (Bel.own (Bel.rfl'.al _) HO.out) ⟨wr.heap.size, 0, none⟩ 1 1 [.int .u8 (r + 128)] rfl rfl (World.news_of_block (cs := #[.int .u8 (r + 128)]) (t := 5) (fr := (0, 0)) (heap_alloc_new wr _)) (by simp [Value.oneCell']) (by omega) (by unfold maxLen; omega) (by omega) (by simp; omega) (wr.heap.size + 1) (by simp) ?_; intro g cap w1 hown1 hgrow hat hlt2; obtain ⟨k1, k2, k3, k4, k5, k6⟩ := EncAt.push (c := UInt8.ofNat (r + 128)) hE1.out (by rw [hu8]; exact hown1) hgrow hat)
            go_roundw
            case rel =>
              refine ⟨u / 128, _, ps ++ [UInt8.ofNat (r + 128)], by simp, hq1, hB1.trans k5, by rw [HY.out]; exact k4, HU.out, k6.row encN_len hR ?_, fun h => ?_⟩
              · rintro (h | h)
                · exact (hA b rfl).1 h
                · exact hne h
              · have h : g = b := Option.some.inj h
                rcases hat with h' | h'
                · rw [h] at h'; exact hne h'
                · omega
            case measure => simp [intOf]; omega
    · obtain rfl : k = l.length := by omega
      rw [List.take_of_length_le (Nat.le_refl _)] at hE
      go_wp2_with fail
      go_end0
      exact ⟨rfl, hB, _, hE⟩
end Go.Proofs.YtmnmoadkpidggaaDoor
