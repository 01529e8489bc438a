/- Messages as texts: msg.words: its contract; what is written to a builder. Condition: numbers that can be told. -/
import Derived.Test.YtmnmoadkpidggaaDoorMsgC
import Derived.Test.YtmnmoadkpidggaaDoorTxt
namespace Go.Proofs.YtmnmoadkpidggaaDoor
set_option linter.unusedSimpArgs false
set_option linter.unusedVariables false
open Go.RowKit

theorem bld_Write (B b : Nat) (bs : List Value) (s : ByteArray) (w : World) (h : Lib.IsBuilder 108 5 B b bs w) (hlen : bs.length + s.size ≤ 140737488355328) (hBw : B ≤ w.heap.size) :
    Calls Tryd.prog 51 #[.pointer (some ⟨b, 0, none⟩), .string s] w fun e w' => e = .returned (.tuple #[.int .i64 s.size, .nilIface]) ∧ (Lib.BuilderAt 108 5 B b (.pointer (some ⟨b, 0, none⟩)) (bs ++ Lib.strCells s) w' ∧ Below B w w') :=
  Any.Builder_WriteString { Tryd.lays156 with } Tryd.Builder_Extra_156 B b bs s w h hlen hBw
theorem bld_bel {T e : TypeId} {B b : Nat} {p : Value} {bs : List Value} {w w' : World} (h : Lib.BuilderAt T e B b p bs w) (hB : Bel w w') : Lib.BuilderAt T e B b p bs w' := by
  have hlt := h.lt
  obtain ⟨h1, v, h2, h3, h4⟩ := h
  exact ⟨h1, v, (hB.block b hlt).trans h2, hB.own h3, h4⟩

def wordsS (l : List Int) : List UInt8 := Lib.join (l.map Lib.itoa) [32]
theorem wordsS_len (w : World) (l : List Int) (h : ∀ n ∈ l, Tells w n) : (wordsS l).length ≤ l.length * 22 := by
  have := join_len 21 (l.map Lib.itoa) [32] (by intro y hy; obtain ⟨x, hx, rfl⟩ := List.mem_map.1 hy; exact (h x hx).len)
  simpa [wordsS] using this
theorem str_info : (Tryd.prog.info? 9).map (fun i => (i.zero, i.size, i.bytes)) = some (some (.string ⟨#[]⟩), 1, 16) := by kernel_rfl

set_option maxRecDepth 100000 in
set_option maxHeartbeats 1000000 in
theorem msg_words (v : Value) (l : List Int) (w : World) (h : SlN w v l) (h0 : l ≠ []) (hn : l.length ≤ 1000) (ht : ∀ n ∈ l, Tells w n) :
    Calls Tryd.prog 52 #[v] w fun e w' => e = .returned (.string ⟨(wordsS l).toArray⟩) ∧ Bel w w' := by
  obtain ⟨i0, hi, hz0, hz1, hz2⟩ := info_parts str_info
  rcases h with ⟨_, h⟩ | ⟨b, o, cap, rfl, hcap, hm, hc⟩
  · exact absurd h h0
  have HT := Lib.hid ht
  have HC := Lib.hid hc
  have hjl := wordsS_len w l ht
  clear ht hc
  go_enter Tryd.func52, Tryd.ntmps52
  go_wp2_with fail
  go_loopw [8, 3] (fun kv ov wr => ∃ k : Nat, k ≤ l.length ∧ kv = .int .i64 k ∧ Bel w wr ∧ wr.ownsRow w.heap.size 9 1 ov k (((l.take k).map Lib.itoa).flatMap encS)) (fun kv _ _ => l.length - (intOf kv).toNat)
  case atStart => exact ⟨0, by omega, rfl, Bel.rfl', World.ownsRow_nil _ _ _ _⟩
  case round =>
    obtain ⟨k, hk, rfl, hB, hown⟩ := hrel
    by_cases hlt : k < l.length
    · have c0 := num_cell (HC.out.bel encN_len hB) hlt
      have HX : Hid (((l.take (k + 1)).map Lib.itoa).flatMap encS = ((l.take k).map Lib.itoa).flatMap encS ++ [.string ⟨(Lib.itoa l[k]).toArray⟩]) := by
        unfold Hid; rw [List.take_succ_eq_append_getElem hlt, List.map_append, List.flatMap_append]; rfl
      have T1 := (HT.out l[k] (List.getElem_mem hlt)).bel hB
      generalize l[k] = x at c0 HX T1
      generalize ((l.take k).map Lib.itoa).flatMap encS = xs at hown HX
      have H1 := Lib.hid (num_Text x wr T1)
      generalize Lib.itoa x = tx at H1 HX
      have OW := Lib.hid hown
      clear hown T1
      go_wp2_with fail
      refine H1.out.mono ?_
      rintro e w2 ⟨rfl, hb⟩
      have OW2 := Lib.hid (hb.own OW.out)
      have hs2 := hb.size
      have hBs := hB.size
      go_wp2_with (at_builtin; refine wpList_append_lies _ rfl _ _ 143 rfl w.heap.size 9 i0 _ 1 16 Tryd.underlying143 hi hz0 hz1 hz2 rfl (by omega) u3 k xs rfl (Bel.own (Bel.rfl'.al _) OW2.out) ⟨w2.heap.size, 0, none⟩ 1 1 [.string ⟨tx.toArray⟩] rfl rfl (World.news_of_block (cs := #[.string ⟨tx.toArray⟩]) (t := 9) (fr := (0, 0)) (heap_alloc_new w2 _)) (by simp [Value.oneCell']) (by omega) (by unfold maxLen; omega) (by omega) (by simp; omega) (w2.heap.size + 1) (by simp) ?_; intro g cap2 w3 hown1 hgrow hat hlt2)
      have HB1 : Bel w w3 := Below.grown ((hB.step hb).al _) hgrow (by simp; omega) (fun q h => (OW2.out.lt q h).1)
      go_roundw
      case rel => exact ⟨k + 1, hlt, by go_num, HB1, by rw [HX.out]; exact hown1⟩
      case measure => simp [intOf]; omega
    · obtain rfl : k = l.length := by omega
      rw [List.take_of_length_le (Nat.le_refl _)] at hown
      rcases hown.2 with ⟨rfl, hl0⟩ | ⟨g, cap2, cur, rfl, hg, hh, h1, h2, h3, h4⟩
      · exact absurd (List.length_eq_zero_iff.1 hl0) h0
      · have hj := Tryd.strings_Join g 0 cap2 (l.map fun x => ⟨(Lib.itoa x).toArray⟩) ⟨#[32]⟩ wr (by
            intro j y hy
            rw [List.getElem?_map] at hy
            have hj : j < l.length := by
              rcases Nat.lt_or_ge j l.length with h | h
              · exact h
              · rw [List.getElem?_eq_none h] at hy; cases hy
            rw [List.getElem?_eq_getElem hj] at hy
            obtain rfl := Option.some.inj hy
            have := (own_row (enc := encS) (l := l.map Lib.itoa) (fun _ => rfl) rfl (by simpa using hown)).1 j (by simpa using hj) 0 (Nat.lt_succ_self 0)
            simpa [encS] using this) (by
            rcases Nat.lt_or_ge g wr.heap.size with h | h
            · exact h
            · rw [Array.getElem?_eq_none h] at hh; cases hh) (by simp; omega) (by simpa using h1) (by
            rw [List.map_map]
            show (wordsS l).length ≤ _
            omega)
        rw [List.map_map] at hj
        have e1 : (l.map ((fun x : ByteArray => x.data.toList) ∘ fun x => ⟨(Lib.itoa x).toArray⟩)) = l.map Lib.itoa := List.map_congr_left (fun x _ => by simp)
        rw [e1] at hj
        simp only [List.length_map] at hj
        have E : Hid (wordsS l = Lib.join (l.map Lib.itoa) [32]) := rfl
        have HJ := Lib.hid hj
        clear hown hj hjl e1
        generalize Lib.join (l.map Lib.itoa) [32] = tx at HJ E
        go_wp2_with fail
        refine HJ.out.mono ?_
        rintro e w' ⟨rfl, hb⟩
        go_wp2_with fail
        go_ret
        exact ⟨by rw [E.out]; rfl, hB.step hb⟩
end Go.Proofs.YtmnmoadkpidggaaDoor
