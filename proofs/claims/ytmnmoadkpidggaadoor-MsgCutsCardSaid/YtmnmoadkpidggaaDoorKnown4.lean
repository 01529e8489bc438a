/- Messages: straddlelaw4.known, straddleref4.At: their contracts. No condition. -/
import Derived.Test.YtmnmoadkpidggaaDoorMsgE
import Derived.Test.YtmnmoadkpidggaaDoorTextM
import Derived.Test.YtmnmoadkpidggaaDoorSameM
import Derived.Test.YtmnmoadkpidggaaDoorTellF
namespace Go.Proofs.YtmnmoadkpidggaaDoor
set_option linter.unusedSimpArgs false
set_option linter.unusedVariables false
open Go.RowKit

theorem msgV6 (k s a0 a1 a2 a3 a4 a5 : Int) (l : List Row) (lv : Value) : msgV ⟨k, s, [a0, a1, a2, a3, a4, a5], l⟩ lv = .agg #[.int .i64 k, .int .i64 s, .int .i64 a0, .int .i64 a1, .int .i64 a2, .int .i64 a3, .int .i64 a4, .int .i64 a5, lv] := by
  simp [msgV]
def km : Msg := ⟨11, 3, [1, 0, 0, 0, 0, 0], [⟨1, 1, 2, 0, 0⟩, ⟨2, -1, 1, 0, 0⟩]⟩
theorem km_ok : km.ok := by unfold Msg.ok I64 km; decide
theorem km_may : mayN km.k km.s km.l.length = 0 := by decide
theorem km_dec : decS (msgS km) = (km, .nil) := decS_enc km_ok (by decide) km_may
theorem msgS_len {m : Msg} (h : m.ok) (hl : m.l.length ≤ 1000) : (msgS m).length ≤ 60000 := by
  have hI : ∀ n ∈ numsOf m, I64 n := by
    intro n hn
    rw [numsOf_eq, List.mem_append] at hn
    rcases hn with hn | hn
    · exact head_I64 h (by omega) n hn
    · obtain ⟨r, hr, hn⟩ := List.mem_flatMap.1 hn
      exact h.2.2.2.2 r hr n hn
  have h1 := encIs_len _ hI
  rw [numsOf_eq, List.length_append, head_len h, rows_flat] at h1
  unfold msgS
  rw [numsOf_eq]
  omega
theorem sl_rows {w : World} {b n : Nat} {l : List Row} (hl : l.length = n) (hm : n ≤ maxLen) (h : RowAt encRow 5 w b 0 l) : SlRow w (.slice (some ⟨b, 0, none⟩) n n) l := by
  subst hl; exact Or.inr ⟨b, 0, _, rfl, Nat.le_refl _, hm, h⟩
theorem km_row (w : World) (T : TypeId) : RowAt encRow 5 (w.alloc (.cells #[.int .i64 1, .int .i64 1, .int .i64 2, .int .i64 0, .int .i64 0, .int .i64 2, .int .i64 (-1), .int .i64 1, .int .i64 0, .int .i64 0] T)) w.heap.size 0 km.l := by
  intro i hi j hj
  have h2 : i = 0 ∨ i = 1 := by simp [km] at hi; omega
  have h5 : j = 0 ∨ j = 1 ∨ j = 2 ∨ j = 3 ∨ j = 4 := by omega
  rcases h2 with rfl | rfl <;> rcases h5 with rfl | rfl | rfl | rfl | rfl <;> exact new_cell _ _ _ _ rfl
theorem text12 : textM ⟨1, 2, [0, 0, 0, 0, 0, 0], []⟩ = [49, 32, 50, 32, 48, 32, 48, 32, 48, 32, 48, 32, 48, 32, 48] := by
  have e0 : Lib.itoa 0 = [48] := by simp [Lib.itoa, Lib.decDigits]
  have e1 : Lib.itoa 1 = [49] := by simp [Lib.itoa, Lib.decDigits]
  have e2 : Lib.itoa 2 = [50] := by simp [Lib.itoa, Lib.decDigits]
  unfold textM wordsS
  simp only [List.map_cons, List.map_nil, e0, e1, e2]
  rfl
theorem small_tells {w : World} {n : Int} (h0 : 0 ≤ n) (h1 : n < 100) : Tells w n := Or.inr ⟨h0, h1⟩

set_option maxRecDepth 100000 in
set_option maxHeartbeats 2000000 in
theorem known4 (w : World) : Calls Tryd.prog 19 #[] w fun e w' => e = .returned (.bool true) ∧ Bel w w' := by
  have HEN := (fun lv W (h : SlRow W lv km.l) => msg_Encode_ok km lv W km_ok h (by decide) km_may)
  have HDE := fun v W (h : SlB W v (msgS km)) => msg_Decode v (msgS km) W h (by have := msgS_len km_ok (by decide); omega)
  rw [km_dec] at HDE
  have HBAD := (fun W => msg_Encode_bad ⟨0, 0, [0, 0, 0, 0, 0, 0], []⟩ (.slice none 0 0) W (by unfold Msg.ok I64; decide) Sl.nil (by decide) (by decide))
  have HSA := fun v1 v2 W (h1 : SlRow W v1 km.l) (h2 : SlRow W v2 km.l) => msg_Same km km v1 v2 W h1 h2 (by decide) (by decide) rfl rfl
  rw [sameM_self] at HSA
  have HTX := fun W => msg_Text ⟨1, 2, [0, 0, 0, 0, 0, 0], []⟩ (.slice none 0 0) W ⟨small_tells (by decide) (by decide), small_tells (by decide) (by decide), rfl, fun n hn => by simp at hn; subst hn; exact small_tells (by decide) (by decide), fun r hr => by cases hr⟩ Sl.nil (by decide)
  rw [text12] at HTX
  have HR := Lib.hid (fun W => msg_Rows 8 W)
  have HK1 := Lib.hid (fun W => msg_Known 68 W)
  have HK2 := Lib.hid (fun W => msg_Known 16 W)
  simp only [msgV6] at HTX HBAD
  have HTX := Lib.hid HTX
  simp only [show ∀ lv, msgV km lv = .agg #[.int .i64 11, .int .i64 3, .int .i64 1, .int .i64 0, .int .i64 0, .int .i64 0, .int .i64 0, .int .i64 0, lv] from fun lv => msgV6 _ _ _ _ _ _ _ _ _ _] at HEN HDE HSA
  have HEN := Lib.hid HEN
  have HDE := Lib.hid HDE
  have HSA := Lib.hid HSA
  have HBAD := Lib.hid HBAD
  have hkr : ∀ T, SlRow (w.alloc (.cells #[.int .i64 1, .int .i64 1, .int .i64 2, .int .i64 0, .int .i64 0, .int .i64 2, .int .i64 (-1), .int .i64 1, .int .i64 0, .int .i64 0] T)) (.slice (some ⟨w.heap.size, 0, none⟩) 2 2) km.l := fun T => sl_rows rfl (by unfold maxLen; omega) (km_row w T)
  have HKR := Lib.hid hkr
  clear hkr
  go_enter Tryd.func19, Tryd.ntmps19
  go_wp2_with fail
  have hBa := Bel.rfl'.al (w := w) (.cells #[.int .i64 1, .int .i64 1, .int .i64 2, .int .i64 0, .int .i64 0, .int .i64 2, .int .i64 (-1), .int .i64 1, .int .i64 0, .int .i64 0] 67)
  refine (HEN.out _ _ ((HKR.out _).bel encRow_len (Bel.rfl'.al _))).mono ?_
  rintro e w1 ⟨bv, rfl, hbv, hB1⟩
  have hz0 : ∀ o u, (#[.int .i64 11, .int .i64 3, .int .i64 1, .int .i64 0, .int .i64 0, .int .i64 0, .int .i64 0, .int .i64 0, .slice (some ⟨w.heap.size, 0, none⟩) 2 2] : Array Value)[o]? = some u → w1.cell? ⟨w.heap.size + 1, o, none⟩ = some u := fun o u h => hB1.cellv (by rw [new_cell _ _ _ _ (by simp)]; exact h)
  have m0 := hz0 0 _ rfl
  have m1 := hz0 1 _ rfl
  have m2 := hz0 2 _ rfl
  have m3 := hz0 3 _ rfl
  have m4 := hz0 4 _ rfl
  have m5 := hz0 5 _ rfl
  have m6 := hz0 6 _ rfl
  have m7 := hz0 7 _ rfl
  have m8 := hz0 8 _ rfl
  have HBV := Lib.hid hbv.sl
  have hBw1 : Bel w w1 := ((Bel.rfl'.al _).al _).step hB1
  have HR1 := Lib.hid (((HKR.out 67).bel encRow_len (Bel.rfl'.al _)).bel encRow_len hB1)
  have hsz1 := hB1.size
  simp at hsz1
  clear hbv hz0
  go_wp2_with fail
  refine (HDE.out _ _ HBV.out).mono ?_
  rintro e w2 ⟨lv, ev, rfl, hlv, hev, hB2⟩
  obtain rfl : ev = .nilIface := hev
  obtain ⟨la, lc, rfl⟩ := slot_shape hlv.sl
  have HLV := Lib.hid hlv.sl
  have n0 := hB2.cellv m0
  have n1 := hB2.cellv m1
  have n2 := hB2.cellv m2
  have n3 := hB2.cellv m3
  have n4 := hB2.cellv m4
  have n5 := hB2.cellv m5
  have n6 := hB2.cellv m6
  have n7 := hB2.cellv m7
  have n8 := hB2.cellv m8
  have hsz2 := hB2.size
  clear hlv m0 m1 m2 m3 m4 m5 m6 m7 m8
  go_wp2_with fail
  refine (HBAD.out _).mono ?_
  rintro e w3 ⟨ev, rfl, hev, hB3⟩
  have hq := fun W => ErAt.neqNil (W := W) hev
  have hg := fun W op x => ErAt.guard (W := W) hev op x
  rw [show isNilB (mayS 0 0 ↑([] : List Row).length) = false from rfl] at hq
  simp only [Bool.not_false] at hq
  clear hev
  go_wp2_with fail
  refine (HR.out _).mono ?_
  rintro e w4 ⟨rfl, rfl⟩
  rw [show rowsK 8 = (1, 50) from rfl]
  have k0 := fun (o : Nat) (u : Value) (h : (#[.int .i64 11, .int .i64 3, .int .i64 1, .int .i64 0, .int .i64 0, .int .i64 0, .int .i64 0, .int .i64 0, .slice la km.l.length lc] : Array Value)[o]? = some u) => hB3.cellv (a := ⟨w2.heap.size, o, none⟩) ((new_cell w2 _ 47 o rfl).trans h)
  have x0 := k0 0 _ rfl
  have x1 := k0 1 _ rfl
  have x2 := k0 2 _ rfl
  have x3 := k0 3 _ rfl
  have x4 := k0 4 _ rfl
  have x5 := k0 5 _ rfl
  have x6 := k0 6 _ rfl
  have x7 := k0 7 _ rfl
  have x8 := k0 8 _ rfl
  have hB13 : Bel w2 w4 := (Bel.rfl'.al _).step hB3
  have y0 := hB13.cellv n0
  have y1 := hB13.cellv n1
  have y2 := hB13.cellv n2
  have y3 := hB13.cellv n3
  have y4 := hB13.cellv n4
  have y5 := hB13.cellv n5
  have y6 := hB13.cellv n6
  have y7 := hB13.cellv n7
  have y8 := hB13.cellv n8
  have HSR := Lib.hid (HSA.out _ _ w4 (HLV.out.bel encRow_len hB13) ((HR1.out.bel encRow_len hB2).bel encRow_len hB13))
  clear k0 n0 n1 n2 n3 n4 n5 n6 n7 n8
  go_wp2_with fail
  refine HSR.out.mono ?_
  rintro e w5 ⟨rfl, hB5⟩
  go_wp2_with fail
  refine (HK1.out _).mono ?_
  rintro e w6 ⟨rfl, rfl⟩
  rw [show knownK 68 = true from rfl]
  go_wp2_with fail
  refine (HK2.out _).mono ?_
  rintro e w6 ⟨rfl, rfl⟩
  rw [show knownK 16 = false from rfl]
  go_wp2_with fail
  refine (HTX.out _).mono ?_
  rintro e w6 ⟨rfl, hB6⟩
  go_wp2_with fail
  go_ret
  exact ⟨rfl, (((hBw1.step hB2).step hB13).step hB5).step hB6⟩
end Go.Proofs.YtmnmoadkpidggaaDoor
