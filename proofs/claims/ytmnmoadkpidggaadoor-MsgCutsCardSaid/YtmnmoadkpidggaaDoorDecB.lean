/- Package codec: the reader: Of, Int, Err, Left: their contracts. Condition: the bytes read as a list; few enough for memory. -/
import Derived.Test.YtmnmoadkpidggaaDoorDec
namespace Go.Proofs.YtmnmoadkpidggaaDoor
set_option linter.unusedSimpArgs false
set_option linter.unusedVariables false
open Go.RowKit

/-- The block that an error's pointer points to. -/
def ptrBlock : Value → Option Nat
  | .iface _ (.pointer (some a)) => some a.block
  | _ => none
/-- A reader: its bytes, where it stands, what was wrong; no block of X is its own. -/
structure DecAt (w : World) (d : Nat) (X : Nat → Prop) (bs : List UInt8) (s : St) : Prop where
  bytes : ∃ bv, w.cell? ⟨d, 0, none⟩ = some bv ∧ SlB w bv bs ∧ (bs ≠ [] → ∀ g, bv.ownBlock = some g → g ≠ d ∧ ¬ X g)
  at_ : w.cell? ⟨d, 1, none⟩ = some (.int .i64 s.at_)
  err : ∃ ev, w.cell? ⟨d, 2, none⟩ = some ev ∧ ErAt w ev s.err ∧ ∀ g, ptrBlock ev = some g → ¬ X g
  shal : s.err = .nil ∨ ∃ p a n, s.err = .fault p a (.no n)
  free : ∀ o, o = 1 ∨ o = 2 → w.frozen? ⟨d, o, none⟩ = false
  le : s.at_ ≤ bs.length
  self : ¬ X d

theorem ErAt.md {S : Nat → Prop} {w w' : World} (h : Md S w w') {ev : Value} {e : Er} (hE : ErAt w ev e) (hs : e = .nil ∨ ∃ p a n, e = .fault p a (.no n)) (hn : ∀ g, ptrBlock ev = some g → ¬ S g) : ErAt w' ev e := by
  rcases hs with rfl | ⟨p, a, n, rfl⟩
  · exact hE
  · obtain ⟨b, ev', rfl, h0, h1, h2, h3⟩ := hE
    have hb := hn b rfl
    exact ⟨b, ev', rfl, h.cellv h0 hb, h.cellv h1 hb, h.cellv h2 hb, h3⟩
/-- Other blocks than the reader's may be changed. -/
theorem DecAt.md {S : Nat → Prop} {w w' : World} {d : Nat} {X : Nat → Prop} {bs : List UInt8} {s : St} (h : DecAt w d X bs s) (hm : Md S w w') (hS : ∀ k, S k → X k) : DecAt w' d X bs s := by
  obtain ⟨⟨bv, b1, b2, b3⟩, ha, ⟨ev, e1, e2, e3⟩, hs, hf, hle, hself⟩ := h
  have hd : ¬ S d := fun h => hself (hS d h)
  exact ⟨⟨bv, hm.cellv b1 hd, hm.sl' encB_len b2 (fun hb g hg h' => (b3 hb g hg).2 (hS g h')), b3⟩, hm.cellv ha hd, ⟨ev, hm.cellv e1 hd, ErAt.md hm e2 hs (fun g hg h' => e3 g hg (hS g h')), e3⟩, hs,
    fun o ho => by rcases ho with rfl | rfl; exact hm.frz ha hd (hf 1 (Or.inl rfl)); exact hm.frz e1 hd (hf 2 (Or.inr rfl)), hle, hself⟩
theorem DecAt.bel {w w' : World} {d : Nat} {X : Nat → Prop} {bs : List UInt8} {s : St} (h : DecAt w d X bs s) (hB : Bel w w') : DecAt w' d X bs s := h.md (Md.of (S := fun _ => False) hB) (fun _ h => h.elim)
theorem ErAt.lt {w : World} {ev : Value} {e : Er} (h : ErAt w ev e) {g : Nat} (hg : ptrBlock ev = some g) : g < w.heap.size := by
  cases e with
  | nil => obtain rfl := h; simp [ptrBlock] at hg
  | no n => obtain rfl := h; simp [ptrBlock] at hg
  | fault p a e =>
    obtain ⟨b, ev', rfl, h0, _⟩ := h
    have : b = g := Option.some.inj hg
    have := lt_of_cell h0
    simp at this; omega
/-- More blocks that aren't the reader's: new ones. -/
theorem DecAt.more {w : World} {d : Nat} {X Y : Nat → Prop} {bs : List UInt8} {s : St} (h : DecAt w d X bs s) (hY : ∀ k, Y k → X k ∨ w.heap.size ≤ k) : DecAt w d Y bs s := by
  obtain ⟨⟨bv, b1, b2, b3⟩, ha, ⟨ev, e1, e2, e3⟩, hs, hf, hle, hself⟩ := h
  refine ⟨⟨bv, b1, b2, fun hb g hg => ⟨(b3 hb g hg).1, fun h' => ?_⟩⟩, ha, ⟨ev, e1, e2, fun g hg h' => ?_⟩, hs, hf, hle, fun h' => ?_⟩
  · rcases hY g h' with h | h
    · exact (b3 hb g hg).2 h
    · have := b2.lt (by omega) encB_len hb hg; omega
  · rcases hY g h' with h | h
    · exact e3 g hg h
    · have := e2.lt hg; omega
  · rcases hY d h' with h | h
    · exact hself h
    · have := lt_of_cell ha; simp at this; omega

theorem xor_zag {u : Nat} (h : u < 18446744073709551616) : bits BinOp.xor IntKind.i64 ((u / 2 : Nat) : Int) (-((u % 2 : Nat) : Int)) = zag u := by
  unfold zag
  have hx : u / 2 < 9223372036854775808 := by omega
  by_cases h2 : u % 2 = 0
  · rw [if_pos h2, h2]
    show IntKind.i64.wrap ((BitVec.ofInt 64 ((u / 2 : Nat) : Int) ^^^ BitVec.ofInt 64 (-((0 : Nat) : Int))).toNat : Int) = _
    rw [show BitVec.ofInt 64 (-((0 : Nat) : Int)) = 0#64 from rfl, BitVec.xor_zero, BitVec.ofInt_natCast, BitVec.toNat_ofNat, Nat.mod_eq_of_lt (by omega), IntKind.wrap_i64]
    omega
  · have h1 : u % 2 = 1 := by omega
    rw [if_neg h2, h1]
    show IntKind.i64.wrap ((BitVec.ofInt 64 ((u / 2 : Nat) : Int) ^^^ BitVec.ofInt 64 (-((1 : Nat) : Int))).toNat : Int) = _
    rw [show BitVec.ofInt 64 (-((1 : Nat) : Int)) = BitVec.allOnes 64 from rfl, BitVec.xor_allOnes, BitVec.toNat_not, BitVec.ofInt_natCast, BitVec.toNat_ofNat, Nat.mod_eq_of_lt (by omega), IntKind.wrap_i64]
    omega

theorem decGo_lt (l : List UInt8) : ∀ (f i v : Nat), f + i = 10 → v < 2 ^ (7 * i) → (decGo l f i v).1 < 18446744073709551616 ∧ ((decGo l f i v).2.2 = 0 → i + 1 ≤ (decGo l f i v).2.1 ∧ (decGo l f i v).2.1 ≤ l.length) := by
  intro f
  induction f with
  | zero => intro i v h hv; exact ⟨by simp [decGo], by simp [decGo]⟩
  | succ f ih =>
    intro i v h hv
    cases hg : l[i]? with
    | none => rw [decGo_end _ _ _ _ hg]; exact ⟨by simp, by simp⟩
    | some c =>
      have hil := (List.getElem?_eq_some_iff.1 hg).1
      rw [decGo_step _ _ _ _ hg]
      by_cases hbad : (i = 9 ∧ 1 < c.toNat) ∨ (0 < i ∧ c.toNat = 0)
      · rw [if_pos hbad]; exact ⟨by simp, by simp⟩
      · rw [if_neg hbad]
        have hr : c.toNat % 128 < 128 := Nat.mod_lt _ (by omega)
        have hr9 : i = 9 → c.toNat % 128 ≤ 1 := by omega
        generalize c.toNat % 128 = r at hr hr9 ⊢
        have e : 2 ^ (7 * (i + 1)) = 128 * 2 ^ (7 * i) := by rw [show 7 * (i + 1) = 7 + 7 * i by omega, Nat.pow_add]
        have hmul : r * 2 ^ (7 * i) ≤ 127 * 2 ^ (7 * i) := Nat.mul_le_mul_right _ (by omega)
        by_cases h128 : c.toNat < 128
        · rw [if_pos h128]
          refine ⟨?_, fun _ => ⟨Nat.le_refl _, hil⟩⟩
          show v + r * 2 ^ (7 * i) < _
          rcases Nat.lt_or_ge i 9 with h9 | h9
          · have : 2 ^ (7 * i) ≤ 2 ^ 56 := Nat.pow_le_pow_right (by omega) (by omega)
            omega
          · obtain rfl : i = 9 := by omega
            have := hr9 rfl
            have h1 : r * 2 ^ (7 * 9) ≤ 1 * 2 ^ (7 * 9) := Nat.mul_le_mul_right _ this
            omega
        · rw [if_neg h128]
          obtain ⟨h1, h2⟩ := ih (i + 1) (v + r * 2 ^ (7 * i)) (by omega) (by omega)
          exact ⟨h1, fun h0 => by have := h2 h0; omega⟩
theorem decU_lt (l : List UInt8) : (decU l).1 < 18446744073709551616 := (decGo_lt l 10 0 0 (by omega) (by omega)).1
theorem decU_len {l : List UInt8} (h : (decU l).2.2 = 0) : (decU l).2.1 ≤ l.length := ((decGo_lt l 10 0 0 (by omega) (by omega)).2 h).2
theorem decU_no (l : List UInt8) : 0 ≤ (decU l).2.2 ∧ (decU l).2.2 ≤ 3 := by
  have key : ∀ (f i v : Nat), 0 ≤ (decGo l f i v).2.2 ∧ (decGo l f i v).2.2 ≤ 3 := by
    intro f
    induction f with
    | zero => intro i v; simp [decGo]
    | succ f ih =>
      intro i v
      cases hg : l[i]? with
      | none => rw [decGo_end _ _ _ _ hg]; simp
      | some c =>
        rw [decGo_step _ _ _ _ hg]
        split
        · simp
        · split
          · simp
          · exact ih _ _
  exact key 10 0 0

theorem dec_fail (d : Nat) (a n : Int) (ev : Value) (w : World) (h : w.cell? ⟨d, 2, none⟩ = some ev) (hf : w.frozen? ⟨d, 2, none⟩ = false) :
    Calls Tryd.prog 82 #[.pointer (some ⟨d, 0, none⟩), .int .i64 a, .int .i64 n] w fun e w' => e = .returned (.tuple #[]) ∧ Md (fun k => k = d) w w' ∧ (∃ v, w'.cell? ⟨d, 2, none⟩ = some v ∧ ErAt w' v (.fault byteW a (.no n)) ∧ ∀ g, ptrBlock v = some g → w.heap.size ≤ g) ∧ (∀ o u, o ≠ 2 → w.cell? ⟨d, o, none⟩ = some u → w'.cell? ⟨d, o, none⟩ = some u) ∧ ∀ o, w'.frozen? ⟨d, o, none⟩ = w.frozen? ⟨d, o, none⟩ := by
  have hlt : d < w.heap.size := lt_of_cell h
  go_enter Tryd.func82, Tryd.ntmps82
  go_wp2_with fail
  go_end0
  have hc := cell_set_same (v := .iface 88 (.pointer (some ⟨w.heap.size, 0, none⟩))) h
  refine ⟨rfl, (Md.st (S := fun k => k = d) Md.rfl' (p := ⟨d, 2, none⟩) (Or.inl rfl) _).al _, ⟨_, (Bel.rfl'.al _).cellv hc, ⟨_, _, rfl, ?_, ?_, ?_, rfl⟩, fun g hg => Nat.le_of_eq (Option.some.inj hg)⟩, ?_, ?_⟩
  · exact new_cell _ _ _ 0 (set_size _ _ _)
  · exact new_cell _ _ _ 1 (set_size _ _ _)
  · exact new_cell _ _ _ 2 (set_size _ _ _)
  · intro o u ho hu
    exact (Bel.rfl'.al _).cellv ((cell_set_other (Or.inr ho)).trans hu)
  · intro o
    rw [(Bel.rfl'.al _).frozen (p := ⟨d, o, none⟩) (by simpa using hlt), frozen_set]

set_option maxRecDepth 100000 in
set_option maxHeartbeats 1000000 in
theorem dec_Int (d : Nat) (X : Nat → Prop) (bs : List UInt8) (s : St) (w : World) (h : DecAt w d X bs s) (hn : bs.length ≤ 1000000000) (hX : ∀ k, X k → k < w.heap.size) :
    Calls Tryd.prog 56 #[.pointer (some ⟨d, 0, none⟩)] w fun e w' => e = .returned (.int .i64 (rd1 bs s).1) ∧ DecAt w' d X bs (rd1 bs s).2 ∧ Md (fun k => k = d) w w' := by
  have hD := Lib.hid h
  obtain ⟨⟨bv, b1, b2, b3⟩, ha, ⟨ev, e1, e2, e3⟩, hs, hf, hle, hself⟩ := h
  have hd : d < w.heap.size := lt_of_cell ha
  obtain ⟨a0, err⟩ := s
  dsimp only at ha e2 hs hle
  have hq := fun W => ErAt.neqNil (W := W) e2
  have hg := fun W op x => ErAt.guard (W := W) e2 op x
  by_cases herr : err = .nil
  · subst herr
    have f1 := hf 1 (Or.inl rfl)
    have f2 := hf 2 (Or.inr rfl)
    obtain rfl : ev = .nilIface := e2
    have HU := Lib.hid (dec_uint d a0 bv bs w b1 b2 ha f1 hle hn)
    have hlt := decU_lt (bs.drop a0)
    have hlen := fun h => decU_len (l := bs.drop a0) h
    have HF := fun (w1 : World) (hw : Bel w w1) n => dec_fail d a0 n .nilIface w1 (hw.cellv e1) (by rw [hw.frozen (p := ⟨d, 2, none⟩) hd]; exact f2)
    have HF := Lib.hid HF
    have HR : Hid (rd1 bs ⟨a0, .nil⟩ = if (decU (bs.drop a0)).2.2 = 0 then (zag (decU (bs.drop a0)).1, ⟨a0 + (decU (bs.drop a0)).2.1, .nil⟩) else (0, ⟨a0, .fault byteW a0 (.no (decU (bs.drop a0)).2.2)⟩)) := by
      unfold Hid rd1; rw [if_pos rfl]
    generalize decU (bs.drop a0) = R at HU hlt hlen HR
    obtain ⟨u, n, e⟩ := R
    dsimp only at HU hlt hlen HR
    have HB2 := Lib.hid b2
    have HE := Lib.hid hlen
    clear b2 hlen hq hg hs hf
    by_cases he : e = 0
    · subst he
      have HR2 : Hid (rd1 bs ⟨a0, .nil⟩ = (zag u, ⟨a0 + n, .nil⟩)) := by unfold Hid; rw [HR.out, if_pos rfl]
      have hz := xor_zag hlt
      have hle2 := HE.out rfl
      rw [List.length_drop] at hle2
      generalize zag u = z at hz HR2
      have E1 : bits BinOp.and IntKind.u64 (u : Int) 1 = ((u % 2 : Nat) : Int) := by
        rw [show (1 : Int) = ((1 : Nat) : Int) from rfl, u64_and_nat _ _ hlt (by omega), nat_mask1]
      obtain ⟨r, hr⟩ : ∃ r : Nat, r = u % 2 := ⟨_, rfl⟩
      obtain ⟨x, hx⟩ : ∃ x : Nat, x = u / 2 := ⟨_, rfl⟩
      have hr1 : r ≤ 1 := by omega
      have hx1 : (u : Int) / 2 = (x : Int) := by omega
      have hx2 : x < 9223372036854775808 := by omega
      rw [← hr, ← hx] at hz
      rw [← hr] at E1
      clear hr hx HR
      go_enter Tryd.func56, Tryd.ntmps56
      go_wp2_with fail
      refine HU.out.mono ?_
      rintro en w1 ⟨rfl, hw⟩
      rcases hw with ⟨_, w2, hB, rfl⟩ | ⟨hno, _⟩
      · go_wp2_with fail
        go_ret
        have hm : Md (fun k => k = d) w (w2.setCell ⟨d, 1, none⟩ (.int .i64 ((a0 + n : Nat) : Int))) := Md.st (S := fun k => k = d) (Md.of hB) (p := ⟨d, 1, none⟩) (Or.inl rfl) _
        rw [HR2.out]
        have ec : (a0 : Int) + (n : Int) = ((a0 + n : Nat) : Int) := by omega
        rw [ec]
        refine ⟨rfl, ⟨⟨bv, (cell_set_other (Or.inr (by simp))).trans (hB.cellv b1), hm.sl' encB_len HB2.out (fun hb g hg => (b3 hb g hg).1), b3⟩, cell_set_same (hB.cellv ha), ⟨.nilIface, (cell_set_other (Or.inr (by simp))).trans (hB.cellv e1), rfl, e3⟩, Or.inl rfl, ?_, by show a0 + n ≤ bs.length; omega, hself⟩, hm⟩
        intro o ho
        rw [frozen_set, hB.frozen (p := ⟨d, o, none⟩) hd]
        rcases ho with rfl | rfl
        · exact f1
        · exact f2
      · exact absurd rfl hno
    · have heb : (e != 0) = true := by rw [bne_iff_ne]; exact he
      have HR2 : Hid (rd1 bs ⟨a0, .nil⟩ = (0, ⟨a0, .fault byteW a0 (.no e)⟩)) := by unfold Hid; rw [HR.out, if_neg he]
      clear HR HE
      go_enter Tryd.func56, Tryd.ntmps56
      go_wp2_with fail
      refine HU.out.mono ?_
      rintro en w1 ⟨rfl, hw⟩
      rcases hw with ⟨h0, _⟩ | ⟨_, hB⟩
      · exact absurd h0 he
      · have e1' := hB.cellv e1
        have ha' := hB.cellv ha
        go_wp2_with fail
        refine (HF.out _ hB e).mono ?_
        rintro en w2 ⟨rfl, hm, ⟨v, hv1, hv2, hv3⟩, hcs, hfs⟩
        go_wp2_with fail
        go_ret
        rw [HR2.out]
        refine ⟨rfl, ⟨⟨bv, hcs 0 _ (by decide) (hB.cellv b1), hm.sl' encB_len (HB2.out.bel encB_len hB) (fun hb g hg => (b3 hb g hg).1), b3⟩, hcs 1 _ (by decide) ha', ⟨v, hv1, hv2, fun g hg => ?_⟩, Or.inr ⟨_, _, _, rfl⟩, ?_, hle, hself⟩, (Md.of hB).step hm (fun k _ h => h)⟩
        · intro hXg
          have h1 := hX g hXg
          have h2 := hv3 g hg
          have h3 := hB.size
          omega
        · intro o ho
          rw [hfs o, hB.frozen (p := ⟨d, o, none⟩) hd]
          rcases ho with rfl | rfl
          · exact f1
          · exact f2
  · have hnb : isNilB err = false := by
      cases err with
      | nil => exact absurd rfl herr
      | no n => rfl
      | fault a b c => rfl
    rw [hnb] at hq
    simp only [Bool.not_false] at hq
    have HR2 : Hid (rd1 bs ⟨a0, err⟩ = (0, ⟨a0, err⟩)) := by unfold Hid rd1; rw [if_neg herr]
    clear e2 herr hnb b2 hs
    go_enter Tryd.func56, Tryd.ntmps56
    go_wp2_with fail
    go_ret
    rw [HR2.out]
    exact ⟨rfl, hD.out, Md.rfl'⟩

theorem dec_Err (d : Nat) (X : Nat → Prop) (bs : List UInt8) (s : St) (w : World) (h : DecAt w d X bs s) :
    Calls Tryd.prog 57 #[.pointer (some ⟨d, 0, none⟩)] w fun e w' => (∃ v, e = .returned v ∧ ErAt w v s.err ∧ ∀ g, ptrBlock v = some g → ¬ X g) ∧ w' = w := by
  obtain ⟨ev, e1, e2, e3⟩ := h.err
  have HE := Lib.hid e2
  have H3 := Lib.hid e3
  clear h e2 e3
  go_enter Tryd.func57, Tryd.ntmps57
  go_wp2_with fail
  go_ret
  exact ⟨⟨_, rfl, HE.out, H3.out⟩, rfl⟩

theorem dec_Left (d : Nat) (X : Nat → Prop) (bs : List UInt8) (a : Nat) (w : World) (h : DecAt w d X bs ⟨a, .nil⟩) (hn : bs.length ≤ 1000000000) :
    Calls Tryd.prog 60 #[.pointer (some ⟨d, 0, none⟩)] w fun e w' => e = .returned (.int .i64 ((bs.length : Int) - a)) ∧ Bel w w' := by
  obtain ⟨⟨bv, b1, b2, b3⟩, ha, ⟨ev, e1, e2, e3⟩, hs, hf, hle, hself⟩ := h
  obtain rfl : ev = .nilIface := e2
  dsimp only at ha hle
  obtain ⟨a2, c2, rfl⟩ := slot_shape b2
  clear b2 b3 hs hf
  have hr : IntKind.i64.wrap ((bs.length : Int) - a) = (bs.length : Int) - a := by simp [IntKind.wrap, IntKind.bits, IntKind.signed]; omega
  go_enter Tryd.func60, Tryd.ntmps60
  go_wp2_with fail
  go_quiet (fail)
  go_wp2_with fail
  go_ret
  exact ⟨rfl, Bel.rfl'.dn _⟩

set_option maxRecDepth 100000 in
theorem codec_Of (v : Value) (bs : List UInt8) (w : World) (h : SlB w v bs) (hn : bs.length ≤ 1000000000) :
    Calls Tryd.prog 55 #[v] w fun e w' => ∃ d, e = .returned (.pointer (some ⟨d, 0, none⟩)) ∧ w.heap.size ≤ d ∧ d < w'.heap.size ∧ DecAt w' d (fun k => k < w.heap.size) bs ⟨0, .nil⟩ ∧ Bel w w' := by
  have HC := Lib.hid (bytes_Clone v bs w h hn)
  clear h
  go_enter Tryd.func55, Tryd.ntmps55
  go_wp2_with fail
  refine HC.out.mono ?_
  rintro e w1 ⟨v1, rfl, hown, hB⟩
  obtain ⟨va, vc, rfl⟩ := slot_shape (own_sl encB_len rfl hown)
  have HW := Lib.hid hown
  clear hown
  go_wp2_with fail
  go_ret
  have hz := hB.size
  refine ⟨_, rfl, hz, by simp, ⟨⟨_, new_cell _ _ _ 0 rfl, own_sl encB_len rfl (Bel.own (Bel.rfl'.al _) HW.out), fun _ g hg => ?_⟩, new_cell _ _ _ 1 rfl, ⟨.nilIface, new_cell _ _ _ 2 rfl, rfl, fun g hg => by simp [ptrBlock] at hg⟩, Or.inl rfl, fun o _ => new_free _ _ _ o rfl, Nat.zero_le _, by omega⟩, hB.al _⟩
  have h1 := HW.out.lt g hg
  exact ⟨by omega, by omega⟩
end Go.Proofs.YtmnmoadkpidggaaDoor
