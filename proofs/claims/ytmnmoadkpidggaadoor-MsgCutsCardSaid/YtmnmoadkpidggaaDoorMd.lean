/- Words on what a call has changed: some blocks alone; slices of whole numbers and of bytes as lists. No condition. -/
import Derived.Test.YtmnmoadkpidggaaDoorFresh
namespace Go.Proofs.YtmnmoadkpidggaaDoor
set_option linter.unusedSimpArgs false
set_option linter.unusedVariables false
open Go.RowKit

/-- Of what was there these blocks alone may have been changed. -/
structure Md (S : Nat → Prop) (w w' : World) : Prop where
  os : w'.os = w.os
  tape : w'.tape = w.tape
  output : w'.output = w.output
  size : w.heap.size ≤ w'.heap.size
  block : ∀ k, k < w.heap.size → ¬ S k → w'.heap[k]? = w.heap[k]?

theorem Md.rfl' {S : Nat → Prop} {w : World} : Md S w w := ⟨rfl, rfl, rfl, Nat.le_refl _, fun _ _ _ => rfl⟩
theorem Md.of {S : Nat → Prop} {w w' : World} (h : Bel w w') : Md S w w' := ⟨h.os, h.tape, h.output, h.size, fun k hk _ => h.block k hk⟩
theorem Md.step {S T : Nat → Prop} {w w1 w2 : World} (h : Md S w w1) (h2 : Md T w1 w2) (hS : ∀ k, k < w.heap.size → T k → S k) : Md S w w2 :=
  ⟨h2.os.trans h.os, h2.tape.trans h.tape, h2.output.trans h.output, Nat.le_trans h.size h2.size, fun k hk hn => (h2.block k (Nat.lt_of_lt_of_le hk h.size) (fun h' => hn (hS k hk h'))).trans (h.block k hk hn)⟩
theorem Md.mono {S T : Nat → Prop} {w w' : World} (h : Md S w w') (hS : ∀ k, k < w.heap.size → S k → T k) : Md T w w' :=
  ⟨h.os, h.tape, h.output, h.size, fun k hk hn => h.block k hk (fun h' => hn (hS k hk h'))⟩
theorem Md.then {S : Nat → Prop} {w w1 w2 : World} (h : Md S w w1) (h2 : Bel w1 w2) : Md S w w2 := h.step (Md.of (S := fun _ => False) h2) (fun _ _ h => h.elim)
theorem Md.al {S : Nat → Prop} {w w' : World} (h : Md S w w') (o : Obj) : Md S w (w'.alloc o) := h.then (Bel.rfl'.al o)
theorem Md.dr {S : Nat → Prop} {w w' : World} (h : Md S w w') : Md S w w'.drew := h.then Bel.rfl'.dr
theorem Md.dn {S : Nat → Prop} {w w' : World} (h : Md S w w') (n : Nat) : Md S w (w'.drewN n) := h.then (Bel.rfl'.dn n)
theorem Md.st {S : Nat → Prop} {w w' : World} (h : Md S w w') {p : Addr} (hp : S p.block ∨ w.heap.size ≤ p.block) (u : Value) : Md S w (w'.setCell p u) :=
  ⟨h.os, h.tape, h.output, by simpa [World.setCell] using h.size, fun k hk hn => (Below.heap_setCell w' p u k (by
    rintro rfl
    rcases hp with hp | hp
    · exact hn hp
    · omega)).trans (h.block k hk hn)⟩
theorem Md.grown {S : Nat → Prop} {w w1 w2 : World} {row : Option Nat} (h : Md S w w1) (hg : w1.grownBy w2 row) (hr : ∀ k, row = some k → S k ∨ w.heap.size ≤ k) : Md S w w2 :=
  ⟨hg.os.trans h.os, hg.tape.trans h.tape, hg.output.trans h.output, Nat.le_trans h.size hg.size, fun k hk hn => (hg.block k (Nat.lt_of_lt_of_le hk h.size) (fun e => by
    rcases hr k e.symm with h' | h'
    · exact hn h'
    · omega)).trans (h.block k hk hn)⟩
theorem Md.cellv {S : Nat → Prop} {w w' : World} (h : Md S w w') {a : Addr} {v : Value} (hc : w.cell? a = some v) (hn : ¬ S a.block) : w'.cell? a = some v :=
  (World.cell?_of_block (h.block _ (lt_of_cell hc) hn)).trans hc
theorem Md.frz {S : Nat → Prop} {w w' : World} (h : Md S w w') {a : Addr} {v : Value} (hc : w.cell? a = some v) (hn : ¬ S a.block) {f : Bool} (hf : w.frozen? a = f) : w'.frozen? a = f :=
  (World.frozen?_of_block (h.block _ (lt_of_cell hc) hn)).trans hf
theorem Md.below {S : Nat → Prop} {w w' : World} {B : Nat} (h : Md S w w') (hB : B ≤ w.heap.size) (hS : ∀ k, k < B → ¬ S k) : Below B w w' :=
  ⟨h.os, h.tape, h.output, h.size, fun k hk => h.block k (Nat.lt_of_lt_of_le hk hB) (hS k hk)⟩
theorem Md.bel {S : Nat → Prop} {w0 w w' : World} (h0 : Bel w0 w) (h : Md S w w') (hS : ∀ k, k < w0.heap.size → ¬ S k) : Bel w0 w' :=
  h0.trans (h.below h0.size hS)
theorem Md.row {α : Type} {enc : α → List Value} {k : Nat} {S : Nat → Prop} {w w' : World} {b o : Nat} {l : List α} (h : Md S w w') (hk : ∀ x, (enc x).length = k) (hr : RowAt enc k w b o l) (hn : ¬ S b) : RowAt enc k w' b o l := by
  intro i hi j hj
  have h0 := hr i hi j hj
  have h1 : (enc l[i])[j]? = some ((enc l[i])[j]'(by rw [hk]; exact hj)) := List.getElem?_eq_getElem _
  rw [h1] at h0 ⊢
  exact h.cellv h0 hn
theorem Md.sl {α : Type} {enc : α → List Value} {k : Nat} {S : Nat → Prop} {w w' : World} {v : Value} {l : List α} (h : Md S w w') (hk : ∀ x, (enc x).length = k) (hr : Sl enc k w v l) (hn : ∀ g, v.ownBlock = some g → ¬ S g) : Sl enc k w' v l := by
  rcases hr with hr | ⟨b, o, cap, h1, h2, h3, h4⟩
  · exact Or.inl hr
  · exact Or.inr ⟨b, o, cap, h1, h2, h3, h.row hk h4 (hn b (by rw [h1]; rfl))⟩
theorem Md.own {S : Nat → Prop} {w w' : World} (h : Md S w w') {b : Nat} {e : TypeId} {k : Nat} {v : Value} {n : Nat} {xs : List Value} (ho : w.ownsRow b e k v n xs) (hn : ∀ g, v.ownBlock = some g → ¬ S g) : w'.ownsRow b e k v n xs := by
  obtain ⟨h1, h2⟩ := ho
  refine ⟨h1, ?_⟩
  rcases h2 with h2 | ⟨g, cap, cur, hv, hg, hh, r⟩
  · exact Or.inl h2
  · refine Or.inr ⟨g, cap, cur, hv, hg, ?_, r⟩
    rw [h.block g ?_ (hn g (by rw [hv]; rfl))]; exact hh
    rcases Nat.lt_or_ge g w.heap.size with h' | h'
    · exact h'
    · rw [Array.getElem?_eq_none h'] at hh; cases hh
/-- The cells of a new block. -/
theorem new_cell (w : World) (cs : Array Value) (T : TypeId) (i : Nat) {n : Nat} (hn : w.heap.size = n) : (w.alloc (.cells cs T)).cell? ⟨n, i, none⟩ = cs[i]? := by
  subst hn; exact cell_of_row _ _ i cs T (0, 0) (heap_alloc_new w _)
theorem new_free (w : World) (cs : Array Value) (T : TypeId) (i : Nat) {n : Nat} (hn : w.heap.size = n) : (w.alloc (.cells cs T)).frozen? ⟨n, i, none⟩ = false := by
  subst hn; simp
theorem set_size (w : World) (p : Addr) (u : Value) : (w.setCell p u).heap.size = w.heap.size := by simp [World.setCell]
/-- Below a number all is as it was: rows there. -/
theorem below_row {α : Type} {enc : α → List Value} {k : Nat} {B : Nat} {w w' : World} {b o : Nat} {l : List α} (h : Below B w w') (hk : ∀ x, (enc x).length = k) (hr : RowAt enc k w b o l) (hn : b < B) : RowAt enc k w' b o l := by
  intro i hi j hj
  have h0 := hr i hi j hj
  have h1 : (enc l[i])[j]? = some ((enc l[i])[j]'(by rw [hk]; exact hj)) := List.getElem?_eq_getElem _
  rw [h1] at h0 ⊢
  exact (h.cell (p := ⟨b, o + i * k + j, none⟩) hn).trans h0
theorem below_bel {B : Nat} {w0 w w' : World} (h0 : Bel w0 w) (h : Below B w w') (hB : w0.heap.size ≤ B) : Bel w0 w' := h0.trans (h.mono hB)
theorem below_step {B : Nat} {w w1 w2 : World} (h : Below B w w1) (h2 : Bel w1 w2) (hB : B ≤ w1.heap.size) : Below B w w2 := h.trans (h2.mono hB)

def encN (x : Int) : List Value := [.int .i64 x]
theorem encN_len (x : Int) : (encN x).length = 1 := rfl
def encB (c : UInt8) : List Value := [.int .u8 c.toNat]
theorem encB_len (c : UInt8) : (encB c).length = 1 := rfl
abbrev SlN := Sl encN 1
abbrev SlB := Sl encB 1
theorem num_cell {w : World} {b o : Nat} {l : List Int} (h : RowAt encN 1 w b o l) {i : Nat} (hi : i < l.length) : w.cell? ⟨b, o + i, none⟩ = some (.int .i64 l[i]) := by
  have := h i hi 0 (by omega)
  simpa [encN] using this
theorem byte_cell {w : World} {b o : Nat} {l : List UInt8} (h : RowAt encB 1 w b o l) {i : Nat} (hi : i < l.length) : w.cell? ⟨b, o + i, none⟩ = some (.int .u8 (l[i].toNat : Int)) := by
  have := h i hi 0 (by omega)
  simpa [encB] using this
theorem encB_one (l : List UInt8) : ∀ u ∈ l.flatMap encB, u.oneCell' = true := by
  intro u hu
  obtain ⟨x, _, hx⟩ := List.mem_flatMap.1 hu
  simp only [encB, List.mem_cons, List.not_mem_nil, or_false] at hx
  subst hx; rfl
theorem slot_shape {α : Type} {enc : α → List Value} {k : Nat} {w : World} {v : Value} {l : List α} (h : Sl enc k w v l) : ∃ a c, v = .slice a l.length c := by
  rcases h with ⟨rfl, rfl⟩ | ⟨b, o, c, rfl, _⟩
  · exact ⟨_, _, rfl⟩
  · exact ⟨_, _, rfl⟩
theorem Sl.empty_any {α : Type} {enc : α → List Value} {k : Nat} {w w' : World} {v : Value} (h : Sl enc k w v []) : Sl enc k w' v [] := by
  rcases h with h | ⟨b, o, c, h1, h2, h3, _⟩
  · exact Or.inl h
  · exact Or.inr ⟨b, o, c, h1, h2, h3, RowAt.nil⟩
theorem Md.sl' {α : Type} {enc : α → List Value} {k : Nat} {S : Nat → Prop} {w w' : World} {v : Value} {l : List α} (h : Md S w w') (hk : ∀ x, (enc x).length = k) (hr : Sl enc k w v l) (hn : l ≠ [] → ∀ g, v.ownBlock = some g → ¬ S g) : Sl enc k w' v l := by
  cases l with
  | nil => exact hr.empty_any
  | cons x t => exact h.sl hk hr (hn (by simp))
theorem Sl.lt {α : Type} {enc : α → List Value} {k : Nat} (hk0 : 0 < k) (hk : ∀ x, (enc x).length = k) {w : World} {v : Value} {l : List α} (h : Sl enc k w v l) (hl : l ≠ []) {g : Nat} (hg : v.ownBlock = some g) : g < w.heap.size := by
  rcases h with ⟨rfl, _⟩ | ⟨b, o, cap, rfl, _, _, hr⟩
  · cases hg
  · have : b = g := Option.some.inj hg
    subst this
    have h0 := hr 0 (List.length_pos_iff.2 hl) 0 hk0
    rw [List.getElem?_eq_getElem (by rw [hk]; exact hk0)] at h0
    exact lt_of_cell h0
end Go.Proofs.YtmnmoadkpidggaaDoor
