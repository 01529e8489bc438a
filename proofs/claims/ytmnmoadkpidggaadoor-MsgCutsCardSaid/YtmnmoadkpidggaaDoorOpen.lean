/- From an argument's reading to lists: slices of numbers, of structs, of slices. No condition. -/
import Derived.Test.YtmnmoadkpidggaaDoorBase
import Derived.ProofKit
import Derived.Deep.Slices
import Derived.Lib.SmallJoins
import Derived.OpenShut
namespace Go.Proofs.YtmnmoadkpidggaaDoor
set_option linter.unusedSimpArgs false
set_option linter.unusedVariables false
open Go.RowKit Go.ChangeShapes Go.WideShapes

section
variable {H : Type} {en : TypeId × Value → H} {P : Program} {w : World} {base : Nat} {spare : Nat → Bool} {held : Bool}

/-- What an element's cells are. -/
def Rd (en : TypeId × Value → H) (P : Program) (w : World) (base : Nat) (spare : Nat → Bool) (held : Bool) {α : Type} (enc : α → List Value) (Ok : α → Prop) (e : TypeId) : Prop :=
  ∀ n cs y, DataW.trod en P w base spare held n e cs = some y → ∃ a, cs = enc a ∧ Ok a

theorem open_rows {α : Type} [Inhabited α] {enc : α → List Value} {k : Nat} {Ok : α → Prop} {t e : TypeId} (ht : P.underlying t = some (.slice e)) (hk : P.cellsOf e = k) (hlen : ∀ x, (enc x).length = k) (rd : Rd en P w base spare held enc Ok e)
    {a : Option Addr} {len cap : Nat} {d : DataW H} {p : List MemPlace} (hsp : ∀ x, a = some x → x.spot = none) (h : DataW.Trod en P w base spare held t (.slice a len cap) d p) :
    ∃ l : List α, l.length = len ∧ Sl enc k w (.slice a len cap) l ∧ ∀ x ∈ l, Ok x := by
  obtain ⟨fuel, hf⟩ := h
  rcases Deep.open_slice ht hf with ⟨hcs, _⟩ | ⟨a', len', cap', m, n, D, Pl, hcs, hb, hl, hm, hmm, _, hx⟩
  · simp [Value.cells] at hcs
    obtain ⟨rfl, rfl, rfl⟩ := hcs
    exact ⟨[], rfl, Or.inl ⟨rfl, rfl⟩, by simp⟩
  · simp [Value.cells] at hcs
    obtain ⟨rfl, rfl, rfl⟩ := hcs
    obtain ⟨ab, ao, as⟩ := a'
    obtain rfl : as = none := hsp _ rfl
    have hle : len ≤ m := by rw [hmm]; split <;> omega
    have each : ∀ i, i < len → ∃ x : α, Ok x ∧ ∀ j, j < k → w.cell? ⟨ab, ao + i * k + j, none⟩ = (enc x)[j]? := by
      intro i hi
      obtain ⟨cs', h1, h2⟩ := hx i (by omega)
      obtain ⟨x, rfl, ok⟩ := rd _ _ _ h2
      refine ⟨x, ok, fun j hj => ?_⟩
      rw [hk] at h1
      obtain ⟨_, _, h3⟩ := World.cells?_some h1
      rw [← h3 j hj]
      congr 1
      unfold Addr.add
      split <;> split <;> simp_all <;> omega
    obtain ⟨f, hfn⟩ := Deep.choose_lt each
    refine ⟨(List.range len).map f, by simp, Or.inr ⟨ab, ao, cap, by simp, by simpa using hl, hm, fun i hi j hj => ?_⟩, ?_⟩
    · have hi' : i < len := by simpa using hi
      rw [(hfn i hi').2 j hj]; simp
    · intro x hx
      obtain ⟨i, hi, rfl⟩ := List.mem_map.1 hx
      exact (hfn i (by simpa using hi)).1

theorem rd_int {k : IntKind} {e : TypeId} (he : P.underlying e = some (.int k)) : Rd en P w base spare held (fun n : Int => [.int k n]) (fun n => (Lit.int k n).wf = true) e := by
  intro n cs y h
  obtain ⟨x, rfl, _, hw⟩ := DataW.trod_int he h
  exact ⟨x, rfl, hw⟩
theorem slice_spot {t e : TypeId} {r : Reach} {b : Nat} {a : Option Addr} {len cap : Nat} (ht : P.underlying t = some (.slice e)) (h : Value.okWide P w r b t (.slice a len cap)) : ∀ x, a = some x → x.spot = none := by
  rintro x rfl
  unfold Value.okWide at h
  rw [ht] at h
  simp only [Cell.okWide, ht, Cell.ok] at h
  exact h.2.2.2.1

theorem ints_i64 {n : Int} (h : (Lit.int .i64 n).wf = true) : -9223372036854775808 ≤ n ∧ n ≤ 9223372036854775807 := bounds_i64 h
end
end Go.Proofs.YtmnmoadkpidggaaDoor
