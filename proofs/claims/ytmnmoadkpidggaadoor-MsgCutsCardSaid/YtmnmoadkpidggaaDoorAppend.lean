/- append of any number of elements at a step of a region that draws: the new value is a letter. No condition. -/
import Derived.Deep.AppendLies
import Derived.Test.YtmnmoadkpidggaaDoorFresh
namespace Go.Proofs.YtmnmoadkpidggaaDoor
set_option linter.unusedSimpArgs false
set_option linter.unusedVariables false
open Go.RowKit

theorem step_append_at {P : Program} {w : World} {ops : Array Oper} {o : Oper} {a : Act} {K : Act → World → Prop} {Q : Exit → Act → World → Prop} {E : Prop} (hgd : o.guard = none) (s x : Operand) (t : TypeId)
    (ho : o.op = .call { callee := .builtin .append, args := #[s, x], argTypes := #[t, t] })
    (base : Nat) (e : TypeId) (i : TypeInfo) (z : Value) (size bytes : Nat) (ht : P.underlying t = some (.slice e)) (hi : P.info? e = some i) (hz : i.zero = some z)
    (hsize : i.size = size) (hby : i.bytes = bytes) (hzs : z.cells.size = size) (hsz : 0 < size)
    (v : Value) (n : Nat) (xs : List Value) (hs : a.eval s = v) (hown : w.ownsRow base e size v n xs)
    (ad : Addr) (m c : Nat) (news : List Value) (hx : a.eval x = .slice (some ad) m c) (hl : news.length = m * size) (hnews : ∀ j u, news[j]? = some u → w.cell? (ad.add j) = some u) (h1 : ∀ u ∈ news, u.oneCell' = true)
    (h63 : n + m ≤ maxLen) (hbytes : (n + m) * bytes ≤ 140737488355328) (hbase : base ≤ w.heap.size)
    (h : ∀ v' w', w'.ownsRow base e size v' (n + m) (xs ++ news) → w.grownBy w' v.ownBlock → (v'.ownBlock = v.ownBlock ∨ v'.ownBlock = some w.heap.size) → K (a.put o.dst v') w') :
    if Region.wanted o (yielded ops a.tmps) = true then Oper.wp P o a w K Q else E := by
  have hw : Region.wanted o (yielded ops a.tmps) = true := by simp [Region.wanted, hgd]
  rw [if_pos hw]
  obtain ⟨v', w', hr, h2, h3, _, h5⟩ := run_append_own_at (P := P) w base t o.type e i z size bytes ht hi hz hsize hby hzs hsz v n xs hown ad m c news hl hnews h1 h63 hbytes hbase
  unfold Oper.wp execOp
  simp only [ho, resolve, invoke, builtin, Sem.run_bind, Sem.run_pure, Result.andThen_ok, List.map_toArray, List.map_cons, List.map_nil, hs, hx, hr]
  exact h v' w' h2 h3 h5

theorem own_empty {w : World} {E base : Nat} {T : TypeId} {k : Nat} (h : w.heap[E]? = some (.cells #[] T (0, 0))) (hb : base ≤ E) : w.ownsRow base T k (.slice (some ⟨E, 0, none⟩) 0 0) 0 [] :=
  ⟨by simp, .inr ⟨E, 0, #[], rfl, hb, h, Nat.le_refl _, by unfold maxLen; omega, by simp, by simp⟩⟩
section
variable {α : Type} {enc : α → List Value} {k : Nat}
theorem RowAt.take {w : World} {b o : Nat} {l : List α} (h : RowAt enc k w b o l) (n : Nat) : RowAt enc k w b o (l.take n) := by
  intro i hi j hj
  have hi' : i < l.length := by simp at hi; omega
  have := h i hi' j hj
  rw [this]; simp
theorem RowAt.drop {w : World} {b o : Nat} {l : List α} (h : RowAt enc k w b o l) (n : Nat) : RowAt enc k w b (o + n * k) (l.drop n) := by
  intro i hi j hj
  have hi' : n + i < l.length := by simp at hi; omega
  have := h (n + i) hi' j hj
  rw [Nat.add_mul] at this
  rw [show o + n * k + i * k + j = o + (n * k + i * k) + j by omega, this]; simp
theorem news_row (hk : ∀ x, (enc x).length = k) {w : World} {b o : Nat} {l : List α} (h : RowAt enc k w b o l) : ∀ j u, (l.flatMap enc)[j]? = some u → w.cell? ((⟨b, o, none⟩ : Addr).add j) = some u := by
  intro j u hu
  have hadd : (⟨b, o, none⟩ : Addr).add j = ⟨b, o + j, none⟩ := by unfold Addr.add; split <;> simp_all
  rw [hadd]
  exact row_flat hk h j u hu
end
end Go.Proofs.YtmnmoadkpidggaaDoor
