/- append of any number of elements at a step of a region that draws: the new value is a letter. No condition. -/
import Derived.Deep.AppendLies
import Derived.Laws.OwnMore
import Derived.Laws.AppendOwnNone
import Derived.Maps.AppendAt
import Derived.Test.YtdigfjpknckpfaaGreatDoorFresh
namespace Go.Proofs.YtdigfjpknckpfaaGreatDoor
set_option linter.unusedSimpArgs false
set_option linter.unusedVariables false
open Go.RowKit

theorem step_append_at {P : Program} {w : World} {ops : Array Oper} {o : Oper} {a : Act} {K : Act → World → Prop} {Q : Exit → Act → World → Prop} {E : Prop} (hgd : o.guard = none) (s x : Operand) (t : TypeId)
    (ho : o.op = .call { callee := .builtin .append, args := #[s, x], argTypes := #[t, t] })
    (base : Nat) (e : TypeId) (i : TypeInfo) (z : Value) (size bytes : Nat) (ht : P.underlying t = some (.slice e)) (hi : P.info? e = some i) (hz : i.zero = some z)
    (hsize : i.size = size) (hby : i.bytes = bytes) (hzs : z.cells.size = size) (hsz : 0 < size)
    (v : Value) (n : Nat) (xs : List Value) (hs : a.eval s = v) (hown : w.ownsRow base e size v n xs)
    (ad : Addr) (m c : Nat) (news : List Value) (hx : a.eval x = .slice (some ad) m c) (hl : news.length = m * size) (hnews : ∀ j u, news[j]? = some u → w.cell? (ad.add j) = some u) (h1 : ∀ u ∈ news, u.oneCell' = true)
    (h63 : n + m ≤ maxLen) (hbytes : (n + m) * bytes ≤ 140737488355328) (hbase : base ≤ w.heap.size)
    (h : ∀ v' w', w'.ownsRow base e size v' (n + m) (xs ++ news) → w.grownBy w' v.ownBlock → (v'.ownBlock = v.ownBlock ∨ v'.ownBlock = some w.heap.size) → K (a.put o.dst v') w') :
    if Region.wanted o (yielded ops a.tmps) = true then Oper.wp P o a w K Q else E := by
  have hw : Region.wanted o (yielded ops a.tmps) = true := by simp [Region.wanted, hgd]
  rw [if_pos hw]
  obtain ⟨v', w', hr, h2, h3, _, h5⟩ := run_append_own_at (P := P) w base t o.type e i z size bytes ht hi hz hsize hby hzs hsz v n xs hown ad m c news hl hnews h1 h63 hbytes hbase
  unfold Oper.wp execOp
  simp only [ho, resolve, invoke, builtin, Sem.run_bind, Sem.run_pure, Result.andThen_ok, List.map_toArray, List.map_cons, List.map_nil, hs, hx, hr]
  exact h v' w' h2 h3 h5

theorem own_empty {w : World} {E base : Nat} {T : TypeId} {k : Nat} (h : w.heap[E]? = some (.cells #[] T (0, 0))) (hb : base ≤ E) : w.ownsRow base T k (.slice (some ⟨E, 0, none⟩) 0 0) 0 [] :=
  ⟨by simp, .inr ⟨E, 0, #[], rfl, hb, h, Nat.le_refl _, by unfold maxLen; omega, by simp, by simp⟩⟩
theorem heap_new_at (w : World) (o : Obj) {k : Nat} (hk : w.heap.size = k) : (w.alloc o).heap[k]? = some o := by subst hk; exact heap_alloc_new w o
/-- A row put behind an empty literal, in a region that draws: W is the world ahead of the region. -/
theorem step_app_empty {P : Program} {W w : World} {ops : Array Oper} {o : Oper} {a : Act} {K : Act → World → Prop} {Q : Exit → Act → World → Prop} {E : Prop} (hgd : o.guard = none) (s x : Operand) (t : TypeId)
    (ho : o.op = .call { callee := .builtin .append, args := #[s, x], argTypes := #[t, t] })
    (e : TypeId) (i : TypeInfo) (z : Value) (size bytes : Nat) (ht : P.underlying t = some (.slice e)) (hi : P.info? e = some i) (hz : i.zero = some z)
    (hsize : i.size = size) (hby : i.bytes = bytes) (hzs : z.cells.size = size) (hsz : 0 < size)
    (B : Nat) (hs : a.eval s = .slice (some ⟨B, 0, none⟩) 0 0) (hw : Bel W w) (hB : w.heap[B]? = some (.cells #[] e (0, 0))) (hBW : W.heap.size ≤ B)
    (ad : Addr) (m c : Nat) (news : List Value) (hx : a.eval x = .slice (some ad) m c) (hl : news.length = m * size) (hnews : ∀ j u, news[j]? = some u → W.cell? (ad.add j) = some u) (h1 : ∀ u ∈ news, u.oneCell' = true)
    (h63 : m ≤ maxLen) (hbytes : m * bytes ≤ 140737488355328)
    (h : ∀ v' w', w'.ownsRow W.heap.size e size v' m news → w.grownBy w' (some B) → (∀ (q : Nat) (ob : Obj), q ≠ B → w.heap[q]? = some ob → w'.heap[q]? = some ob) → Bel W w' → K (a.put o.dst v') w') :
    if Region.wanted o (yielded ops a.tmps) = true then Oper.wp P o a w K Q else E := by
  refine step_append_at hgd s x t ho W.heap.size e i z size bytes ht hi hz hsize hby hzs hsz _ 0 [] hs (own_empty hB hBW) ad m c news hx hl (fun j u hj => hw.cellv (hnews j u hj)) h1 (by omega) (by simpa using hbytes) hw.size ?_
  intro v' w' h2 h3 h4
  refine h v' w' (by simpa using h2) h3 (fun q ob hq hob => (h3.block q (Array.getElem?_eq_some_iff.1 hob).1 (fun he => hq (Option.some.inj he))).trans hob) (Below.grown hw h3 hw.size (fun k hk => ?_))
  have hk : B = k := Option.some.inj hk
  omega
/-- Nothing (a nil slice) put behind an empty literal. -/
theorem step_app_none {P : Program} {W w : World} {ops : Array Oper} {o : Oper} {a : Act} {K : Act → World → Prop} {Q : Exit → Act → World → Prop} {E : Prop} (hgd : o.guard = none) (s x : Operand) (t : TypeId)
    (ho : o.op = .call { callee := .builtin .append, args := #[s, x], argTypes := #[t, t] })
    (e : TypeId) (i : TypeInfo) (size : Nat) (ht : P.underlying t = some (.slice e)) (hi : P.info? e = some i)
    (B : Nat) (hs : a.eval s = .slice (some ⟨B, 0, none⟩) 0 0) (hw : Bel W w) (hB : w.heap[B]? = some (.cells #[] e (0, 0))) (hBW : W.heap.size ≤ B) (hx : a.eval x = .slice none 0 0)
    (h : ∀ v' w', w'.ownsRow W.heap.size e size v' 0 [] → w.grownBy w' (some B) → (∀ (q : Nat) (ob : Obj), q ≠ B → w.heap[q]? = some ob → w'.heap[q]? = some ob) → Bel W w' → K (a.put o.dst v') w') :
    if Region.wanted o (yielded ops a.tmps) = true then Oper.wp P o a w K Q else E := by
  have hwant : Region.wanted o (yielded ops a.tmps) = true := by simp [Region.wanted, hgd]
  rw [if_pos hwant]
  have hown : w.ownsRow W.heap.size e size (.slice (some ⟨B, 0, none⟩) 0 0) 0 [] := own_empty hB hBW
  have hr := run_append_owned_none (P := P) (w := w) W.heap.size t o.type e i size ht hi _ 0 [] hown
  unfold Oper.wp execOp
  simp only [ho, resolve, invoke, builtin, Sem.run_bind, Sem.run_pure, Result.andThen_ok, List.map_toArray, List.map_cons, List.map_nil, hs, hx, hr]
  exact h _ _ hown (World.grownBy.refl _ _) (fun _ _ _ h => h) hw
/-- One element put behind a row that was made in the region. -/
theorem step_app_one {P : Program} {W w w1 : World} {ops : Array Oper} {o : Oper} {a : Act} {K : Act → World → Prop} {Q : Exit → Act → World → Prop} {E : Prop} (hgd : o.guard = none) (s x : Operand) (t : TypeId)
    (ho : o.op = .call { callee := .builtin .append, args := #[s, x], argTypes := #[t, t] })
    (e : TypeId) (i : TypeInfo) (z : Value) (size bytes : Nat) (ht : P.underlying t = some (.slice e)) (hi : P.info? e = some i) (hz : i.zero = some z)
    (hsize : i.size = size) (hby : i.bytes = bytes) (hzs : z.cells.size = size) (hsz : 0 < size)
    (v : Value) (n : Nat) (xs : List Value) (hs : a.eval s = v) (hW1 : Bel W w1) (hw : Bel w1 w) (hown : w1.ownsRow W.heap.size e size v n xs)
    (B : Nat) (cs : Array Value) (hx : a.eval x = .slice (some ⟨B, 0, none⟩) 1 1) (hB : w.heap[B]? = some (.cells cs e (0, 0))) (hcs : cs.size = size) (h1 : ∀ u ∈ cs.toList, u.oneCell' = true)
    (h63 : n + 1 ≤ maxLen) (hbytes : (n + 1) * bytes ≤ 140737488355328)
    (h : ∀ v' w', w'.ownsRow W.heap.size e size v' (n + 1) (xs ++ cs.toList) → Bel W w' → K (a.put o.dst v') w') :
    if Region.wanted o (yielded ops a.tmps) = true then Oper.wp P o a w K Q else E := by
  have hWw := hW1.step hw
  refine step_append_at hgd s x t ho W.heap.size e i z size bytes ht hi hz hsize hby hzs hsz v n xs hs (hw.own hown) ⟨B, 0, none⟩ 1 1 cs.toList hx (by simp [hcs]) (World.news_of_block hB) h1 h63 hbytes hWw.size ?_
  intro v' w' h2 h3 h4
  exact h v' w' h2 (Below.grown hWw h3 hWw.size (fun k hk => ((hw.own hown).lt k hk).1))

theorem own_base {w : World} {B B' : Nat} {T : TypeId} {k n : Nat} {v : Value} {xs : List Value} (h : w.ownsRow B T k v n xs) (hB : B' ≤ B) : w.ownsRow B' T k v n xs := by
  obtain ⟨h1, h2⟩ := h
  refine ⟨h1, ?_⟩
  rcases h2 with h2 | ⟨g, cap, cur, hv, hg, r⟩
  · exact Or.inl h2
  · exact Or.inr ⟨g, cap, cur, hv, Nat.le_trans hB hg, r⟩
section
variable {α : Type} {enc : α → List Value} {k : Nat}
theorem RowAt.take {w : World} {b o : Nat} {l : List α} (h : RowAt enc k w b o l) (n : Nat) : RowAt enc k w b o (l.take n) := by
  intro i hi j hj
  have hi' : i < l.length := by simp at hi; omega
  have := h i hi' j hj
  rw [this]; simp
theorem RowAt.drop {w : World} {b o : Nat} {l : List α} (h : RowAt enc k w b o l) (n : Nat) : RowAt enc k w b (o + n * k) (l.drop n) := by
  intro i hi j hj
  have hi' : n + i < l.length := by simp at hi; omega
  have := h (n + i) hi' j hj
  rw [Nat.add_mul] at this
  rw [show o + n * k + i * k + j = o + (n * k + i * k) + j by omega, this]; simp
theorem news_row (hk : ∀ x, (enc x).length = k) {w : World} {b o : Nat} {l : List α} (h : RowAt enc k w b o l) : ∀ j u, (l.flatMap enc)[j]? = some u → w.cell? ((⟨b, o, none⟩ : Addr).add j) = some u := by
  intro j u hu
  have hadd : (⟨b, o, none⟩ : Addr).add j = ⟨b, o + j, none⟩ := by unfold Addr.add; split <;> simp_all
  rw [hadd]
  exact row_flat hk h j u hu
end
end Go.Proofs.YtdigfjpknckpfaaGreatDoor
