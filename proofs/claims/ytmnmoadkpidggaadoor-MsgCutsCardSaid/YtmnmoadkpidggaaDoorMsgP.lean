/- Numbers one behind the other, messages as bytes: what a reader and a writer compute, and that one undoes the other. No program in sight; no condition beside int64 numbers. -/
import Derived.Test.YtmnmoadkpidggaaDoorBase
namespace Go.Proofs.YtmnmoadkpidggaaDoor
set_option linter.unusedSimpArgs false
set_option linter.unusedVariables false

/-- A number without its sign, the sign behind it. -/
def zig (n : Int) : Nat := if 0 ≤ n then (2 * n).toNat else (-2 * n - 1).toNat
def zag (u : Nat) : Int := if u % 2 = 0 then ((u / 2 : Nat) : Int) else -((u / 2 : Nat) : Int) - 1
theorem zag_zig (n : Int) : zag (zig n) = n := by
  unfold zag zig
  split <;> split <;> omega
theorem zig_lt {n : Int} (h : -9223372036854775808 ≤ n ∧ n ≤ 9223372036854775807) : zig n < 18446744073709551616 := by
  unfold zig; split <;> omega

def encU (u : Nat) : List UInt8 :=
  if h : u < 128 then [UInt8.ofNat u] else UInt8.ofNat (u % 128 + 128) :: encU (u / 128)
termination_by u
decreasing_by omega

theorem encU_one {u : Nat} (h : u < 128) : encU u = [UInt8.ofNat u] := by rw [encU, dif_pos h]
theorem encU_more {u : Nat} (h : ¬ u < 128) : encU u = UInt8.ofNat (u % 128 + 128) :: encU (u / 128) := by rw [encU, dif_neg h]
theorem encU_len_pos (u : Nat) : 1 ≤ (encU u).length := by
  by_cases h : u < 128
  · rw [encU_one h]; simp
  · rw [encU_more h]; simp
theorem encU_len (k : Nat) : ∀ u, u < 128 ^ k → 1 ≤ k → (encU u).length ≤ k := by
  induction k with
  | zero => intro u _ h; omega
  | succ k ih =>
    intro u hu _
    by_cases h : u < 128
    · rw [encU_one h]; simp
    · rw [encU_more h]
      rcases Nat.eq_zero_or_pos k with rfl | hk
      · omega
      · have := ih (u / 128) (by rw [Nat.pow_succ] at hu; omega) hk
        simp; omega

/-- One number read: its value, how many bytes, an Errno (0: none). -/
def decGo (l : List UInt8) : Nat → Nat → Nat → Nat × Nat × Int
  | 0, _, _ => (0, 0, 2)
  | f + 1, i, v => match l[i]? with
    | none => (0, 0, 3)
    | some c => if (i = 9 ∧ 1 < c.toNat) ∨ (0 < i ∧ c.toNat = 0) then (0, 0, 2)
      else if c.toNat < 128 then (v + c.toNat % 128 * 2 ^ (7 * i), i + 1, 0) else decGo l f (i + 1) (v + c.toNat % 128 * 2 ^ (7 * i))
def decU (l : List UInt8) : Nat × Nat × Int := decGo l 10 0 0

theorem u8n {n : Nat} (h : n < 256) : (UInt8.ofNat n).toNat = n := by simp; omega

theorem dec_enc (rest : List UInt8) : ∀ (f i u v : Nat) (pre : List UInt8), f + i = 10 → pre.length = i → (0 < i → 0 < u) → u < 2 ^ (64 - 7 * i) → i ≤ 9 →
    decGo (pre ++ encU u ++ rest) f i v = (v + u * 2 ^ (7 * i), i + (encU u).length, 0) := by
  intro f
  induction f with
  | zero => intro i u v pre h _ _ _ h9; omega
  | succ f ih =>
    intro i u v pre h hp h0 hu h9
    by_cases h1 : u < 128
    · have hl : (pre ++ encU u ++ rest)[i]? = some (UInt8.ofNat u) := by
        rw [encU_one h1, List.append_assoc, List.getElem?_append_right (by omega), hp]; simp
      rw [decGo, hl]
      simp only [u8n (show u < 256 by omega)]
      rw [if_neg, if_pos h1, encU_one h1, Nat.mod_eq_of_lt h1]
      · simp
      · rintro (⟨rfl, h⟩ | ⟨h, h'⟩)
        · simp at hu; omega
        · have := h0 h; omega
    · have hl : (pre ++ encU u ++ rest)[i]? = some (UInt8.ofNat (u % 128 + 128)) := by
        rw [encU_more h1, List.append_assoc, List.getElem?_append_right (by omega), hp]; simp
      have h8 : i ≤ 8 := by
        rcases Nat.lt_or_ge i 9 with h | h
        · omega
        · obtain rfl : i = 9 := by omega
          simp at hu; omega
      rw [decGo, hl]
      simp only [u8n (show u % 128 + 128 < 256 by omega)]
      rw [if_neg (by omega), if_neg (by omega)]
      have hrec := ih (i + 1) (u / 128) (v + (u % 128 + 128) % 128 * 2 ^ (7 * i)) (pre ++ [UInt8.ofNat (u % 128 + 128)]) (by omega) (by simp [hp]) (fun _ => by omega) (by
        have e : 2 ^ (64 - 7 * i) = 2 ^ (64 - 7 * (i + 1)) * 128 := by
          rw [show 64 - 7 * i = (64 - 7 * (i + 1)) + 7 by omega, Nat.pow_add]
        rw [e] at hu
        exact Nat.div_lt_of_lt_mul (by rw [Nat.mul_comm]; exact hu)) (by omega)
      rw [show pre ++ [UInt8.ofNat (u % 128 + 128)] ++ encU (u / 128) ++ rest = pre ++ encU u ++ rest by rw [encU_more h1]; simp] at hrec
      rw [hrec, encU_more h1]
      have e : 2 ^ (7 * (i + 1)) = 128 * 2 ^ (7 * i) := by rw [show 7 * (i + 1) = 7 + 7 * i by omega, Nat.pow_add]
      have key : v + (u % 128 + 128) % 128 * 2 ^ (7 * i) + u / 128 * 2 ^ (7 * (i + 1)) = v + u * 2 ^ (7 * i) := by
        rw [e, show (u % 128 + 128) % 128 = u % 128 by omega, ← Nat.mul_assoc, Nat.add_assoc, ← Nat.add_mul, show u % 128 + u / 128 * 128 = u by omega]
      rw [key]
      simp; omega
theorem decU_enc {u : Nat} (h : u < 18446744073709551616) (rest : List UInt8) : decU (encU u ++ rest) = (u, (encU u).length, 0) := by
  have := dec_enc rest 10 0 u 0 [] (by omega) rfl (fun h => by omega) (by simpa using h) (by omega)
  simpa [decU] using this

/-- A number without its end is none. -/
theorem dec_cut : ∀ (f i u v k : Nat) (pre : List UInt8), f + i = 10 → pre.length = i → (0 < i → 0 < u) → u < 2 ^ (64 - 7 * i) → i ≤ 9 → k < (encU u).length →
    decGo (pre ++ (encU u).take k) f i v = (0, 0, 3) := by
  intro f
  induction f with
  | zero => intro i u v k pre h _ _ _ h9; omega
  | succ f ih =>
    intro i u v k pre h hp h0 hu h9 hk
    rcases Nat.eq_zero_or_pos k with rfl | hk0
    · rw [decGo, List.getElem?_eq_none (by simp; omega)]
    · by_cases h1 : u < 128
      · rw [encU_one h1] at hk; simp at hk; omega
      · rw [encU_more h1] at hk ⊢
        obtain ⟨k, rfl⟩ : ∃ m, k = m + 1 := ⟨k - 1, by omega⟩
        rw [List.take_succ_cons]
        have hl : (pre ++ UInt8.ofNat (u % 128 + 128) :: (encU (u / 128)).take k)[i]? = some (UInt8.ofNat (u % 128 + 128)) := by
          rw [List.getElem?_append_right (by omega), hp]; simp
        have h8 : i ≤ 8 := by
          rcases Nat.lt_or_ge i 9 with h | h
          · omega
          · obtain rfl : i = 9 := by omega
            simp at hu; omega
        rw [decGo, hl]
        simp only [u8n (show u % 128 + 128 < 256 by omega)]
        rw [if_neg (by omega), if_neg (by omega)]
        have hrec := ih (i + 1) (u / 128) (v + (u % 128 + 128) % 128 * 2 ^ (7 * i)) k (pre ++ [UInt8.ofNat (u % 128 + 128)]) (by omega) (by simp [hp]) (fun _ => by omega) (by
          have e : 2 ^ (64 - 7 * i) = 2 ^ (64 - 7 * (i + 1)) * 128 := by
            rw [show 64 - 7 * i = (64 - 7 * (i + 1)) + 7 by omega, Nat.pow_add]
          rw [e] at hu
          exact Nat.div_lt_of_lt_mul (by rw [Nat.mul_comm]; exact hu)) (by omega) (by simp at hk; omega)
        rw [List.append_assoc] at hrec
        exact hrec
theorem decU_cut {u k : Nat} (h : u < 18446744073709551616) (hk : k < (encU u).length) : decU ((encU u).take k) = (0, 0, 3) := by
  have := dec_cut 10 0 u 0 k [] (by omega) rfl (fun h => by omega) (by simpa using h) (by omega) hk
  simpa [decU] using this

def encI (n : Int) : List UInt8 := encU (zig n)
def encIs (l : List Int) : List UInt8 := l.flatMap encI
def byteW : List UInt8 := [98, 121, 116, 101]
def msgW : List UInt8 := [109, 115, 103]

/-- Where a reader stands: its place, what was wrong. -/
structure St where
  at_ : Nat
  err : Er
/-- One number read. -/
def rd1 (b : List UInt8) (s : St) : Int × St :=
  if s.err = .nil then (if (decU (b.drop s.at_)).2.2 = 0 then (zag (decU (b.drop s.at_)).1, ⟨s.at_ + (decU (b.drop s.at_)).2.1, .nil⟩) else (0, ⟨s.at_, .fault byteW s.at_ (.no (decU (b.drop s.at_)).2.2)⟩))
  else (0, s)
/-- Numbers read. -/
def rdN (b : List UInt8) : Nat → St → List Int × St
  | 0, s => ([], s)
  | n + 1, s => ((rd1 b s).1 :: (rdN b n (rd1 b s).2).1, (rdN b n (rd1 b s).2).2)
theorem rdN_zero (b : List UInt8) (s : St) : rdN b 0 s = ([], s) := rfl
theorem rdN_succ (b : List UInt8) (n : Nat) (s : St) : rdN b (n + 1) s = ((rd1 b s).1 :: (rdN b n (rd1 b s).2).1, (rdN b n (rd1 b s).2).2) := rfl
theorem rdN_add (b : List UInt8) (m : Nat) : ∀ (n : Nat) (s : St), rdN b (n + m) s = ((rdN b n s).1 ++ (rdN b m (rdN b n s).2).1, (rdN b m (rdN b n s).2).2) := by
  intro n
  induction n with
  | zero => intro s; rw [Nat.zero_add, rdN_zero]; rfl
  | succ n ih => intro s; rw [Nat.add_right_comm, rdN_succ, ih, rdN_succ]; rfl
theorem rdN_len (b : List UInt8) : ∀ (n : Nat) (s : St), (rdN b n s).1.length = n := by
  intro n
  induction n with
  | zero => intro s; rfl
  | succ n ih => intro s; rw [rdN_succ]; simp [ih]
theorem rdN_stuck (b : List UInt8) : ∀ (n : Nat) (s : St), s.err ≠ .nil → (rdN b n s).2 = s := by
  intro n
  induction n with
  | zero => intro s _; rfl
  | succ n ih =>
    intro s h
    have h1 : rd1 b s = (0, s) := by unfold rd1; rw [if_neg h]
    rw [rdN_succ, h1]; exact ih s h
theorem rd1_enc {n : Int} (h : I64 n) (pre rest : List UInt8) : rd1 (pre ++ encI n ++ rest) ⟨pre.length, .nil⟩ = (n, ⟨pre.length + (encI n).length, .nil⟩) := by
  have hd : (pre ++ encI n ++ rest).drop pre.length = encU (zig n) ++ rest := by rw [List.append_assoc, List.drop_left]; rfl
  unfold rd1
  rw [if_pos rfl, hd, decU_enc (zig_lt h), if_pos rfl, zag_zig]; rfl
theorem rdN_enc : ∀ (ns : List Int) (_ : ∀ n ∈ ns, I64 n) (pre rest : List UInt8), rdN (pre ++ encIs ns ++ rest) ns.length ⟨pre.length, .nil⟩ = (ns, ⟨pre.length + (encIs ns).length, .nil⟩) := by
  intro ns
  induction ns with
  | nil => intro _ pre rest; simp [encIs, rdN]
  | cons n t ih =>
    intro h pre rest
    have e : pre ++ encIs (n :: t) ++ rest = pre ++ encI n ++ (encIs t ++ rest) := by simp [encIs]
    have e2 : pre ++ encIs (n :: t) ++ rest = (pre ++ encI n) ++ encIs t ++ rest := by simp [encIs]
    rw [List.length_cons, rdN_succ, e, rd1_enc (h n (by simp)), ← e, e2]
    have := ih (fun m hm => h m (by simp [hm])) (pre ++ encI n) rest
    rw [show (⟨pre.length + (encI n).length, Er.nil⟩ : St) = ⟨(pre ++ encI n).length, .nil⟩ by simp, this]
    simp [encIs]; omega
/-- Numbers without their end are none. -/
theorem rdN_cut : ∀ (ns : List Int) (_ : ∀ n ∈ ns, I64 n) (pre : List UInt8) (k : Nat), k < (encIs ns).length → (rdN (pre ++ (encIs ns).take k) ns.length ⟨pre.length, .nil⟩).2.err ≠ .nil := by
  intro ns
  induction ns with
  | nil => intro _ pre k h; simp [encIs] at h
  | cons n t ih =>
    intro h pre k hk
    rcases Nat.lt_or_ge k (encI n).length with hlt | hge
    · have e : (encIs (n :: t)).take k = (encU (zig n)).take k := by
        show (encI n ++ encIs t).take k = _
        rw [List.take_append_of_le_length (Nat.le_of_lt hlt)]; rfl
      have hd : (pre ++ (encU (zig n)).take k).drop pre.length = (encU (zig n)).take k := by rw [List.drop_left]
      have h1 : (rd1 (pre ++ (encU (zig n)).take k) ⟨pre.length, .nil⟩).2.err ≠ .nil := by
        unfold rd1
        rw [if_pos rfl, hd, decU_cut (zig_lt (h n (by simp))) hlt, if_neg (by decide)]
        simp
      rw [List.length_cons, rdN_succ, e]
      show (rdN _ t.length (rd1 _ ⟨pre.length, .nil⟩).2).2.err ≠ .nil
      rw [rdN_stuck _ _ _ h1]; exact h1
    · have e : (encIs (n :: t)).take k = encI n ++ (encIs t).take (k - (encI n).length) := by
        show (encI n ++ encIs t).take k = _
        rw [List.take_append, List.take_of_length_le hge]
      have hl : (encIs (n :: t)).length = (encI n).length + (encIs t).length := by simp [encIs]
      rw [List.length_cons, rdN_succ, e, ← List.append_assoc, rd1_enc (h n (by simp))]
      have := ih (fun m hm => h m (by simp [hm])) (pre ++ encI n) (k - (encI n).length) (by omega)
      rw [List.length_append] at this
      exact this

structure Row where
  a : Int
  b : Int
  c : Int
  d : Int
  e : Int
  deriving DecidableEq, Inhabited
def Row.l (r : Row) : List Int := [r.a, r.b, r.c, r.d, r.e]
def Row.of : List Int → Row
  | [a, b, c, d, e] => ⟨a, b, c, d, e⟩
  | _ => ⟨0, 0, 0, 0, 0⟩
structure Msg where
  k : Int
  s : Int
  a : List Int
  l : List Row
def Msg.none : Msg := ⟨0, 0, [0, 0, 0, 0, 0, 0], []⟩
def Msg.ok (m : Msg) : Prop := I64 m.k ∧ I64 m.s ∧ m.a.length = 6 ∧ (∀ n ∈ m.a, I64 n) ∧ ∀ r ∈ m.l, ∀ n ∈ r.l, I64 n

def knownK (k : Int) : Bool := decide (1 ≤ k ∧ k ≤ 15) || decide (33 ≤ k ∧ k ≤ 38) || decide (65 ≤ k ∧ k ≤ 68)
def rowsK (k : Int) : Int × Int := if k = 8 then (1, 50) else if k = 37 then (0, 50) else if k = 11 then (2, 4) else if k = 67 then (0, 64) else (0, 0)
def cutK (k : Int) : Int := if k < 0 then 0 else if 255 < k then 255 else k
def mayN (k s n : Int) : Int :=
  if k < 0 ∨ 255 < k ∨ knownK k = false then 5 else if s < 0 then 1 else if n < (rowsK k).1 ∨ (rowsK k).2 < n then 4 else 0
def mayS (k s n : Int) : Er := if mayN k s n = 0 then .nil else .fault msgW (cutK k) (.no (mayN k s n))
def numsOf (m : Msg) : List Int := [m.k, m.s] ++ m.a ++ [(m.l.length : Int)] ++ m.l.flatMap Row.l
def msgS (m : Msg) : List UInt8 := encIs (numsOf m)
/-- Rows read. -/
def rdRows (b : List UInt8) : Nat → St → List Row × St
  | 0, s => ([], s)
  | n + 1, s => (Row.of (rdN b 5 s).1 :: (rdRows b n (rdN b 5 s).2).1, (rdRows b n (rdN b 5 s).2).2)
def decS (b : List UInt8) : Msg × Er :=
  let h := rdN b 9 ⟨0, .nil⟩
  let k := h.1.getD 0 0
  let s := h.1.getD 1 0
  let n := h.1.getD 8 0
  if h.2.err ≠ .nil then (Msg.none, .fault msgW 0 h.2.err)
  else if mayN k s n ≠ 0 then (Msg.none, mayS k s n)
  else
    let r := rdRows b n.toNat h.2
    if r.2.err ≠ .nil then (Msg.none, .fault msgW 0 r.2.err)
    else if r.2.at_ < b.length then (Msg.none, .fault msgW (cutK k) (.no 2))
    else (⟨k, s, (h.1.drop 2).take 6, r.1⟩, .nil)

theorem rdRows_of (b : List UInt8) : ∀ (n : Nat) (s : St), (rdRows b n s).2 = (rdN b (n * 5) s).2 := by
  intro n
  induction n with
  | zero => intro s; rw [Nat.zero_mul]; rfl
  | succ n ih =>
    intro s
    rw [show (n + 1) * 5 = 5 + n * 5 by omega, rdN_add]
    show (rdRows b n (rdN b 5 s).2).2 = _
    rw [ih]
theorem encIs_app (a b : List Int) : encIs (a ++ b) = encIs a ++ encIs b := by simp [encIs]
theorem row_of_l (r : Row) : Row.of r.l = r := rfl
theorem rows_flat (l : List Row) : (l.flatMap Row.l).length = l.length * 5 := by
  induction l with
  | nil => rfl
  | cons r t ih => rw [List.flatMap_cons, List.length_append, ih]; simp [Row.l]; omega
theorem rdRows_enc : ∀ (rs : List Row) (_ : ∀ r ∈ rs, ∀ n ∈ r.l, I64 n) (pre rest : List UInt8), rdRows (pre ++ encIs (rs.flatMap Row.l) ++ rest) rs.length ⟨pre.length, .nil⟩ = (rs, ⟨pre.length + (encIs (rs.flatMap Row.l)).length, .nil⟩) := by
  intro rs
  induction rs with
  | nil => intro _ pre rest; simp [encIs, rdRows]
  | cons r t ih =>
    intro h pre rest
    have e : pre ++ encIs ((r :: t).flatMap Row.l) ++ rest = pre ++ encIs r.l ++ (encIs (t.flatMap Row.l) ++ rest) := by rw [List.flatMap_cons, encIs_app]; simp
    have e2 : pre ++ encIs ((r :: t).flatMap Row.l) ++ rest = (pre ++ encIs r.l) ++ encIs (t.flatMap Row.l) ++ rest := by rw [List.flatMap_cons, encIs_app]; simp
    have h5 := rdN_enc r.l (h r (by simp)) pre (encIs (t.flatMap Row.l) ++ rest)
    rw [show r.l.length = 5 from rfl] at h5
    rw [List.length_cons]
    show (Row.of (rdN _ 5 _).1 :: (rdRows _ t.length (rdN _ 5 _).2).1, (rdRows _ t.length (rdN _ 5 _).2).2) = _
    rw [e, h5, ← e, e2]
    have := ih (fun q hq => h q (by simp [hq])) (pre ++ encIs r.l) rest
    rw [show (⟨pre.length + (encIs r.l).length, Er.nil⟩ : St) = ⟨(pre ++ encIs r.l).length, .nil⟩ by simp, this]
    rw [row_of_l, List.flatMap_cons, encIs_app]
    simp; omega
def headOf (m : Msg) : List Int := [m.k, m.s] ++ m.a ++ [(m.l.length : Int)]
theorem head_len {m : Msg} (h : m.ok) : (headOf m).length = 9 := by unfold headOf; simp [h.2.2.1]
theorem numsOf_eq (m : Msg) : numsOf m = headOf m ++ m.l.flatMap Row.l := rfl
theorem head_I64 {m : Msg} (h : m.ok) (hl : m.l.length ≤ 1000000) : ∀ n ∈ headOf m, I64 n := by
  obtain ⟨h1, h2, h3, h4, _⟩ := h
  intro n hn
  simp only [headOf, List.mem_append, List.mem_cons, List.not_mem_nil, or_false] at hn
  rcases hn with ((rfl | rfl) | hn) | rfl
  · exact h1
  · exact h2
  · exact h4 n hn
  · unfold I64; omega
theorem head_get {m : Msg} (h : m.ok) : (headOf m).getD 0 0 = m.k ∧ (headOf m).getD 1 0 = m.s ∧ (headOf m).getD 8 0 = m.l.length ∧ ((headOf m).drop 2).take 6 = m.a := by
  obtain ⟨_, _, h3, _⟩ := h
  obtain ⟨k, s, a, l⟩ := m
  match a, h3 with
  | [a0, a1, a2, a3, a4, a5], _ => exact ⟨rfl, rfl, rfl, rfl⟩
theorem dec_enc_more {m : Msg} (h : m.ok) (hl : m.l.length ≤ 1000000) (hm : mayN m.k m.s m.l.length = 0) (rest : List UInt8) :
    decS (msgS m ++ rest) = if rest = [] then (m, .nil) else (Msg.none, .fault msgW (cutK m.k) (.no 2)) := by
  have e : msgS m ++ rest = [] ++ encIs (headOf m) ++ (encIs (m.l.flatMap Row.l) ++ rest) := by unfold msgS; rw [numsOf_eq, encIs_app]; simp
  have e2 : msgS m ++ rest = encIs (headOf m) ++ encIs (m.l.flatMap Row.l) ++ rest := by unfold msgS; rw [numsOf_eq, encIs_app]
  have h9 := rdN_enc (headOf m) (head_I64 h hl) [] (encIs (m.l.flatMap Row.l) ++ rest)
  rw [head_len h, ← e] at h9
  have hr := rdRows_enc m.l h.2.2.2.2 (encIs (headOf m)) rest
  rw [← e2] at hr
  obtain ⟨g0, g1, g8, ga⟩ := head_get h
  unfold decS
  simp only [List.length_nil, Nat.zero_add] at h9
  rw [h9]
  simp only [g0, g1, g8, ga, hm, Int.toNat_natCast]
  rw [if_neg (by simp), if_neg (by simp), hr]
  simp only
  rw [if_neg (by simp)]
  have hlen : (msgS m ++ rest).length = (encIs (headOf m)).length + (encIs (m.l.flatMap Row.l)).length + rest.length := by rw [e2]; simp; omega
  rcases rest with _ | ⟨c, t⟩
  · rw [if_neg (by simp at hlen; simp; omega), if_pos rfl]
  · rw [if_pos (by simp at hlen; simp; omega), if_neg (by simp)]
theorem decS_enc {m : Msg} (h : m.ok) (hl : m.l.length ≤ 1000000) (hm : mayN m.k m.s m.l.length = 0) : decS (msgS m) = (m, .nil) := by
  have := dec_enc_more h hl hm []
  rwa [List.append_nil, if_pos rfl] at this
theorem decS_cut {m : Msg} (h : m.ok) (hl : m.l.length ≤ 1000000) (hm : mayN m.k m.s m.l.length = 0) {k : Nat} (hk : k < (msgS m).length) : (decS ((msgS m).take k)).2 ≠ .nil := by
  have e2 : msgS m = encIs (headOf m) ++ encIs (m.l.flatMap Row.l) := by unfold msgS; rw [numsOf_eq, encIs_app]
  rcases Nat.lt_or_ge k (encIs (headOf m)).length with hlt | hge
  · have h9 := rdN_cut (headOf m) (head_I64 h hl) [] k hlt
    rw [head_len h] at h9
    have e : (msgS m).take k = [] ++ (encIs (headOf m)).take k := by rw [e2, List.take_append_of_le_length (Nat.le_of_lt hlt)]; rfl
    unfold decS
    rw [e]
    simp only [List.length_nil] at h9
    simp only
    rw [if_pos h9]
    simp
  · have e : (msgS m).take k = [] ++ encIs (headOf m) ++ (encIs (m.l.flatMap Row.l)).take (k - (encIs (headOf m)).length) := by rw [e2, List.take_append, List.take_of_length_le hge]; rfl
    have h9 := rdN_enc (headOf m) (head_I64 h hl) [] ((encIs (m.l.flatMap Row.l)).take (k - (encIs (headOf m)).length))
    rw [head_len h, ← e] at h9
    have hlen : (msgS m).length = (encIs (headOf m)).length + (encIs (m.l.flatMap Row.l)).length := by rw [e2]; simp
    have hcut := rdN_cut (m.l.flatMap Row.l) (by
      intro n hn
      obtain ⟨r, hr, hn⟩ := List.mem_flatMap.1 hn
      exact h.2.2.2.2 r hr n hn) (encIs (headOf m)) (k - (encIs (headOf m)).length) (by omega)
    rw [rows_flat, ← rdRows_of, show encIs (headOf m) ++ (encIs (m.l.flatMap Row.l)).take (k - (encIs (headOf m)).length) = (msgS m).take k by rw [e]; rfl] at hcut
    obtain ⟨g0, g1, g8, ga⟩ := head_get h
    unfold decS
    simp only [List.length_nil, Nat.zero_add] at h9
    rw [h9]
    simp only [g0, g1, g8, ga, hm, Int.toNat_natCast]
    rw [if_neg (by simp), if_neg (by simp), if_pos hcut]
    simp
end Go.Proofs.YtmnmoadkpidggaaDoor
