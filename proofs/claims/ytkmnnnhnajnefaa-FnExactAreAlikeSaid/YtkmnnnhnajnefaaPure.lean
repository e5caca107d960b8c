/- Plain words on cards: no Go and no memory. -/
import Init
namespace Go.Proofs.Ytkmnnnhnajnefaa

/-- Four whole numbers: a card, if they are traits. -/
structure C4 where
  a : Int
  b : Int
  c : Int
  d : Int
  deriving DecidableEq

/-- Is 'n' in 'a..b'? -/
def inR (n a b : Int) : Bool := decide (a ≤ n) && decide (n ≤ b)
theorem inR_iff (n a b : Int) : inR n a b = true ↔ a ≤ n ∧ n ≤ b := by simp [inR]
theorem inR_false (n a b : Int) : inR n a b = false ↔ n < a ∨ b < n := by
  rw [← Bool.not_eq_true, inR_iff]; omega

/-- Is it a card? -/
def ok (c : C4) : Bool := inR c.a 0 2 && inR c.b 0 2 && inR c.c 0 2 && inR c.d 0 2
structure Ok (c : C4) : Prop where
  a0 : 0 ≤ c.a
  a2 : c.a ≤ 2
  b0 : 0 ≤ c.b
  b2 : c.b ≤ 2
  c0 : 0 ≤ c.c
  c2 : c.c ≤ 2
  d0 : 0 ≤ c.d
  d2 : c.d ≤ 2
theorem ok_iff (c : C4) : ok c = true ↔ Ok c := by
  simp only [ok, Bool.and_eq_true, inR_iff]
  exact ⟨fun ⟨⟨⟨h1, h2⟩, h3⟩, h4⟩ => ⟨h1.1, h1.2, h2.1, h2.2, h3.1, h3.2, h4.1, h4.2⟩, fun h => ⟨⟨⟨⟨h.a0, h.a2⟩, h.b0, h.b2⟩, h.c0, h.c2⟩, h.d0, h.d2⟩⟩

/-- Its number. -/
def num (c : C4) : Int := 27 * c.a + 9 * c.b + 3 * c.c + c.d
/-- The card with a number. -/
def at_ (n : Int) : C4 := ⟨n / 27, n / 9 % 3, n / 3 % 3, n % 3⟩
theorem num_bd {c : C4} (h : Ok c) : 0 ≤ num c ∧ num c ≤ 80 := by
  obtain ⟨h1, h2, h3, h4, h5, h6, h7, h8⟩ := h; unfold num; omega
theorem ok_at {n : Int} (h0 : 0 ≤ n) (h1 : n ≤ 80) : Ok (at_ n) := by
  constructor <;> simp only [at_] <;> omega
theorem num_at {n : Int} : num (at_ n) = n := by
  simp only [num, at_]; omega
theorem at_num {c : C4} (h : Ok c) : at_ (num c) = c := by
  obtain ⟨h1, h2, h3, h4, h5, h6, h7, h8⟩ := h
  obtain ⟨a, b, c, d⟩ := c
  simp only [at_, num, C4.mk.injEq] at *
  omega
theorem num_inj {a b : C4} (ha : Ok a) (hb : Ok b) (h : num a = num b) : a = b := by
  rw [← at_num ha, ← at_num hb, h]

/-- The same card? -/
def ceq (a b : C4) : Bool := a.a == b.a && (a.b == b.b && (a.c == b.c && a.d == b.d))
theorem ceq_iff (a b : C4) : ceq a b = true ↔ a = b := by
  obtain ⟨a1, a2, a3, a4⟩ := a
  obtain ⟨b1, b2, b3, b4⟩ := b
  simp [ceq]
theorem ceq_false (a b : C4) : ceq a b = false ↔ a ≠ b := by
  rw [← Bool.not_eq_true, Ne, ceq_iff]

/-- The third card. -/
def third (a b : C4) : C4 := ⟨(6 - a.a - b.a) % 3, (6 - a.b - b.b) % 3, (6 - a.c - b.c) % 3, (6 - a.d - b.d) % 3⟩
theorem ok_third (a b : C4) : Ok (third a b) := by
  constructor <;> simp only [third] <;> omega

/-- Are they a line? -/
def lineB (a b c : C4) : Bool := !ceq a b && ceq (third a b) c

/-- One, if they differ. -/
def d1 (x y : Int) : Int := if (x != y) = true then 1 else 0
/-- In how many traits do they differ? -/
def differ (a b : C4) : Int := d1 a.a b.a + d1 a.b b.b + d1 a.c b.c + d1 a.d b.d

/-- The seed behind a seed. -/
def behind (s : Int) : Int := (25173 * s + 13849) % 65536
def isSeed (s : Int) : Bool := inR s 0 65535

/-- The first place whose element does not pass, counted from 'k' on, or -1. -/
def firstNot {α : Type} (f : α → Bool) : List α → Int → Int
  | [], _ => -1
  | z :: zs, k => if f z then firstNot f zs (k + 1) else k

theorem firstNot_nil {α : Type} (f : α → Bool) (k : Int) : firstNot f [] k = -1 := rfl
theorem firstNot_yes {α : Type} {f : α → Bool} {z : α} {zs : List α} {k : Int} (h : f z = true) : firstNot f (z :: zs) k = firstNot f zs (k + 1) := by
  simp [firstNot, h]
theorem firstNot_no {α : Type} {f : α → Bool} {z : α} {zs : List α} {k : Int} (h : f z = false) : firstNot f (z :: zs) k = k := by
  simp [firstNot, h]

theorem firstNot_neg {α : Type} (f : α → Bool) (zs : List α) : ∀ (k : Int), 0 ≤ k → (0 ≤ firstNot f zs k ↔ zs.all f = false) := by
  induction zs with
  | nil => intro k _; simp [firstNot]
  | cons z zs ih =>
    intro k hk
    unfold firstNot
    by_cases h : f z = true
    · rw [if_pos h, ih (k + 1) (by omega), List.all_cons, h, Bool.true_and]
    · rw [if_neg h]; simp [h, hk]

theorem firstNot_ge {α : Type} (f : α → Bool) (zs : List α) : decide (0 ≤ firstNot f zs 0) = !zs.all f := by
  have := firstNot_neg f zs 0 (by omega)
  by_cases h : zs.all f = true
  · rw [h]; simp only [h] at this; simp [this]
  · have h' : zs.all f = false := by simpa using h
    rw [h']; simp [this.2 h']

/-- The checksum of bytes. -/
def ck (l : List UInt8) : Int := l.foldl (fun h c => (41 * h + (c.toNat : Int) + 1) % 999979) 7
theorem ck_snoc (l : List UInt8) (c : UInt8) : ck (l ++ [c]) = (41 * ck l + (c.toNat : Int) + 1) % 999979 := by
  simp [ck]

end Go.Proofs.Ytkmnnnhnajnefaa
