/- What guards do, as plain functions on numbers. -/
namespace Go.Gd

/-- A guard: clock, epoch, until, serial, kind, asked. -/
structure G where
  c : Int
  e : Int
  u : Int
  s : Int
  k : Int
  a : Int

def zero : G := ⟨0, 0, 0, 0, 0, 0⟩

def num (n : Int) : Bool := decide (0 ≤ n) && decide (n ≤ 9007199254740992)

/-- Which guards may be. -/
def ok (g : G) : Bool :=
  num g.c && num g.e && num g.u && num g.s && num g.a && !(g.e == 0 && g.u != 0) && decide (g.u - g.c ≤ 12) && decide (0 ≤ g.k) && decide (g.k ≤ 2) && !(g.k == 0 && g.a != 0) && !(g.k != 0 && (g.s == 0 || decide (g.a > g.c))) && !(g.k == 2 && g.e == 0)

def chk (g : G) : Int := if ok g then 0 else 1
def may (g : G) : G := if chk g = 0 then g else zero
def more (a b : Int) : Int := a + min b (9007199254740992 - a)
def tick (g : G) (n : Int) : G := ⟨more (may g).c (max 0 n), (may g).e, (may g).u, (may g).s, (may g).k, (may g).a⟩
def bel (g : G) : Bool := (may g).e != 0 && decide ((may g).c < (may g).u)
def left (g : G) : Int := if bel g then g.u - g.c else 0
def silent (g : G) : Bool := g.k != 0 && decide (g.c - g.a < 4)
def due (g : G) : Bool := ((may g).e == 0 || decide (left (may g) ≤ 6)) && !silent (may g)
def asked (g : G) : G × Int × Int × Int :=
  if silent g then (g, 0, 0, 140)
  else if g.s = 9007199254740992 then (g, 0, 0, 6)
  else (⟨g.c, g.e, g.u, g.s + 1, if g.e = 0 then 1 else 2, g.c⟩, g.s + 1, if g.e = 0 then 1 else 2, 0)
def ask (g : G) : G × Int × Int × Int := asked (may g)
def granting (m : G) (serial epoch : Int) : Bool := m.k == 0 || serial != m.s || decide (epoch < 1) || decide (epoch > 9007199254740992) || (m.k == 2 && epoch != m.e)
def granted (g : G) (serial epoch : Int) : G × Bool :=
  if granting (may g) serial epoch then (may g, false)
  else (⟨(may g).c, epoch, if (may g).k = 2 then max (more (may g).a 12) (may g).u else more (may g).a 12, (may g).s, 0, 0⟩, true)
def yield (g : G) : G := ⟨(may g).c, 0, 0, (may g).s, 0, 0⟩
def refused (g : G) (serial : Int) : G × Bool :=
  if (may g).k = 0 ∨ serial ≠ (may g).s then (may g, false)
  else (⟨(may g).c, if (may g).k = 2 then 0 else (may g).e, if (may g).k = 2 then 0 else (may g).u, (may g).s, 0, 0⟩, true)
def above (g : G) (epoch : Int) : G :=
  if (may g).e ≠ 0 ∧ epoch > (may g).e then yield (may g) else may g

theorem ok_zero : ok zero = true := by decide
theorem ok_may (g : G) : ok (may g) = true := by
  unfold may chk; split
  · by_cases h : ok g = true <;> simp_all
  · exact ok_zero
theorem chk_may (g : G) : chk (may g) = 0 := by simp [chk, ok_may]
theorem may_may (g : G) : may (may g) = may g := by
  show (if chk (may g) = 0 then may g else zero) = may g
  rw [if_pos (chk_may g)]

/-- What a guard that may be is like. -/
structure Fine (g : G) : Prop where
  c0 : 0 ≤ g.c
  c1 : g.c ≤ 9007199254740992
  e0 : 0 ≤ g.e
  e1 : g.e ≤ 9007199254740992
  u0 : 0 ≤ g.u
  u1 : g.u ≤ 9007199254740992
  s0 : 0 ≤ g.s
  s1 : g.s ≤ 9007199254740992
  a0 : 0 ≤ g.a
  a1 : g.a ≤ 9007199254740992
  eu : g.e = 0 → g.u = 0
  uc : g.u - g.c ≤ 12
  k0 : 0 ≤ g.k
  k2 : g.k ≤ 2
  ka : g.k = 0 → g.a = 0
  ks : g.k ≠ 0 → g.s ≠ 0 ∧ g.a ≤ g.c
  ke : g.k = 2 → g.e ≠ 0

theorem fine_of_ok {g : G} (h : ok g = true) : Fine g := by
  simp only [ok, num, Bool.and_eq_true, Bool.not_eq_true', decide_eq_true_eq, Bool.and_eq_false_iff, Bool.or_eq_false_iff, bne_eq_false_iff_eq, beq_eq_false_iff_ne, decide_eq_false_iff_not] at h
  constructor <;> grind
theorem ok_of_fine {g : G} (h : Fine g) : ok g = true := by
  obtain ⟨h1, h2, h3, h4, h5, h6, h7, h8, h9, h10, h11, h12, h13, h14, h15, h16, h17⟩ := h
  simp only [ok, num, Bool.and_eq_true, Bool.not_eq_true', decide_eq_true_eq, Bool.and_eq_false_iff, Bool.or_eq_false_iff, bne_eq_false_iff_eq, beq_eq_false_iff_ne, decide_eq_false_iff_not]
  grind
theorem fine_may (g : G) : Fine (may g) := fine_of_ok (ok_may g)

/-- Who believes is a guard that may be. -/
theorem bel_fine (g : G) (h : bel g = true) : Fine g := by
  have hf := fine_may g
  unfold may at hf
  split at hf
  · exact hf
  · rename_i hn
    simp [bel, may, hn, zero] at h

end Go.Gd
