/- What leases do, as plain functions on numbers. -/
namespace Go.Ls

/-- A lease: owner, last owner, epoch, clock, until, solo. -/
structure L where
  o : Int
  p : Int
  e : Int
  c : Int
  u : Int
  z : Bool

def region (n : Int) : Bool := decide (0 ≤ n) && decide (n < 2)
def num (n : Int) : Bool := decide (0 ≤ n) && decide (n ≤ 9007199254740992)
def bad (l : L) : Bool := (l.o != -1 && !region l.o) || (l.p != -1 && !region l.p) || !num l.e || !num l.c || !num l.u
def odd (l : L) : Bool := (l.o != -1 && l.o != l.p) || (l.p == -1 && (l.e != 0 || l.z)) || (l.p != -1 && l.e == 0) || (l.o == -1 && decide (l.u > l.c))
def chk (l : L) : Int := if bad l then 1 else if odd l then 1 else 0
def more (a b : Int) : Int := if b > 9007199254740992 - a then 9007199254740992 else a + b
def newL : L := ⟨-1, -1, 0, 0, 0, false⟩
def tick (l : L) (n : Int) : L := if chk l = 0 ∧ n > 0 then ⟨l.o, l.p, l.e, more l.c n, l.u, l.z⟩ else l
def held (l : L) : Bool := chk l == 0 && l.o != -1 && decide (l.u > l.c)
def grant (l : L) (to : Int) : L := ⟨to, to, l.e + 1, l.c, more l.c 16, if l.p ≠ to then false else l.z⟩
def acquire (l : L) (r : Int) : L × Int × Int :=
  if chk l ≠ 0 ∨ region r = false then (l, 0, 1)
  else if held l = true ∧ l.o ≠ r then (l, 0, 130)
  else if l.z = true ∧ l.p ≠ r then (l, 0, 131)
  else if l.e = 9007199254740992 then (l, 0, 6)
  else (grant l r, l.e + 1, 0)
def mine (l : L) (r e : Int) : Int := if chk l ≠ 0 ∨ region r = false then 1 else if l.o ≠ r ∨ l.e ≠ e then 132 else 0
def renew (l : L) (r e : Int) : L × Int := if mine l r e ≠ 0 then (l, mine l r e) else (⟨l.o, l.p, l.e, l.c, more l.c 16, l.z⟩, 0)
def release (l : L) (r e : Int) : L × Int := if mine l r e ≠ 0 then (l, mine l r e) else (⟨-1, l.p, l.e, l.c, l.c, l.z⟩, 0)
def transfer (l : L) (r e to : Int) : L × Int × Int :=
  if chk l ≠ 0 ∨ region r = false ∨ region to = false ∨ to = r then (l, 0, 1)
  else if mine l r e ≠ 0 then (l, 0, 132)
  else if l.z = true then (l, 0, 131)
  else if l.e = 9007199254740992 then (l, 0, 6)
  else (grant l to, l.e + 1, 0)

theorem chk_nums {l : L} (h : chk l = 0) : (0 ≤ l.e ∧ l.e ≤ 9007199254740992) ∧ (0 ≤ l.c ∧ l.c ≤ 9007199254740992) ∧ (0 ≤ l.u ∧ l.u ≤ 9007199254740992) := by
  unfold chk at h
  split at h
  · simp at h
  · rename_i hb
    simp only [bad, num, Bool.or_eq_true, Bool.and_eq_true, Bool.not_eq_true', bne_iff_ne, not_or, Bool.and_eq_false_iff, decide_eq_false_iff_not] at hb
    grind

end Go.Ls
