/- Graphs, and their first fault, in plain words. No program in sight. -/
namespace Go.Gr

/-- An edge: from which operator, which port of it. -/
structure Ed where
  f : Int
  p : Int
deriving DecidableEq

/-- An operator: kind, part, function, argument, inputs. -/
structure Op where
  k : Int
  p : Int
  f : Int
  a : Int
  i : List Ed

structure G where
  n : Int
  o : List Op

def ports (k a : Int) : Int :=
  if k = 7 then (if 2 ≤ a ∧ a ≤ 4 then a else 0)
  else if k = 1 ∨ k = 2 ∨ k = 3 ∨ k = 4 ∨ k = 5 ∨ k = 6 ∨ k = 8 then 1 else 0

def fieldsOk (k p f a n : Int) : Bool :=
  if k = 1 then decide (0 ≤ p) && decide (p < n) && decide (f = 0) && decide (a = 0)
  else if p ≠ 0 then false
  else if k = 2 then decide (1 ≤ f) && decide (f ≤ 4) && (decide (f ≠ 3) || decide (a = 0))
  else if k = 3 then decide (1 ≤ f) && decide (f ≤ 4) && (decide (f ≠ 3) || decide (a = 0))
  else if k = 4 then (if f = 2 ∨ f = 3 then decide (1 ≤ a) else (decide (f = 4) || (decide (f = 1) && decide (a = 0))))
  else if k = 5 then decide (1 ≤ f) && decide (f ≤ 5) && decide (a = 0)
  else if k = 6 then decide (1 ≤ f) && decide (f ≤ 5) && decide (1 ≤ a) && decide (a ≤ 64)
  else if k = 7 then decide (f = 0) && decide (2 ≤ a) && decide (a ≤ 4)
  else decide (f = 0) && decide (a = 0)

/-- The operator at a place. -/
def at? (l : List Op) (i : Int) : Option Op := if 0 ≤ i then l[i.toNat]? else none

def edgeOk (l : List Op) (n : Int) (e : Ed) : Bool :=
  decide (0 ≤ e.f) && decide (e.f < n) && decide (0 ≤ e.p) && (match l[e.f.toNat]? with | some o => decide (e.p < ports o.k o.a) | none => false)

def least (k : Int) : Int := if k = 1 then 0 else if k = 8 then 2 else 1
def most (k : Int) : Int := if k = 1 then 0 else if k = 8 then 4 else 1

def insOk (l : List Op) (n k : Int) (es : List Ed) : Bool :=
  decide (least k ≤ es.length) && decide ((es.length : Int) ≤ most k) && es.all (edgeOk l n)

/-- The inputs of the first n operators. -/
def flat (l : List Op) (n : Nat) : List Ed := (l.take n).flatMap (·.i)

/-- The fault of the operator at n, if those ahead have none. -/
def fault (g : G) (n : Nat) : Int :=
  match g.o[n]? with
  | none => 0
  | some o => if o.k < 1 ∨ 9 < o.k then 50 else if fieldsOk o.k o.p o.f o.a g.n = false then 51 else if insOk g.o n o.k o.i = false then 52 else if ¬ (flat g.o (n + 1)).Nodup then 53 else 0

/-- Has it a port that leads nowhere? -/
def loose (g : G) (n : Nat) : Prop := ∃ o, g.o[n]? = some o ∧ ∃ p, 0 ≤ p ∧ p < ports o.k o.a ∧ (⟨n, p⟩ : Ed) ∉ flat g.o g.o.length

def srcs (l : List Op) (p : Int) : Nat := l.countP fun o => decide (o.k = 1) && decide (o.p = p)
def sinks (l : List Op) : Nat := l.countP fun o => decide (o.k = 9)

/-- What a check of g tells. -/
inductive Chk (g : G) : Int → Int → Prop where
  | arg (h : g.n < 1 ∨ 4 < g.n) : Chk g 0 1
  | long (h0 : 1 ≤ g.n ∧ g.n ≤ 4) (h : 24 < g.o.length) : Chk g 0 3
  | fault (h0 : 1 ≤ g.n ∧ g.n ≤ 4) (h1 : g.o.length ≤ 24) (n : Nat) (h : ∀ j, j < n → Gr.fault g j = 0) (h2 : n < g.o.length) (h3 : Gr.fault g n ≠ 0) : Chk g n (Gr.fault g n)
  | loose (h0 : 1 ≤ g.n ∧ g.n ≤ 4) (h1 : g.o.length ≤ 24) (hf : ∀ j, j < g.o.length → Gr.fault g j = 0) (n : Nat) (h : ∀ j, j < n → ¬ Gr.loose g j) (h2 : Gr.loose g n) : Chk g n 54
  | part (h0 : 1 ≤ g.n ∧ g.n ≤ 4) (h1 : g.o.length ≤ 24) (hf : ∀ j, j < g.o.length → Gr.fault g j = 0) (hl : ∀ j, ¬ Gr.loose g j) (p : Int) (hp : 0 ≤ p ∧ p < g.n) (h : srcs g.o p ≠ 1) : Chk g 0 55
  | sink (h0 : 1 ≤ g.n ∧ g.n ≤ 4) (h1 : g.o.length ≤ 24) (hf : ∀ j, j < g.o.length → Gr.fault g j = 0) (hl : ∀ j, ¬ Gr.loose g j) (hs : ∀ p, 0 ≤ p → p < g.n → srcs g.o p = 1) (h : sinks g.o ≠ 1) : Chk g 0 56
  | ok (h0 : 1 ≤ g.n ∧ g.n ≤ 4) (h1 : g.o.length ≤ 24) (hf : ∀ j, j < g.o.length → Gr.fault g j = 0) (hl : ∀ j, ¬ Gr.loose g j) (hs : ∀ p, 0 ≤ p → p < g.n → srcs g.o p = 1) (h : sinks g.o = 1) : Chk g 0 0

theorem Chk.same {g : G} {n e n' e' : Int} (h : Chk g n e) (h' : Chk g n' e') : n = n' ∧ e = e' := by
  have nn : ∀ {a b : Nat} {P : Nat → Prop}, (∀ j, j < a → ¬ P j) → P a → (∀ j, j < b → ¬ P j) → P b → a = b := by
    intro a b P h1 h2 h3 h4
    rcases Nat.lt_trichotomy a b with h | h | h
    · exact absurd h2 (h3 a h)
    · exact h
    · exact absurd h4 (h1 b h)
  cases h <;> cases h'
  case fault.fault _ _ n h h2 h3 _ _ n' h' h2' h3' =>
    have := nn (P := fun j => Gr.fault g j ≠ 0) (fun j hj hc => hc (h j hj)) h3 (fun j hj hc => hc (h' j hj)) h3'
    subst this; exact ⟨rfl, rfl⟩
  case loose.loose _ _ _ n h h2 _ _ _ n' h' h2' =>
    have := nn h h2 h' h2'
    subst this; exact ⟨rfl, rfl⟩
  all_goals first
    | exact ⟨rfl, rfl⟩
    | (exfalso; omega)
    | (exfalso; clear nn; grind)
theorem flat_succ {l : List Op} {n : Nat} {o : Op} (h : l[n]? = some o) : flat l (n + 1) = flat l n ++ o.i := by
  unfold flat
  rw [List.take_add_one, h]; simp

theorem flat_le (l : List Op) {n m : Nat} (h : n ≤ m) : (flat l n).length ≤ (flat l m).length := by
  obtain ⟨d, rfl⟩ : ∃ d, m = n + d := ⟨m - n, by omega⟩
  unfold flat
  rw [List.take_add, List.flatMap_append, List.length_append]; omega

theorem count_take {e : Ed} {l : List Ed} {k : Nat} {x : Ed} (h : l[k]? = some x) : (l.take (k + 1)).count e = (l.take k).count e + if x = e then 1 else 0 := by
  rw [List.take_add_one, h]; simp [List.count_append, List.count_singleton]

theorem fault_at {g : G} {n : Nat} {o : Op} (h : g.o[n]? = some o) :
    fault g n = if o.k < 1 ∨ 9 < o.k then 50 else if fieldsOk o.k o.p o.f o.a g.n = false then 51 else if insOk g.o n o.k o.i = false then 52 else if ¬ (flat g.o (n + 1)).Nodup then 53 else 0 := by
  unfold fault; rw [h]

/-- An operator without a fault. -/
theorem fault_ok {g : G} {n : Nat} {o : Op} (h : g.o[n]? = some o) (h0 : fault g n = 0) : (1 ≤ o.k ∧ o.k ≤ 9) ∧ fieldsOk o.k o.p o.f o.a g.n = true ∧ insOk g.o n o.k o.i = true ∧ (flat g.o (n + 1)).Nodup := by
  rw [fault_at h] at h0
  by_cases h1 : o.k < 1 ∨ 9 < o.k
  · rw [if_pos h1] at h0; simp at h0
  rw [if_neg h1] at h0
  by_cases h2 : fieldsOk o.k o.p o.f o.a g.n = false
  · rw [if_pos h2] at h0; simp at h0
  rw [if_neg h2] at h0
  by_cases h3 : insOk g.o n o.k o.i = false
  · rw [if_pos h3] at h0; simp at h0
  rw [if_neg h3] at h0
  by_cases h4 : ¬ (flat g.o (n + 1)).Nodup
  · rw [if_pos h4] at h0; simp at h0
  exact ⟨by omega, by simpa using h2, by simpa using h3, by simpa using h4⟩

theorem flat_nodup {g : G} {n : Nat} (hn : n ≤ g.o.length) (h : ∀ j, j < n → fault g j = 0) : (flat g.o n).Nodup := by
  cases n with
  | zero => simp [flat]
  | succ n => exact (fault_ok (List.getElem?_eq_getElem (by omega : n < g.o.length)) (h n (by omega))).2.2.2

theorem ins_le {l : List Op} {n k : Int} {es : List Ed} (h : insOk l n k es = true) : es.length ≤ 4 := by
  simp only [insOk, Bool.and_eq_true, decide_eq_true_eq] at h
  have := h.1.2
  unfold most at this; split at this <;> (try split at this) <;> omega

theorem flat_len {g : G} : ∀ {n : Nat}, n ≤ g.o.length → (∀ j, j < n → fault g j = 0) → (flat g.o n).length ≤ 4 * n
  | 0, _, _ => by simp [flat]
  | n + 1, hn, h => by
    have h1 := flat_len (n := n) (by omega) (fun j hj => h j (by omega))
    have h2 := List.getElem?_eq_getElem (by omega : n < g.o.length)
    have h3 := ins_le (fault_ok h2 (h n (by omega))).2.2.1
    rw [flat_succ h2, List.length_append]; omega

theorem dup_iff {l : List Ed} {m : List Ed} (h : l.Nodup) : (l ++ m).Nodup ↔ ∀ e ∈ m, (l ++ m).count e ≤ 1 := by
  constructor
  · intro hn e _
    exact List.nodup_iff_count.1 hn e
  · intro hm
    rw [List.nodup_iff_count]
    intro e
    by_cases he : e ∈ m
    · exact hm e he
    · rw [List.count_append, List.count_eq_zero_of_not_mem he]
      have := List.nodup_iff_count.1 h e
      omega

theorem src_part {g : G} {n : Nat} {o : Op} (h : g.o[n]? = some o) (h0 : fault g n = 0) (hk : o.k = 1) : 0 ≤ o.p ∧ o.p < g.n := by
  have := (fault_ok h h0).2.1
  unfold fieldsOk at this
  rw [if_pos hk] at this
  simp only [Bool.and_eq_true, decide_eq_true_eq] at this
  exact ⟨this.1.1.1, this.1.1.2⟩

theorem ports_le (k a : Int) : 0 ≤ ports k a ∧ ports k a ≤ 4 := by
  unfold ports
  split
  · split <;> omega
  · split <;> omega

end Go.Gr
