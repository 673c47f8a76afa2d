/- Graphs, and their first fault, in plain words. No program in sight. -/
import Derived.Test.YtilffanmaicakaaMbT
import Derived.Test.YtilffanmaicakaaMaD

namespace Go.Gr

/-- An edge: from which operator, which port of it. -/
structure Ed where
  f : Int
  p : Int
deriving DecidableEq

/-- An operator: kind, part, function, argument, inputs. -/
structure Op where
  k : Int
  p : Int
  f : Int
  a : Int
  i : List Ed

structure G where
  n : Int
  o : List Op

def ports (k a : Int) : Int :=
  if k = 7 then (if 2 ≤ a ∧ a ≤ 4 then a else 0)
  else if k = 1 ∨ k = 2 ∨ k = 3 ∨ k = 4 ∨ k = 5 ∨ k = 6 ∨ k = 8 then 1 else 0

def fieldsOk (k p f a n : Int) : Bool :=
  if k = 1 then decide (0 ≤ p) && decide (p < n) && decide (f = 0) && decide (a = 0)
  else if p ≠ 0 then false
  else if k = 2 then decide (1 ≤ f) && decide (f ≤ 4) && (decide (f ≠ 3) || decide (a = 0))
  else if k = 3 then decide (1 ≤ f) && decide (f ≤ 4) && (decide (f ≠ 3) || decide (a = 0))
  else if k = 4 then (if f = 2 ∨ f = 3 then decide (1 ≤ a) else (decide (f = 4) || (decide (f = 1) && decide (a = 0))))
  else if k = 5 then decide (1 ≤ f) && decide (f ≤ 5) && decide (a = 0)
  else if k = 6 then decide (1 ≤ f) && decide (f ≤ 5) && decide (1 ≤ a) && decide (a ≤ 64)
  else if k = 7 then decide (f = 0) && decide (2 ≤ a) && decide (a ≤ 4)
  else decide (f = 0) && decide (a = 0)

/-- The operator at a place. -/
def at? (l : List Op) (i : Int) : Option Op := if 0 ≤ i then l[i.toNat]? else none

def edgeOk (l : List Op) (n : Int) (e : Ed) : Bool :=
  decide (0 ≤ e.f) && decide (e.f < n) && decide (0 ≤ e.p) && (match l[e.f.toNat]? with | some o => decide (e.p < ports o.k o.a) | none => false)

def least (k : Int) : Int := if k = 1 then 0 else if k = 8 then 2 else 1
def most (k : Int) : Int := if k = 1 then 0 else if k = 8 then 4 else 1

def insOk (l : List Op) (n k : Int) (es : List Ed) : Bool :=
  decide (least k ≤ es.length) && decide ((es.length : Int) ≤ most k) && es.all (edgeOk l n)

/-- The inputs of the first n operators. -/
def flat (l : List Op) (n : Nat) : List Ed := (l.take n).flatMap (·.i)

/-- The fault of the operator at n, if those ahead have none. -/
def fault (g : G) (n : Nat) : Int :=
  match g.o[n]? with
  | none => 0
  | some o => if o.k < 1 ∨ 9 < o.k then 50 else if fieldsOk o.k o.p o.f o.a g.n = false then 51 else if insOk g.o n o.k o.i = false then 52 else if ¬ (flat g.o (n + 1)).Nodup then 53 else 0

/-- Has it a port that leads nowhere? -/
def loose (g : G) (n : Nat) : Prop := ∃ o, g.o[n]? = some o ∧ ∃ p, 0 ≤ p ∧ p < ports o.k o.a ∧ (⟨n, p⟩ : Ed) ∉ flat g.o g.o.length

def srcs (l : List Op) (p : Int) : Nat := l.countP fun o => decide (o.k = 1) && decide (o.p = p)
def sinks (l : List Op) : Nat := l.countP fun o => decide (o.k = 9)

/-- What a check of g tells. -/
inductive Chk (g : G) : Int → Int → Prop where
  | arg (h : g.n < 1 ∨ 4 < g.n) : Chk g 0 1
  | long (h0 : 1 ≤ g.n ∧ g.n ≤ 4) (h : 24 < g.o.length) : Chk g 0 3
  | fault (h0 : 1 ≤ g.n ∧ g.n ≤ 4) (h1 : g.o.length ≤ 24) (n : Nat) (h : ∀ j, j < n → Gr.fault g j = 0) (h2 : n < g.o.length) (h3 : Gr.fault g n ≠ 0) : Chk g n (Gr.fault g n)
  | loose (h0 : 1 ≤ g.n ∧ g.n ≤ 4) (h1 : g.o.length ≤ 24) (hf : ∀ j, j < g.o.length → Gr.fault g j = 0) (n : Nat) (h : ∀ j, j < n → ¬ Gr.loose g j) (h2 : Gr.loose g n) : Chk g n 54
  | part (h0 : 1 ≤ g.n ∧ g.n ≤ 4) (h1 : g.o.length ≤ 24) (hf : ∀ j, j < g.o.length → Gr.fault g j = 0) (hl : ∀ j, ¬ Gr.loose g j) (p : Int) (hp : 0 ≤ p ∧ p < g.n) (h : srcs g.o p ≠ 1) : Chk g 0 55
  | sink (h0 : 1 ≤ g.n ∧ g.n ≤ 4) (h1 : g.o.length ≤ 24) (hf : ∀ j, j < g.o.length → Gr.fault g j = 0) (hl : ∀ j, ¬ Gr.loose g j) (hs : ∀ p, 0 ≤ p → p < g.n → srcs g.o p = 1) (h : sinks g.o ≠ 1) : Chk g 0 56
  | ok (h0 : 1 ≤ g.n ∧ g.n ≤ 4) (h1 : g.o.length ≤ 24) (hf : ∀ j, j < g.o.length → Gr.fault g j = 0) (hl : ∀ j, ¬ Gr.loose g j) (hs : ∀ p, 0 ≤ p → p < g.n → srcs g.o p = 1) (h : sinks g.o = 1) : Chk g 0 0

theorem Chk.same {g : G} {n e n' e' : Int} (h : Chk g n e) (h' : Chk g n' e') : n = n' ∧ e = e' := by
  have nn : ∀ {a b : Nat} {P : Nat → Prop}, (∀ j, j < a → ¬ P j) → P a → (∀ j, j < b → ¬ P j) → P b → a = b := by
    intro a b P h1 h2 h3 h4
    rcases Nat.lt_trichotomy a b with h | h | h
    · exact absurd h2 (h3 a h)
    · exact h
    · exact absurd h4 (h1 b h)
  cases h <;> cases h'
  case fault.fault _ _ n h h2 h3 _ _ n' h' h2' h3' =>
    have := nn (P := fun j => Gr.fault g j ≠ 0) (fun j hj hc => hc (h j hj)) h3 (fun j hj hc => hc (h' j hj)) h3'
    subst this; exact ⟨rfl, rfl⟩
  case loose.loose _ _ _ n h h2 _ _ _ n' h' h2' =>
    have := nn h h2 h' h2'
    subst this; exact ⟨rfl, rfl⟩
  all_goals first
    | exact ⟨rfl, rfl⟩
    | (exfalso; omega)
    | (exfalso; clear nn; grind)
theorem flat_succ {l : List Op} {n : Nat} {o : Op} (h : l[n]? = some o) : flat l (n + 1) = flat l n ++ o.i := by
  unfold flat
  rw [List.take_add_one, h]; simp

theorem flat_le (l : List Op) {n m : Nat} (h : n ≤ m) : (flat l n).length ≤ (flat l m).length := by
  obtain ⟨d, rfl⟩ : ∃ d, m = n + d := ⟨m - n, by omega⟩
  unfold flat
  rw [List.take_add, List.flatMap_append, List.length_append]; omega

theorem count_take {e : Ed} {l : List Ed} {k : Nat} {x : Ed} (h : l[k]? = some x) : (l.take (k + 1)).count e = (l.take k).count e + if x = e then 1 else 0 := by
  rw [List.take_add_one, h]; simp [List.count_append, List.count_singleton]

theorem fault_at {g : G} {n : Nat} {o : Op} (h : g.o[n]? = some o) :
    fault g n = if o.k < 1 ∨ 9 < o.k then 50 else if fieldsOk o.k o.p o.f o.a g.n = false then 51 else if insOk g.o n o.k o.i = false then 52 else if ¬ (flat g.o (n + 1)).Nodup then 53 else 0 := by
  unfold fault; rw [h]

/-- An operator without a fault. -/
theorem fault_ok {g : G} {n : Nat} {o : Op} (h : g.o[n]? = some o) (h0 : fault g n = 0) : (1 ≤ o.k ∧ o.k ≤ 9) ∧ fieldsOk o.k o.p o.f o.a g.n = true ∧ insOk g.o n o.k o.i = true ∧ (flat g.o (n + 1)).Nodup := by
  rw [fault_at h] at h0
  by_cases h1 : o.k < 1 ∨ 9 < o.k
  · rw [if_pos h1] at h0; simp at h0
  rw [if_neg h1] at h0
  by_cases h2 : fieldsOk o.k o.p o.f o.a g.n = false
  · rw [if_pos h2] at h0; simp at h0
  rw [if_neg h2] at h0
  by_cases h3 : insOk g.o n o.k o.i = false
  · rw [if_pos h3] at h0; simp at h0
  rw [if_neg h3] at h0
  by_cases h4 : ¬ (flat g.o (n + 1)).Nodup
  · rw [if_pos h4] at h0; simp at h0
  exact ⟨by omega, by simpa using h2, by simpa using h3, by simpa using h4⟩

theorem flat_nodup {g : G} {n : Nat} (hn : n ≤ g.o.length) (h : ∀ j, j < n → fault g j = 0) : (flat g.o n).Nodup := by
  cases n with
  | zero => simp [flat]
  | succ n => exact (fault_ok (List.getElem?_eq_getElem (by omega : n < g.o.length)) (h n (by omega))).2.2.2

theorem ins_le {l : List Op} {n k : Int} {es : List Ed} (h : insOk l n k es = true) : es.length ≤ 4 := by
  simp only [insOk, Bool.and_eq_true, decide_eq_true_eq] at h
  have := h.1.2
  unfold most at this; split at this <;> (try split at this) <;> omega

theorem flat_len {g : G} : ∀ {n : Nat}, n ≤ g.o.length → (∀ j, j < n → fault g j = 0) → (flat g.o n).length ≤ 4 * n
  | 0, _, _ => by simp [flat]
  | n + 1, hn, h => by
    have h1 := flat_len (n := n) (by omega) (fun j hj => h j (by omega))
    have h2 := List.getElem?_eq_getElem (by omega : n < g.o.length)
    have h3 := ins_le (fault_ok h2 (h n (by omega))).2.2.1
    rw [flat_succ h2, List.length_append]; omega

theorem dup_iff {l : List Ed} {m : List Ed} (h : l.Nodup) : (l ++ m).Nodup ↔ ∀ e ∈ m, (l ++ m).count e ≤ 1 := by
  constructor
  · intro hn e _
    exact List.nodup_iff_count.1 hn e
  · intro hm
    rw [List.nodup_iff_count]
    intro e
    by_cases he : e ∈ m
    · exact hm e he
    · rw [List.count_append, List.count_eq_zero_of_not_mem he]
      have := List.nodup_iff_count.1 h e
      omega

theorem src_part {g : G} {n : Nat} {o : Op} (h : g.o[n]? = some o) (h0 : fault g n = 0) (hk : o.k = 1) : 0 ≤ o.p ∧ o.p < g.n := by
  have := (fault_ok h h0).2.1
  unfold fieldsOk at this
  rw [if_pos hk] at this
  simp only [Bool.and_eq_true, decide_eq_true_eq] at this
  exact ⟨this.1.1.1, this.1.1.2⟩

theorem ports_le (k a : Int) : 0 ≤ ports k a ∧ ports k a ≤ 4 := by
  unfold ports
  split
  · split <;> omega
  · split <;> omega

end Go.Gr

/- Graphs as the machine has them; the functions that only compute. -/
namespace Go.Proofs.Ytilffanmaicakaa.A
open Go Go.Pt Go.Gr

theorem wrap64 {n : Int} (h : -9223372036854775808 ≤ n) (h' : n ≤ 9223372036854775807) : IntKind.i64.wrap n = n := by
  unfold IntKind.wrap
  simp [IntKind.bits, IntKind.signed]
  omega
theorem awp_go {J tab c Q s} (h : awp J tab c Q s) : awp J tab c Q s := h
theorem aops_go {J tab all r s K E} (h : aops J tab all r s K E) : aops J tab all r s K E := h
theorem strip_go {g l s K} (h : strip g l s K) : strip g l s K := h
theorem draw_go {J tab all n F r acc s K} (h : drawK J tab all n F r acc s K) : drawK J tab all n F r acc s K := h
theorem frames_go {acc es σ τ} (h : framesP acc es σ τ) : framesP acc es σ τ := h

def _root_.Go.Gr.Ed.av (x : Ed) : AV := .agg [.int .i64 x.f, .int .i64 x.p]
def _root_.Go.Gr.Op.av (x : Gr.Op) : AV := .agg [.int .i64 x.k, .int .i64 x.p, .int .i64 x.f, .int .i64 x.a, .sl 2 (x.i.map Ed.av) .no]

theorem op_in {J : Jd} {n₀ : Nat} (hJ : J = std Try.prog n₀) {l : List Gr.Op} {os : List AV} (hos : os = l.map Gr.Op.av) {i : Int} {K : AV → Prop} (h : ∀ k p f a es il, es = il.map Ed.av → l[i.toNat]? = some ⟨k, p, f, a, il⟩ → K (.agg [.int .i64 k, .int .i64 p, .int .i64 f, .int .i64 a, .sl 2 es .no])) : ∀ e, J.o.get os i = some e → K e := by
  subst hJ hos
  intro e he
  simp only [std, stdOps, List.getElem?_map] at he
  cases hz : l[i.toNat]? with
  | none => rw [hz] at he; simp at he
  | some z => rw [hz] at he; simp at he; subst he; exact h z.k z.p z.f z.a _ z.i rfl hz

theorem ed_in {J : Jd} {n₀ : Nat} (hJ : J = std Try.prog n₀) {l : List Ed} {es : List AV} (hes : es = l.map Ed.av) {i : Int} {K : AV → Prop} (h : ∀ f p, l[i.toNat]? = some ⟨f, p⟩ → K (.agg [.int .i64 f, .int .i64 p])) : ∀ e, J.o.get es i = some e → K e := by
  subst hJ hes
  intro e he
  simp only [std, stdOps, List.getElem?_map] at he
  cases hz : l[i.toNat]? with
  | none => rw [hz] at he; simp at he
  | some z => rw [hz] at he; simp at he; subst he; exact h z.f z.p hz

theorem op_is {J : Jd} {n₀ : Nat} (hJ : J = std Try.prog n₀) {l : List Gr.Op} {os : List AV} (hos : os = l.map Gr.Op.av) {i k p f a : Int} {es : List AV} {il : List Ed} (ho : l[i.toNat]? = some ⟨k, p, f, a, il⟩) (hes : es = il.map Ed.av) {K : AV → Prop} (h : K (.agg [.int .i64 k, .int .i64 p, .int .i64 f, .int .i64 a, .sl 2 es .no])) : ∀ e, J.o.get os i = some e → K e := by
  subst hJ hos hes
  intro e he
  simp only [std, stdOps, List.getElem?_map, ho] at he
  simp at he; subst he; exact h

theorem wkEnv_go' {e f} (h : wkEnv e f) : wkEnv e f := h

set_option maxHeartbeats 8000000 in
set_option maxRecDepth 100000 in
theorem ports_call (k p f a : Int) (es : List AV) (K E) (h : K (.int .i64 (Gr.ports k a)) []) : CallA Try.prog 28 [.agg [.int .i64 k, .int .i64 p, .int .i64 f, .int .i64 a, .sl 2 es .no]] [] K E := by
  refine call_fn (n₀ := 0) tab_ok [] Try.func28 rfl rfl rfl rfl (by decide) ?_
  intro J hJ
  cbv
  repeat' (first
    | with_reducible exact id
    | exact trivial
    | with_reducible refine fit_int h ?_
    | (with_reducible refine op_is hJ hos ho hoes ?_; cbv)
    | (with_reducible refine op_in hJ hos ?_; intro ok op of oa oes oil hoes hop; cbv)
    | (with_reducible refine ed_in hJ hes ?_; intro xf xp hed; cbv)
    | (with_reducible refine ed_in hJ hoes ?_; intro xf xp hed; cbv)
    | intro hh
    | with_reducible refine And.intro ?_ ?_
    | (with_reducible first | refine awp_go ?_ | refine aops_go ?_ | refine strip_go ?_ | refine draw_go ?_ | refine frames_go ?_); cbv)
  all_goals subst hJ
  all_goals try simp only [std, stdOps] at *
  all_goals first | grind [Gr.ports] | (simp only [Gr.ports]; grind)
theorem ports_at {J : Jd} {n₀ : Nat} (hJ : J = std Try.prog n₀) {k p f a : Int} {es : List AV} {σ K E} (h : ∀ (r' : Int), r' = Gr.ports k a → K (.int .i64 r') σ) : J.call 28 [.agg [.int .i64 k, .int .i64 p, .int .i64 f, .int .i64 a, .sl 2 es .no]] σ K E := call_pure hJ (ports_call k p f a es) (h _ rfl)
theorem ports_pure {J : Jd} {n₀ : Nat} (hJ : J = std Try.prog n₀) {k p f a : Int} {es : List AV} {K : AV → Prop} (h : ∀ (r' : Int), r' = Gr.ports k a → K (.int .i64 r')) : J.pure 28 [.agg [.int .i64 k, .int .i64 p, .int .i64 f, .int .i64 a, .sl 2 es .no]] K := pure_at hJ (ports_call k p f a es) (fun _ => rfl) (h _ rfl)

set_option maxHeartbeats 8000000 in
set_option maxRecDepth 100000 in
theorem ports'_call (k p f a : Int) (es : List AV) (K E) (h : K (.int .i64 (Gr.ports k a)) []) : CallA Try.prog 29 [.agg [.int .i64 k, .int .i64 p, .int .i64 f, .int .i64 a, .sl 2 es .no]] [] K E := by
  refine call_fn (n₀ := 0) tab_ok [] Try.func29 rfl rfl rfl rfl (by decide) ?_
  intro J hJ
  cbv
  repeat' (first
    | with_reducible exact id
    | exact trivial
    | with_reducible refine fit_int h ?_
    | (with_reducible refine op_is hJ hos ho hoes ?_; cbv)
    | (with_reducible refine op_in hJ hos ?_; intro ok op of oa oes oil hoes hop; cbv)
    | (with_reducible refine ed_in hJ hes ?_; intro xf xp hed; cbv)
    | (with_reducible refine ed_in hJ hoes ?_; intro xf xp hed; cbv)
    | intro hh
    | with_reducible refine And.intro ?_ ?_
    | (with_reducible first | refine awp_go ?_ | refine aops_go ?_ | refine strip_go ?_ | refine draw_go ?_ | refine frames_go ?_); cbv)
  all_goals subst hJ
  all_goals try simp only [std, stdOps] at *
  all_goals first | grind [Gr.ports] | (simp only [Gr.ports]; grind)
theorem ports'_at {J : Jd} {n₀ : Nat} (hJ : J = std Try.prog n₀) {k p f a : Int} {es : List AV} {σ K E} (h : ∀ (r' : Int), r' = Gr.ports k a → K (.int .i64 r') σ) : J.call 29 [.agg [.int .i64 k, .int .i64 p, .int .i64 f, .int .i64 a, .sl 2 es .no]] σ K E := call_pure hJ (ports'_call k p f a es) (h _ rfl)
theorem ports'_pure {J : Jd} {n₀ : Nat} (hJ : J = std Try.prog n₀) {k p f a : Int} {es : List AV} {K : AV → Prop} (h : ∀ (r' : Int), r' = Gr.ports k a → K (.int .i64 r')) : J.pure 29 [.agg [.int .i64 k, .int .i64 p, .int .i64 f, .int .i64 a, .sl 2 es .no]] K := pure_at hJ (ports'_call k p f a es) (fun _ => rfl) (h _ rfl)

set_option maxHeartbeats 8000000 in
set_option maxRecDepth 100000 in
theorem portsN_call (k p f a : Int) (K E) (h : K (.int .i64 (Gr.ports k a)) []) : CallA Try.prog 28 [.agg [.int .i64 k, .int .i64 p, .int .i64 f, .int .i64 a, .nils]] [] K E := by
  refine call_fn (n₀ := 0) tab_ok [] Try.func28 rfl rfl rfl rfl (by decide) ?_
  intro J hJ
  cbv
  repeat' (first
    | with_reducible exact id
    | exact trivial
    | with_reducible refine fit_int h ?_
    | (with_reducible refine op_is hJ hos ho hoes ?_; cbv)
    | (with_reducible refine op_in hJ hos ?_; intro ok op of oa oes oil hoes hop; cbv)
    | (with_reducible refine ed_in hJ hes ?_; intro xf xp hed; cbv)
    | (with_reducible refine ed_in hJ hoes ?_; intro xf xp hed; cbv)
    | intro hh
    | with_reducible refine And.intro ?_ ?_
    | (with_reducible first | refine awp_go ?_ | refine aops_go ?_ | refine strip_go ?_ | refine draw_go ?_ | refine frames_go ?_); cbv)
  all_goals subst hJ
  all_goals try simp only [std, stdOps] at *
  all_goals first | grind [Gr.ports] | (simp only [Gr.ports]; grind)
theorem portsN_at {J : Jd} {n₀ : Nat} (hJ : J = std Try.prog n₀) {k p f a : Int} {σ K E} (h : ∀ (r' : Int), r' = Gr.ports k a → K (.int .i64 r') σ) : J.call 28 [.agg [.int .i64 k, .int .i64 p, .int .i64 f, .int .i64 a, .nils]] σ K E := call_pure hJ (portsN_call k p f a) (h _ rfl)
theorem portsN_pure {J : Jd} {n₀ : Nat} (hJ : J = std Try.prog n₀) {k p f a : Int} {K : AV → Prop} (h : ∀ (r' : Int), r' = Gr.ports k a → K (.int .i64 r')) : J.pure 28 [.agg [.int .i64 k, .int .i64 p, .int .i64 f, .int .i64 a, .nils]] K := pure_at hJ (portsN_call k p f a) (fun _ => rfl) (h _ rfl)

set_option maxHeartbeats 8000000 in
set_option maxRecDepth 100000 in
theorem portsN'_call (k p f a : Int) (K E) (h : K (.int .i64 (Gr.ports k a)) []) : CallA Try.prog 29 [.agg [.int .i64 k, .int .i64 p, .int .i64 f, .int .i64 a, .nils]] [] K E := by
  refine call_fn (n₀ := 0) tab_ok [] Try.func29 rfl rfl rfl rfl (by decide) ?_
  intro J hJ
  cbv
  repeat' (first
    | with_reducible exact id
    | exact trivial
    | with_reducible refine fit_int h ?_
    | (with_reducible refine op_is hJ hos ho hoes ?_; cbv)
    | (with_reducible refine op_in hJ hos ?_; intro ok op of oa oes oil hoes hop; cbv)
    | (with_reducible refine ed_in hJ hes ?_; intro xf xp hed; cbv)
    | (with_reducible refine ed_in hJ hoes ?_; intro xf xp hed; cbv)
    | intro hh
    | with_reducible refine And.intro ?_ ?_
    | (with_reducible first | refine awp_go ?_ | refine aops_go ?_ | refine strip_go ?_ | refine draw_go ?_ | refine frames_go ?_); cbv)
  all_goals subst hJ
  all_goals try simp only [std, stdOps] at *
  all_goals first | grind [Gr.ports] | (simp only [Gr.ports]; grind)
theorem portsN'_at {J : Jd} {n₀ : Nat} (hJ : J = std Try.prog n₀) {k p f a : Int} {σ K E} (h : ∀ (r' : Int), r' = Gr.ports k a → K (.int .i64 r') σ) : J.call 29 [.agg [.int .i64 k, .int .i64 p, .int .i64 f, .int .i64 a, .nils]] σ K E := call_pure hJ (portsN'_call k p f a) (h _ rfl)
theorem portsN'_pure {J : Jd} {n₀ : Nat} (hJ : J = std Try.prog n₀) {k p f a : Int} {K : AV → Prop} (h : ∀ (r' : Int), r' = Gr.ports k a → K (.int .i64 r')) : J.pure 29 [.agg [.int .i64 k, .int .i64 p, .int .i64 f, .int .i64 a, .nils]] K := pure_at hJ (portsN'_call k p f a) (fun _ => rfl) (h _ rfl)

set_option maxHeartbeats 8000000 in
set_option maxRecDepth 100000 in
theorem fn_call (k p f a : Int) (es : List AV) (m : Int) (K E) (h : K (.bool ((decide (1 ≤ f) && decide (f ≤ m)))) []) : CallA Try.prog 120 [.agg [.int .i64 k, .int .i64 p, .int .i64 f, .int .i64 a, .sl 2 es .no], .int .i64 m] [] K E := by
  refine call_fn (n₀ := 0) tab_ok [] Try.func120 rfl rfl rfl rfl (by decide) ?_
  intro J hJ
  cbv
  repeat' (first
    | with_reducible exact id
    | exact trivial
    | with_reducible refine fit_bool h ?_
    | (with_reducible refine op_is hJ hos ho hoes ?_; cbv)
    | (with_reducible refine op_in hJ hos ?_; intro ok op of oa oes oil hoes hop; cbv)
    | (with_reducible refine ed_in hJ hes ?_; intro xf xp hed; cbv)
    | (with_reducible refine ed_in hJ hoes ?_; intro xf xp hed; cbv)
    | intro hh
    | with_reducible refine And.intro ?_ ?_
    | (with_reducible first | refine awp_go ?_ | refine aops_go ?_ | refine strip_go ?_ | refine draw_go ?_ | refine frames_go ?_); cbv)
  all_goals subst hJ
  all_goals try simp only [std, stdOps] at *
  all_goals first | grind [wrap64] | (simp only [wrap64]; grind)
theorem fn_at {J : Jd} {n₀ : Nat} (hJ : J = std Try.prog n₀) {k p f a : Int} {es : List AV} {m : Int} {σ K E} (h : ∀ (r' : Bool), r' = (decide (1 ≤ f) && decide (f ≤ m)) → K (.bool r') σ) : J.call 120 [.agg [.int .i64 k, .int .i64 p, .int .i64 f, .int .i64 a, .sl 2 es .no], .int .i64 m] σ K E := call_pure hJ (fn_call k p f a es m) (h _ rfl)
theorem fn_pure {J : Jd} {n₀ : Nat} (hJ : J = std Try.prog n₀) {k p f a : Int} {es : List AV} {m : Int} {K : AV → Prop} (h : ∀ (r' : Bool), r' = (decide (1 ≤ f) && decide (f ≤ m)) → K (.bool r')) : J.pure 120 [.agg [.int .i64 k, .int .i64 p, .int .i64 f, .int .i64 a, .sl 2 es .no], .int .i64 m] K := pure_at hJ (fn_call k p f a es m) (fun _ => rfl) (h _ rfl)

set_option maxHeartbeats 8000000 in
set_option maxRecDepth 100000 in
theorem fields_call (k p f a : Int) (es : List AV) (n : Int) (K E) (h : K (.bool (Gr.fieldsOk k p f a n)) []) : CallA Try.prog 100 [.agg [.int .i64 k, .int .i64 p, .int .i64 f, .int .i64 a, .sl 2 es .no], .int .i64 n] [] K E := by
  refine call_fn (n₀ := 0) tab_ok [] Try.func100 rfl rfl rfl rfl (by decide) ?_
  intro J hJ
  cbv
  repeat' (first
    | with_reducible exact id
    | exact trivial
    | with_reducible refine fit_bool h ?_
    | (with_reducible refine op_is hJ hos ho hoes ?_; cbv)
    | (with_reducible refine op_in hJ hos ?_; intro ok op of oa oes oil hoes hop; cbv)
    | (with_reducible refine ed_in hJ hes ?_; intro xf xp hed; cbv)
    | (with_reducible refine ed_in hJ hoes ?_; intro xf xp hed; cbv)
    | (with_reducible refine fn_at hJ ?_; intros)
    | intro hh
    | with_reducible refine And.intro ?_ ?_
    | (with_reducible first | refine awp_go ?_ | refine aops_go ?_ | refine strip_go ?_ | refine draw_go ?_ | refine frames_go ?_); cbv)
  all_goals subst hJ
  all_goals try simp only [std, stdOps] at *
  all_goals first | grind [Gr.fieldsOk] | (simp only [Gr.fieldsOk]; grind)
theorem fields_at {J : Jd} {n₀ : Nat} (hJ : J = std Try.prog n₀) {k p f a : Int} {es : List AV} {n : Int} {σ K E} (h : ∀ (r' : Bool), r' = Gr.fieldsOk k p f a n → K (.bool r') σ) : J.call 100 [.agg [.int .i64 k, .int .i64 p, .int .i64 f, .int .i64 a, .sl 2 es .no], .int .i64 n] σ K E := call_pure hJ (fields_call k p f a es n) (h _ rfl)
theorem fields_pure {J : Jd} {n₀ : Nat} (hJ : J = std Try.prog n₀) {k p f a : Int} {es : List AV} {n : Int} {K : AV → Prop} (h : ∀ (r' : Bool), r' = Gr.fieldsOk k p f a n → K (.bool r')) : J.pure 100 [.agg [.int .i64 k, .int .i64 p, .int .i64 f, .int .i64 a, .sl 2 es .no], .int .i64 n] K := pure_at hJ (fields_call k p f a es n) (fun _ => rfl) (h _ rfl)

set_option maxHeartbeats 8000000 in
set_option maxRecDepth 100000 in
theorem fields'_call (k p f a : Int) (es : List AV) (n : Int) (K E) (h : K (.bool (Gr.fieldsOk k p f a n)) []) : CallA Try.prog 68 [.agg [.int .i64 k, .int .i64 p, .int .i64 f, .int .i64 a, .sl 2 es .no], .int .i64 n] [] K E := by
  refine call_fn (n₀ := 0) tab_ok [] Try.func68 rfl rfl rfl rfl (by decide) ?_
  intro J hJ
  cbv
  repeat' (first
    | with_reducible exact id
    | exact trivial
    | with_reducible refine fit_bool h ?_
    | (with_reducible refine op_is hJ hos ho hoes ?_; cbv)
    | (with_reducible refine op_in hJ hos ?_; intro ok op of oa oes oil hoes hop; cbv)
    | (with_reducible refine ed_in hJ hes ?_; intro xf xp hed; cbv)
    | (with_reducible refine ed_in hJ hoes ?_; intro xf xp hed; cbv)
    | intro hh
    | with_reducible refine And.intro ?_ ?_
    | (with_reducible first | refine awp_go ?_ | refine aops_go ?_ | refine strip_go ?_ | refine draw_go ?_ | refine frames_go ?_); cbv)
  all_goals subst hJ
  all_goals try simp only [std, stdOps] at *
  all_goals first | grind [Gr.fieldsOk] | (simp only [Gr.fieldsOk]; grind)
theorem fields'_at {J : Jd} {n₀ : Nat} (hJ : J = std Try.prog n₀) {k p f a : Int} {es : List AV} {n : Int} {σ K E} (h : ∀ (r' : Bool), r' = Gr.fieldsOk k p f a n → K (.bool r') σ) : J.call 68 [.agg [.int .i64 k, .int .i64 p, .int .i64 f, .int .i64 a, .sl 2 es .no], .int .i64 n] σ K E := call_pure hJ (fields'_call k p f a es n) (h _ rfl)
theorem fields'_pure {J : Jd} {n₀ : Nat} (hJ : J = std Try.prog n₀) {k p f a : Int} {es : List AV} {n : Int} {K : AV → Prop} (h : ∀ (r' : Bool), r' = Gr.fieldsOk k p f a n → K (.bool r')) : J.pure 68 [.agg [.int .i64 k, .int .i64 p, .int .i64 f, .int .i64 a, .sl 2 es .no], .int .i64 n] K := pure_at hJ (fields'_call k p f a es n) (fun _ => rfl) (h _ rfl)

end Go.Proofs.Ytilffanmaicakaa.A

/- many, inputs. -/
namespace Go.Proofs.Ytilffanmaicakaa.A
open Go Go.Pt Go.Gr

set_option maxHeartbeats 8000000 in
set_option maxRecDepth 100000 in
theorem many_call (n u ef ep : Int) (l : List Gr.Op) (os : List AV) (hos : os = l.map Gr.Op.av) (hu : 0 ≤ u ∧ u ≤ l.length) (hb : (flat l u.toNat).length < 2 ^ 60) (hll : (l.length : Int) < 2 ^ 60) (K E) (h : K (.int .i64 ((flat l u.toNat).count ⟨ef, ep⟩)) []) :
    CallA Try.prog 70 [.agg [.int .i64 n, .sl 5 os .no], .int .i64 u, .agg [.int .i64 ef, .int .i64 ep]] [] K E := by
  refine call_fn (n₀ := 0) tab_ok [] Try.func70 rfl rfl rfl rfl (by decide) ?_
  intro J hJ
  cbv
  refine loop_at (β := Int × Int) hJ tab_ok (fun b => ⟨[(7, .int .i64 b.2), (8, .int .i64 b.1), (5, .ptr 1 0), (3, .ptr 0 0), (1, .int .i64 u)], [.var [.int .i64 n, .sl 5 os .no], .var [.int .i64 ef, .int .i64 ep]], 40⟩) (fun b => 0 ≤ b.1 ∧ b.1 ≤ u ∧ b.2 = (flat l b.1.toNat).count ⟨ef, ep⟩) (fun b => (u + 1 - b.1).toNat) (0, 0) ?_ ?_ ?_ ?_
  · exact ⟨Int.le_refl _, hu.1, rfl⟩
  · refine ⟨?_, ?_, rfl, rfl⟩
    · cbv
    · cbv
  · intro b; exact Nat.zero_le _
  rintro ⟨i, c⟩ ⟨hi0, hiu, hc⟩ Nx hNx
  replace hi0 : 0 ≤ i := hi0
  replace hiu : i ≤ u := hiu
  replace hc : c = (flat l i.toNat).count ⟨ef, ep⟩ := hc
  obtain ⟨i1, hi1⟩ : ∃ i1 : Int, i1 = i + 1 := ⟨_, rfl⟩
  have hN' : ∀ env c' v, 0 ≤ i → i < u → c' = ((flat l (i.toNat + 1)).count ⟨ef, ep⟩ : Int) → wkEnv env [(7, .int .i64 c'), (8, .int .i64 i1), (5, .ptr 1 0), (3, .ptr 0 0), (1, .int .i64 u)] → Nx ⟨env, [.var [.int .i64 n, .sl 5 os .no], .var [.int .i64 ef, .int .i64 ep]] ++ v, 40⟩ := by
    intro env c' v h1 h2 h3 h4
    refine hNx _ (i1, c') ⟨by show 0 ≤ i1; omega, by show i1 ≤ u; omega, ?_⟩ (by show (u + 1 - i1).toNat < (u + 1 - i).toNat; omega) ⟨h4, by cbv, rfl, rfl⟩
    show c' = _
    rw [h3, show i1.toNat = i.toNat + 1 by omega]
  clear hNx
  cbv
  repeat' (first
    | with_reducible exact id
    | exact trivial
    | (with_reducible refine op_is hJ hos ho hoes ?_; cbv)
    | (with_reducible refine op_in hJ hos ?_; intro ok op of oa oes oil hoes hop; cbv)
    | (with_reducible refine ed_in hJ hes ?_; intro xf xp hed; cbv)
    | (with_reducible refine ed_in hJ hoes ?_; intro xf xp hed; cbv)
    | intro hh
    | with_reducible refine And.intro ?_ ?_
    | (with_reducible first | refine awp_go ?_ | refine aops_go ?_ | refine strip_go ?_ | refine draw_go ?_ | refine frames_go ?_); cbv)
  · replace hu : 0 ≤ u ∧ u ≤ (l.length : Int) := hu
    have hlt : i < u := by rw [hJ] at hh; simpa [std, stdOps] using hh
    obtain ⟨⟨ok, op, of, oa, oil⟩, ho⟩ : ∃ o, l[i.toNat]? = some o := ⟨_, List.getElem?_eq_getElem (by omega)⟩
    obtain ⟨oes, hoes⟩ : ∃ es, es = oil.map Ed.av := ⟨_, rfl⟩
    refine loop_at (β := Int × Int) hJ tab_ok (fun b => ⟨[(9, .int .i64 b.1), (7, .int .i64 b.2), (8, .int .i64 i), (5, .ptr 1 0), (3, .ptr 0 0), (1, .int .i64 u)], [.var [.int .i64 n, .sl 5 os .no], .var [.int .i64 ef, .int .i64 ep]], 40⟩) (fun b => 0 ≤ b.1 ∧ b.1 ≤ oil.length ∧ b.2 = (flat l i.toNat).count ⟨ef, ep⟩ + (oil.take b.1.toNat).count ⟨ef, ep⟩) (fun b => (oil.length + 1 - b.1).toNat) (0, c) ?_ ?_ ?_ ?_
    · exact ⟨Int.le_refl _, Int.natCast_nonneg _, by simp [hc]⟩
    · refine ⟨?_, ?_, rfl, rfl⟩
      · cbv
      · cbv
    · intro b; exact Nat.zero_le _
    rintro ⟨k, c'⟩ ⟨hk0, hku, hc'⟩ Ny hNy
    replace hk0 : 0 ≤ k := hk0
    replace hku : k ≤ oil.length := hku
    replace hc' : c' = (flat l i.toNat).count ⟨ef, ep⟩ + (oil.take k.toNat).count ⟨ef, ep⟩ := hc'
    obtain ⟨k1, hk1⟩ : ∃ k1 : Int, k1 = k + 1 := ⟨_, rfl⟩
    have hM : ∀ env c2 v, k < oil.length → c2 = ((flat l i.toNat).count ⟨ef, ep⟩ + (oil.take (k.toNat + 1)).count ⟨ef, ep⟩ : Int) → wkEnv env [(9, .int .i64 k1), (7, .int .i64 c2), (8, .int .i64 i), (5, .ptr 1 0), (3, .ptr 0 0), (1, .int .i64 u)] → Ny ⟨env, [.var [.int .i64 n, .sl 5 os .no], .var [.int .i64 ef, .int .i64 ep]] ++ v, 40⟩ := by
      intro env c2 v h2 h3 h4
      refine hNy _ (k1, c2) ⟨by show 0 ≤ k1; omega, by show k1 ≤ oil.length; omega, ?_⟩ (by show (oil.length + 1 - k1).toNat < (oil.length + 1 - k).toNat; omega) ⟨h4, by cbv, rfl, rfl⟩
      show c2 = _
      rw [h3, show k1.toNat = k.toNat + 1 by omega]
    clear hNy
    replace hu : 0 ≤ u ∧ u ≤ (l.length : Int) := hu
    have hcb : c' < 2 ^ 60 := by
      have h1 := List.count_le_length (a := (⟨ef, ep⟩ : Ed)) (l := flat l i.toNat ++ oil.take k.toNat)
      have h2 := flat_le l (n := i.toNat + 1) (m := u.toNat) (by omega)
      rw [flat_succ ho] at h2
      rw [List.count_append] at h1
      simp only [List.length_append, List.length_take] at h1 h2
      omega
    have hin : i < l.length := by omega
    have hol : k + 1 < 2 ^ 61 := by
      have h2 := flat_le l (n := i.toNat + 1) (m := u.toNat) (by omega)
      rw [flat_succ ho] at h2
      simp only [List.length_append] at h2
      have hku : k ≤ (oil.length : Int) := hku
      omega
    have hil : i + 1 < 2 ^ 61 := by
      have hll : (l.length : Int) < 2 ^ 60 := hll
      omega
    have hc0 : 0 ≤ c' := by rw [hc']; omega
    cbv
    repeat' (first
      | with_reducible exact id
      | exact trivial
      | (with_reducible refine op_is hJ hos ho hoes ?_; cbv)
      | (with_reducible refine op_in hJ hos ?_; intro ok op of oa oes oil hoes hop; cbv)
      | (with_reducible refine ed_in hJ hes ?_; intro xf xp hed; cbv)
      | (with_reducible refine ed_in hJ hoes ?_; intro xf xp hed; cbv)
      | intro hh
      | with_reducible refine And.intro ?_ ?_
      | (with_reducible first | refine awp_go ?_ | refine aops_go ?_ | refine strip_go ?_ | refine draw_go ?_ | refine frames_go ?_); cbv)
    all_goals
      replace hku : k ≤ (oil.length : Int) := hku
      replace hin : i < (l.length : Int) := hin
      replace hc' : c' = ((flat l i.toNat).count ⟨_, _⟩ : Int) + ((oil.take k.toNat).count ⟨_, _⟩ : Int) := hc'
      all_goals first
      | (refine hM _ c' [] ?_ ?_ ?_ <;> first
          | (with_reducible refine wkEnv_go' ?_; cbv; clear hM hN' h; subst hJ; simp only [std, stdOps] at * <;> grind [wrap64])
          | (rw [count_take hed]; clear hM hN' h; subst hJ; simp only [std, stdOps] at *; grind [wrap64])
          | (clear hM hN'; subst hJ; simp only [std, stdOps] at *; grind))
      | (refine hM _ (J.o.ar .add .i64 c' 1) [] ?_ ?_ ?_ <;> first
          | (with_reducible refine wkEnv_go' ?_; cbv; clear hM hN' h; subst hJ; simp only [std, stdOps] at * <;> grind [wrap64])
          | (rw [count_take hed]; clear hM hN' h; subst hJ; simp only [std, stdOps] at *; grind [wrap64])
          | (clear hM hN'; subst hJ; simp only [std, stdOps] at *; grind))
      | (refine hN' _ c' [] hi0 hlt ?_ ?_ <;> first
          | (with_reducible refine wkEnv_go' ?_; cbv; clear hM hN' h; subst hJ; simp only [std, stdOps] at * <;> grind [wrap64])
          | (rw [flat_succ ho, List.count_append, hc']; have hkk : k = oil.length := by (clear hM hN'; subst hJ hoes; simp [std, stdOps] at hh; omega)
             simp only [hkk, Int.toNat_natCast, List.take_length, Int.natCast_add]))
      | (clear hM hN'; subst hJ hos; simp only [std, stdOps] at *; grind)
  · have : i = u := by rw [hJ] at hh; simp [std, stdOps] at hh; omega
    subst this; rw [hc]; exact h

end Go.Proofs.Ytilffanmaicakaa.A

/- inputs, edges. -/
namespace Go.Proofs.Ytilffanmaicakaa.A
open Go Go.Pt Go.Gr

def Ln {α : Type} (L : Int) (l : List α) : Prop := L = (l.length : Int)
theorem insOk_eq {l : List Gr.Op} {n k : Int} {es : List Ed} {E : Int} (hE : Ln E es) : insOk l n k es = (decide (least k ≤ E) && decide (E ≤ most k) && es.all (edgeOk l n)) := by unfold insOk; rw [← hE]
theorem all_take {l : List Ed} {p : Ed → Bool} {k : Int} {E : Int} (hE : Ln E l) (hk : k = E) : (l.take k.toNat).all p = l.all p := by
  unfold Ln at hE; subst hk hE; simp
theorem all_succ {l : List Ed} {p : Ed → Bool} {k k1 : Int} {x : Ed} (hk : 0 ≤ k) (hk1 : k1 = k + 1) (hx : l[k.toNat]? = some x) : (l.take k1.toNat).all p = ((l.take k.toNat).all p && p x) := by
  rw [hk1, show (k + 1).toNat = k.toNat + 1 by omega, List.take_add_one, hx]; simp
theorem all_bad {l : List Ed} {p : Ed → Bool} {k : Nat} {x : Ed} (hx : l[k]? = some x) (hp : p x = false) : l.all p = false := by
  rw [List.all_eq_false]; exact ⟨x, List.mem_of_getElem? hx, by simp [hp]⟩
theorem edge_of {l : List Gr.Op} {n xf xp k p f a : Int} {il : List Ed} (h : l[xf.toNat]? = some ⟨k, p, f, a, il⟩) : edgeOk l n ⟨xf, xp⟩ = (decide (0 ≤ xf) && decide (xf < n) && decide (0 ≤ xp) && decide (xp < ports k a)) := by
  unfold edgeOk; simp only; rw [h]
theorem edge_no {l : List Gr.Op} {n xf xp : Int} (h : xf < 0 ∨ n ≤ xf ∨ xp < 0) : edgeOk l n ⟨xf, xp⟩ = false := by
  unfold edgeOk; simp only
  rcases h with h | h | h
  · simp [Int.not_le.2 h]
  · simp [Int.not_lt.2 h]
  · simp [Int.not_le.2 h]
set_option maxHeartbeats 8000000 in
set_option maxRecDepth 100000 in
theorem inputs'_call (n i : Int) (l : List Gr.Op) (os : List AV) (hos : os = l.map Gr.Op.av) (L : Int) (hL : Ln L l) (hi : 0 ≤ i ∧ i < L) (_hll : L < 1000) (ok op of oa : Int) (oil : List Ed) (oes : List AV) (hoes : oes = oil.map Ed.av) (ho : l[i.toNat]? = some ⟨ok, op, of, oa, oil⟩) (K E) (h : K (.bool (insOk l i ok oil)) []) :
    CallA Try.prog 69 [.agg [.int .i64 n, .sl 5 os .no], .int .i64 i] [] K E := by
  obtain ⟨M, hM⟩ : ∃ M : Int, Ln M oil := ⟨_, rfl⟩
  refine call_fn (n₀ := 0) tab_ok [] Try.func69 rfl rfl rfl rfl (by decide) ?_
  intro J hJ
  have hlo : J.o.len oes = M := by subst hJ hoes; unfold Ln at hM; simp [std, stdOps, hM]
  have hlos : J.o.len os = L := by subst hJ hos; unfold Ln at hL; simp [std, stdOps, hL]
  cbv
  repeat' (first
    | with_reducible exact id
    | exact trivial
    | (with_reducible refine op_is hJ hos ho hoes ?_; cbv)
    | (with_reducible refine op_in hJ hos ?_; intro ok op of oa oes oil hoes hop; cbv)
    | (with_reducible refine ed_in hJ hes ?_; intro xf xp hed; cbv)
    | (with_reducible refine ed_in hJ hoes ?_; intro xf xp hed; cbv)
    | intro hh
    | with_reducible refine And.intro ?_ ?_
    | (with_reducible first | refine awp_go ?_ | refine aops_go ?_ | refine strip_go ?_ | refine draw_go ?_ | refine frames_go ?_); cbv)
  all_goals first
    | (refine fit_bool h ?_; rw [insOk_eq hM]; unfold least most; clear h; subst hJ; simp only [std, stdOps] at *; grind)
    | (clear h; subst hJ; simp only [std, stdOps] at *; grind)
    | skip
  all_goals
    have hM4 : 0 ≤ M ∧ M ≤ 4 ∧ least ok ≤ M ∧ M ≤ most ok := by
      have : 0 ≤ M := by unfold Ln at hM; omega
      unfold least most; clear h; subst hJ; simp only [std, stdOps] at *; grind
    refine loop_at (β := Int) hJ tab_ok (fun | j => ⟨[(8, .int .i64 j), (5, .ptr 1 0), (2, .ptr 0 0), (1, .int .i64 i)], [.var [.int .i64 n, .sl 5 os .no], .var [.int .i64 ok, .int .i64 op, .int .i64 of, .int .i64 oa, .sl 2 oes .no]], 71⟩) (fun | j => (0 ≤ j) ∧ (j ≤ M) ∧ ((oil.take j.toNat).all (edgeOk l i) = true)) (fun | j => (M + 1 - j).toNat) 0 ?_ ?_ ?_ ?_
    · exact ⟨Int.le_refl _, hM4.1, by simp⟩
    · refine ⟨?_, ?_, rfl, rfl⟩
      · cbv
        try exact ⟨rfl, trivial⟩
      · cbv
    · rintro j; exact Nat.le_of_ble_eq_true rfl
    rintro j hinv Nx Nxh
    obtain ⟨j0, jM, ja⟩ : (0 ≤ j) ∧ (j ≤ M) ∧ ((oil.take j.toNat).all (edgeOk l i) = true) := hinv
    obtain ⟨j1, hj1⟩ : ∃ j1 : Int, j1 = j + 1 := ⟨_, rfl⟩
    have hN : ∀ env (j' : Int) v, (0 ≤ j') ∧ (j' ≤ M) ∧ ((oil.take j'.toNat).all (edgeOk l i) = true) → (M + 1 - j').toNat < (M + 1 - j).toNat → wkEnv env [(8, .int .i64 j'), (5, .ptr 1 0), (2, .ptr 0 0), (1, .int .i64 i)] → Nx ⟨env, [.var [.int .i64 n, .sl 5 os .no], .var [.int .i64 ok, .int .i64 op, .int .i64 of, .int .i64 oa, .sl 2 oes .no]] ++ v, 71⟩ := fun env j' v h1 h2 h3 => Nxh _ j' h1 h2 ⟨h3, by cbv, rfl, rfl⟩
    clear Nxh
    cbv
    repeat' (first
      | with_reducible exact id
      | exact trivial
      | (with_reducible refine op_is hJ hos ho hoes ?_; cbv)
      | (with_reducible refine op_in hJ hos ?_; intro ok op of oa oes oil hoes hop; cbv)
      | (with_reducible refine ed_in hJ hes ?_; intro xf xp hed; cbv)
      | (with_reducible refine ed_in hJ hoes ?_; intro xf xp hed; cbv)
      | (with_reducible refine ports'_at hJ ?_; intros)
      | (with_reducible refine portsN'_at hJ ?_; intros)
      | (with_reducible refine ports'_pure hJ ?_; intros)
      | (with_reducible refine portsN'_pure hJ ?_; intros)
      | intro hh
      | with_reducible refine And.intro ?_ ?_
      | (with_reducible first | refine awp_go ?_ | refine aops_go ?_ | refine strip_go ?_ | refine draw_go ?_ | refine frames_go ?_); cbv)
    all_goals first
      | (refine hN _ j1 _ ⟨?_, ?_, ?_⟩ ?_ ?_ <;> first | (with_reducible refine wkEnv_go' ?_; cbv; clear h hN; subst hJ; simp only [std, stdOps] at *; grind [wrap64]) | (rw [all_succ j0 hj1 hed, ja, edge_of hop]; clear h hN; subst hJ; simp only [std, stdOps] at *; grind) | (clear h hN; subst hJ; simp only [std, stdOps] at *; grind [wrap64]))
      | (refine fit_bool h ?_; rw [insOk_eq hM, ← all_take hM (k := j) (by clear h hN; subst hJ; simp only [std, stdOps] at *; grind), ja]; clear h hN; subst hJ; simp only [std, stdOps] at *; grind)
      | (refine fit_bool h ?_; rw [insOk_eq hM, all_bad hed (by clear h hN; subst hJ; simp only [std, stdOps] at *; grind [edge_no])] <;> simp)
      | (refine fit_bool h ?_; rw [insOk_eq hM, all_bad hed (by rw [edge_of hop]; clear h hN; subst hJ; simp only [std, stdOps] at *; grind)] <;> simp)
      | (clear h hN; subst hJ; simp only [std, stdOps] at *; grind)

end Go.Proofs.Ytilffanmaicakaa.A

/- edges. -/
namespace Go.Proofs.Ytilffanmaicakaa.A
open Go Go.Pt Go.Gr

set_option maxHeartbeats 8000000 in
set_option maxRecDepth 100000 in
theorem clo_call (n i xf xp : Int) (l : List Gr.Op) (os : List AV) (hos : os = l.map Gr.Op.av) (L : Int) (hL : Ln L l) (hi : 0 ≤ i ∧ i ≤ L) (_hll : L < 1000) (K E) (h : K (.bool (!edgeOk l i ⟨xf, xp⟩)) [.var [.int .i64 i], .var [.int .i64 n, .sl 5 os .no]]) :
    CallA Try.prog 122 [.agg [.int .i64 xf, .int .i64 xp], .ptr 0 0, .ptr 1 0] [.var [.int .i64 i], .var [.int .i64 n, .sl 5 os .no]] K E := by
  refine call_fn (n₀ := 2) tab_ok [] Try.func122 rfl rfl rfl rfl (by simp [rangeN, snoc]) ?_
  intro J hJ
  have hlos : J.o.len os = L := by subst hJ hos; unfold Ln at hL; simp [std, stdOps, hL]
  cbv
  repeat' (first
    | with_reducible exact id
    | exact trivial
    | (with_reducible refine op_is hJ hos ho hoes ?_; cbv)
    | (with_reducible refine op_in hJ hos ?_; intro ok op of oa oes oil hoes hop; cbv)
    | (with_reducible refine ed_in hJ hes ?_; intro xf xp hed; cbv)
    | (with_reducible refine ed_in hJ hoes ?_; intro xf xp hed; cbv)
    | (with_reducible refine ports_at hJ ?_; intros)
    | (with_reducible refine portsN_at hJ ?_; intros)
    | (with_reducible refine ports_pure hJ ?_; intros)
    | (with_reducible refine portsN_pure hJ ?_; intros)
    | intro hh
    | with_reducible refine And.intro ?_ ?_
    | (with_reducible first | refine awp_go ?_ | refine aops_go ?_ | refine strip_go ?_ | refine draw_go ?_ | refine frames_go ?_); cbv)
  all_goals first
    | (refine fit_bool h ?_; rw [edge_no (by clear h; subst hJ; simp only [std, stdOps] at *; grind)]; clear h; subst hJ; simp only [std, stdOps] at *; grind)
    | (refine fit_bool h ?_; rw [edge_of hop]; clear h; subst hJ; simp only [std, stdOps] at *; grind)
    | (clear h; subst hJ; simp only [std, stdOps] at *; grind)
theorem clo_at {J : Jd} (hJ : J = std Try.prog 2) {n i xf xp : Int} {l : List Gr.Op} {os : List AV} (hos : os = l.map Gr.Op.av) {L : Int} (hL : Ln L l) (hi : 0 ≤ i ∧ i ≤ L) (hll : L < 1000) {K E} (h : ∀ r', r' = !edgeOk l i ⟨xf, xp⟩ → K (.bool r') [.var [.int .i64 i], .var [.int .i64 n, .sl 5 os .no]]) :
    J.call 122 [.agg [.int .i64 xf, .int .i64 xp], .ptr 0 0, .ptr 1 0] [.var [.int .i64 i], .var [.int .i64 n, .sl 5 os .no]] K E := by
  subst hJ; exact clo_call n i xf xp l os hos L hL hi hll K E (h _ rfl)

set_option maxHeartbeats 8000000 in
set_option maxRecDepth 100000 in
theorem index_call (n i : Int) (l : List Gr.Op) (os : List AV) (hos : os = l.map Gr.Op.av) (L : Int) (hL : Ln L l) (hi : 0 ≤ i ∧ i ≤ L) (hll : L < 1000) (oil : List Ed) (oes : List AV) (hoes : oes = oil.map Ed.av) (M : Int) (hM : Ln M oil) (hMM : M < 1000) (K E) (h : ∀ r, -1 ≤ r → (0 ≤ r ↔ oil.all (edgeOk l i) = false) → K (.int .i64 r) [.var [.int .i64 i], .var [.int .i64 n, .sl 5 os .no]]) :
    CallA Try.prog 127 [.sl 2 oes .no, .func 122 [.ptr 0 0, .ptr 1 0]] [.var [.int .i64 i], .var [.int .i64 n, .sl 5 os .no]] K E := by
  refine call_fn (n₀ := 2) tab_ok [] Try.func127 rfl rfl rfl rfl (by simp [rangeN, snoc]) ?_
  intro J hJ
  have hlo : J.o.len oes = M := by subst hJ hoes; unfold Ln at hM; simp [std, stdOps, hM]
  have hM0 : 0 ≤ M := by unfold Ln at hM; omega
  cbv
  refine loop_at (β := Int) hJ tab_ok (fun | j => ⟨[(8, .int .i64 j), (7, .int .i64 (J.o.len oes)), (1, .func 122 [.ptr 0 0, .ptr 1 0]), (0, .sl 2 oes .no)], [.var [.int .i64 i], .var [.int .i64 n, .sl 5 os .no]], 19⟩) (fun | j => (0 ≤ j) ∧ (j ≤ M) ∧ ((oil.take j.toNat).all (edgeOk l i) = true)) (fun | j => (M + 1 - j).toNat) 0 ?_ ?_ ?_ ?_
  · exact ⟨Int.le_refl _, hM0, by simp⟩
  · refine ⟨?_, ?_, rfl, rfl⟩
    · cbv
      try exact ⟨rfl, trivial⟩
    · cbv
  · rintro j; exact Nat.le_of_ble_eq_true rfl
  rintro j hinv Nx Nxh
  obtain ⟨j0, jM, ja⟩ : (0 ≤ j) ∧ (j ≤ M) ∧ ((oil.take j.toNat).all (edgeOk l i) = true) := hinv
  obtain ⟨j1, hj1⟩ : ∃ j1 : Int, j1 = j + 1 := ⟨_, rfl⟩
  have hN : ∀ env (j' : Int) v, (0 ≤ j') ∧ (j' ≤ M) ∧ ((oil.take j'.toNat).all (edgeOk l i) = true) → (M + 1 - j').toNat < (M + 1 - j).toNat → wkEnv env [(8, .int .i64 j'), (7, .int .i64 (J.o.len oes)), (1, .func 122 [.ptr 0 0, .ptr 1 0]), (0, .sl 2 oes .no)] → Nx ⟨env, [.var [.int .i64 i], .var [.int .i64 n, .sl 5 os .no]] ++ v, 19⟩ := fun env j' v h1 h2 h3 => Nxh _ j' h1 h2 ⟨h3, by cbv, rfl, rfl⟩
  clear Nxh
  cbv
  repeat' (first
    | with_reducible exact id
    | exact trivial
    | (with_reducible refine clo_at hJ hos hL hi hll ?_; intros)
    | (with_reducible refine op_is hJ hos ho hoes ?_; cbv)
    | (with_reducible refine op_in hJ hos ?_; intro ok op of oa oes oil hoes hop; cbv)
    | (with_reducible refine ed_in hJ hes ?_; intro xf xp hed; cbv)
    | (with_reducible refine ed_in hJ hoes ?_; intro xf xp hed; cbv)
    | intro hh
    | with_reducible refine And.intro ?_ ?_
    | (with_reducible first | refine awp_go ?_ | refine aops_go ?_ | refine strip_go ?_ | refine draw_go ?_ | refine frames_go ?_); cbv)
  all_goals first
    | (refine hN _ j1 _ ⟨?_, ?_, ?_⟩ ?_ ?_ <;> first | (with_reducible refine wkEnv_go' ?_; cbv; clear h hN; subst hJ; simp only [std, stdOps] at *; grind [wrap64]) | (rw [all_succ j0 hj1 hed, ja]; clear h hN; subst hJ; simp only [std, stdOps] at *; grind) | (clear h hN; subst hJ; simp only [std, stdOps] at *; grind [wrap64]))
    | (refine h _ ?_ ?_ <;> first | decide | (clear h hN; subst hJ; simp only [std, stdOps] at *; omega) | (rw [all_bad hed (by clear h hN; subst hJ; simp only [std, stdOps] at *; grind)]; simp; omega) | (rw [← all_take hM (k := j) (by clear h hN; subst hJ; simp only [std, stdOps] at *; grind), ja]; simp))
    | (clear h hN; subst hJ; simp only [std, stdOps] at *; grind)
theorem index_at {J : Jd} (hJ : J = std Try.prog 2) {n i : Int} {l : List Gr.Op} {os : List AV} (hos : os = l.map Gr.Op.av) {L : Int} (hL : Ln L l) (hi : 0 ≤ i ∧ i ≤ L) (hll : L < 1000) {oil : List Ed} {oes : List AV} (hoes : oes = oil.map Ed.av) {M : Int} (hM : Ln M oil) (hMM : M < 1000) {K E} (h : ∀ r, -1 ≤ r → (0 ≤ r ↔ oil.all (edgeOk l i) = false) → K (.int .i64 r) [.var [.int .i64 i], .var [.int .i64 n, .sl 5 os .no]]) :
    J.call 127 [.sl 2 oes .no, .func 122 [.ptr 0 0, .ptr 1 0]] [.var [.int .i64 i], .var [.int .i64 n, .sl 5 os .no]] K E := by
  subst hJ; exact index_call n i l os hos L hL hi hll oil oes hoes M hM hMM K E h

set_option maxHeartbeats 8000000 in
set_option maxRecDepth 100000 in
theorem contains_call (n i : Int) (l : List Gr.Op) (os : List AV) (hos : os = l.map Gr.Op.av) (L : Int) (hL : Ln L l) (hi : 0 ≤ i ∧ i ≤ L) (hll : L < 1000) (oil : List Ed) (oes : List AV) (hoes : oes = oil.map Ed.av) (M : Int) (hM : Ln M oil) (hMM : M < 1000) (K E) (h : K (.bool (!oil.all (edgeOk l i))) [.var [.int .i64 i], .var [.int .i64 n, .sl 5 os .no]]) :
    CallA Try.prog 121 [.sl 2 oes .no, .func 122 [.ptr 0 0, .ptr 1 0]] [.var [.int .i64 i], .var [.int .i64 n, .sl 5 os .no]] K E := by
  refine call_fn (n₀ := 2) tab_ok [] Try.func121 rfl rfl rfl rfl (by simp [rangeN, snoc]) ?_
  intro J hJ
  cbv
  repeat' (first
    | with_reducible exact id
    | exact trivial
    | (with_reducible refine index_at hJ hos hL hi hll hoes hM hMM ?_; intro r hr1 hr2; cbv)
    | (with_reducible refine op_is hJ hos ho hoes ?_; cbv)
    | (with_reducible refine op_in hJ hos ?_; intro ok op of oa oes oil hoes hop; cbv)
    | (with_reducible refine ed_in hJ hes ?_; intro xf xp hed; cbv)
    | (with_reducible refine ed_in hJ hoes ?_; intro xf xp hed; cbv)
    | intro hh
    | with_reducible refine And.intro ?_ ?_
    | (with_reducible first | refine awp_go ?_ | refine aops_go ?_ | refine strip_go ?_ | refine draw_go ?_ | refine frames_go ?_); cbv)
  refine fit_bool h ?_
  clear h; subst hJ; simp only [std, stdOps]
  cases hb : oil.all (edgeOk l i)
  · simp [hr2.2 hb]
  · have : ¬ 0 ≤ r := fun hc => by rw [hr2.1 hc] at hb; simp at hb
    simp [this]

set_option maxHeartbeats 8000000 in
set_option maxRecDepth 100000 in
theorem edges_call (n i : Int) (l : List Gr.Op) (os : List AV) (hos : os = l.map Gr.Op.av) (L : Int) (hL : Ln L l) (hi : 0 ≤ i ∧ i < L) (hll : L < 1000) (ok op of oa : Int) (oil : List Ed) (oes : List AV) (hoes : oes = oil.map Ed.av) (ho : l[i.toNat]? = some ⟨ok, op, of, oa, oil⟩) (K E) (h : K (.bool (insOk l i ok oil)) []) :
    CallA Try.prog 101 [.agg [.int .i64 n, .sl 5 os .no], .int .i64 i] [] K E := by
  obtain ⟨M, hM⟩ : ∃ M : Int, Ln M oil := ⟨_, rfl⟩
  refine call_fn (n₀ := 0) tab_ok [] Try.func101 rfl rfl rfl rfl (by decide) ?_
  intro J hJ
  have hlo : J.o.len oes = M := by subst hJ hoes; unfold Ln at hM; simp [std, stdOps, hM]
  have hlos : J.o.len os = L := by subst hJ hos; unfold Ln at hL; simp [std, stdOps, hL]
  have hM0 : 0 ≤ M := by unfold Ln at hM; omega
  cbv
  repeat' (first
    | with_reducible exact id
    | exact trivial
    | (refine call_in hJ [1, 0] (by decide) rfl rfl rfl (contains_call n i l os hos L hL (by omega) hll oil oes hoes M hM ?_ _ _ ?_); rotate_left 1; cbv)
    | (with_reducible refine op_is hJ hos ho hoes ?_; cbv)
    | (with_reducible refine op_in hJ hos ?_; intro ok op of oa oes oil hoes hop; cbv)
    | (with_reducible refine ed_in hJ hes ?_; intro xf xp hed; cbv)
    | (with_reducible refine ed_in hJ hoes ?_; intro xf xp hed; cbv)
    | intro hh
    | with_reducible refine And.intro ?_ ?_
    | (with_reducible first | refine awp_go ?_ | refine aops_go ?_ | refine strip_go ?_ | refine draw_go ?_ | refine frames_go ?_); cbv)
  all_goals first
    | (refine fit_bool h ?_; rw [insOk_eq hM]; unfold least most; clear h; subst hJ; simp only [std, stdOps] at *; grind)
    | (clear h; subst hJ; simp only [std, stdOps] at *; grind)
theorem edges_at {J : Jd} {n₀ : Nat} (hJ : J = std Try.prog n₀) {n i : Int} {l : List Gr.Op} {os : List AV} (hos : os = l.map Gr.Op.av) {L : Int} (hL : Ln L l) (hi : 0 ≤ i ∧ i < L) (hll : L < 1000) {ok op of oa : Int} {oil : List Ed} {oes : List AV} (hoes : oes = oil.map Ed.av) (ho : l[i.toNat]? = some ⟨ok, op, of, oa, oil⟩) {σ K E} (h : ∀ r', r' = insOk l i ok oil → K (.bool r') σ) :
    J.call 101 [.agg [.int .i64 n, .sl 5 os .no], .int .i64 i] σ K E := call_pure hJ (edges_call n i l os hos L hL hi hll ok op of oa oil oes hoes ho) (h _ rfl)
theorem inputs'_at {J : Jd} {n₀ : Nat} (hJ : J = std Try.prog n₀) {n i : Int} {l : List Gr.Op} {os : List AV} (hos : os = l.map Gr.Op.av) {L : Int} (hL : Ln L l) (hi : 0 ≤ i ∧ i < L) (hll : L < 1000) {ok op of oa : Int} {oil : List Ed} {oes : List AV} (hoes : oes = oil.map Ed.av) (ho : l[i.toNat]? = some ⟨ok, op, of, oa, oil⟩) {σ K E} (h : ∀ r', r' = insOk l i ok oil → K (.bool r') σ) :
    J.call 69 [.agg [.int .i64 n, .sl 5 os .no], .int .i64 i] σ K E := call_pure hJ (inputs'_call n i l os hos L hL hi hll ok op of oa oil oes hoes ho) (h _ rfl)

end Go.Proofs.Ytilffanmaicakaa.A

/- one. -/
namespace Go.Proofs.Ytilffanmaicakaa.A
open Go Go.Pt Go.Gr

/-- A map of edges that are taken. -/
def EncT (es : List (AV × AV)) (T : List Ed) : Prop := es.map (·.1) = T.map Ed.av ∧ ∀ x ∈ es, x.2 = .bool true ∨ x.2 = .bl true

theorem keq_ed (a b : Ed) : keq (Ed.av a) (Ed.av b) = decide (a = b) := by
  cases a; cases b
  simp only [keq, Ed.av, AV.cells, keqL, keqC, Ed.mk.injEq]
  rw [Bool.eq_iff_iff]; simp
theorem find_t {k : Ed} : ∀ {es : List (AV × AV)} {T : List Ed}, EncT es T → (k ∈ T → ∃ v, Pt.mfind es k.av = some v ∧ (v = .bool true ∨ v = .bl true)) ∧ (k ∉ T → Pt.mfind es k.av = none)
  | [], [], _ => ⟨fun h => by simp at h, fun _ => rfl⟩
  | [], _ :: _, h => by simp [EncT] at h
  | _ :: _, [], h => by simp [EncT] at h
  | x :: es, t :: T, h => by
    obtain ⟨h1, h2⟩ := h
    simp only [List.map_cons, List.cons.injEq] at h1
    have ih := find_t (k := k) (es := es) (T := T) ⟨h1.2, fun y hy => h2 y (List.mem_cons_of_mem _ hy)⟩
    simp only [Pt.mfind, h1.1, keq_ed]
    by_cases hk : k = t
    · simp only [hk, decide_true, if_true]
      exact ⟨fun _ => ⟨_, rfl, h2 x List.mem_cons_self⟩, fun hn => absurd List.mem_cons_self hn⟩
    · simp only [hk, decide_false, Bool.false_eq_true, if_false, List.mem_cons, false_or]
      exact ih
theorem put_none {k v : AV} : ∀ {es : List (AV × AV)}, Pt.mfind es k = none → Pt.mput es k v = es ++ [(k, v)]
  | [], _ => rfl
  | x :: es, h => by
    simp only [Pt.mfind] at h
    split at h
    · simp at h
    · rename_i hn; simp only [Pt.mput, hn]; simp [put_none h]
theorem look_t {J : Jd} {n₀ : Nat} (hJ : J = std Try.prog n₀) {es : List (AV × AV)} {T : List Ed} (hE : EncT es T) {xf xp : Int} {K : AV → Prop} (h1 : ⟨xf, xp⟩ ∈ T → K (.bool true)) (h2 : ⟨xf, xp⟩ ∈ T → K (.bl true)) : ∀ v, J.o.mfind es (.agg [.int .i64 xf, .int .i64 xp]) = some v → K v := by
  subst hJ
  intro v hv
  have hf := find_t (k := ⟨xf, xp⟩) hE
  by_cases hk : (⟨xf, xp⟩ : Ed) ∈ T
  · obtain ⟨w, hw, hw2⟩ := hf.1 hk
    have : v = w := Option.some.inj (hv.symm.trans hw)
    subst this
    rcases hw2 with rfl | rfl
    · exact h1 hk
    · exact h2 hk
  · have := hv.symm.trans (hf.2 hk); simp at this
theorem look_f {J : Jd} {n₀ : Nat} (hJ : J = std Try.prog n₀) {es : List (AV × AV)} {T : List Ed} (hE : EncT es T) {xf xp : Int} {K : Prop} (h : (⟨xf, xp⟩ : Ed) ∉ T → K) : J.o.mfind es (.agg [.int .i64 xf, .int .i64 xp]) = none → K := by
  subst hJ
  intro hv
  refine h fun hk => ?_
  obtain ⟨w, hw, _⟩ := (find_t (k := ⟨xf, xp⟩) hE).1 hk
  have := hv.symm.trans hw; simp at this
theorem put_t {J : Jd} {n₀ : Nat} (hJ : J = std Try.prog n₀) {es : List (AV × AV)} {T T' : List Ed} (hE : EncT es T) {xf xp : Int} (hn : (⟨xf, xp⟩ : Ed) ∉ T) (hT : T' = T ++ [⟨xf, xp⟩]) : EncT (J.o.mput es (.agg [.int .i64 xf, .int .i64 xp]) (.bl true)) T' := by
  subst hJ hT
  have : (std Try.prog n₀).o.mput es (.agg [.int .i64 xf, .int .i64 xp]) (.bl true) = es ++ [(Ed.av ⟨xf, xp⟩, .bl true)] := put_none ((find_t (k := ⟨xf, xp⟩) hE).2 hn)
  rw [this]
  refine ⟨by simp [hE.1], fun x hx => ?_⟩
  rcases List.mem_append.1 hx with hx | hx
  · exact hE.2 x hx
  · simp at hx; subst hx; exact .inr rfl
theorem dup_t {T T' : List Ed} {x : Ed} (hD : T.Nodup) (hn : x ∉ T) (hT : T' = T ++ [x]) : T'.Nodup := by
  subst hT; rw [List.nodup_append]; simp [hD]; intro a ha hc; subst hc; exact hn ha
theorem tk_succ {T l : List Ed} {j j1 : Int} {x : Ed} (j0 : 0 ≤ j) (hj1 : j1 = j + 1) (hx : l[j.toNat]? = some x) : T ++ l.take j1.toNat = (T ++ l.take j.toNat) ++ [x] := by
  rw [hj1, show (j + 1).toNat = j.toNat + 1 by omega, List.take_add_one, hx]; simp
theorem tk_all {T l : List Ed} {k M : Int} (hM : Ln M l) (hk : k = M) : T ++ l.take k.toNat = T ++ l := by
  unfold Ln at hM; subst hk hM; simp
theorem in_t {T l : List Ed} {j : Int} {x : Ed} (hin : x ∈ T ++ l.take j.toNat) (hx : l[j.toNat]? = some x) : ¬ (T ++ l).Nodup := by
  intro hn
  have h1 : l = l.take j.toNat ++ x :: l.drop (j.toNat + 1) := by
    obtain ⟨hlt, he⟩ := List.getElem?_eq_some_iff.1 hx
    rw [← he, List.getElem_cons_drop, List.take_append_drop]
  rw [h1, ← List.append_assoc, List.nodup_append] at hn
  exact hn.2.2 x hin x List.mem_cons_self rfl
theorem mok_t {es : List (AV × AV)} {T : List Ed} (hE : EncT es T) : ∀ x ∈ es, keyOk true [.int .i64, .int .i64] x.1 = true := by
  intro x hx
  have : x.1 ∈ es.map (·.1) := List.mem_map_of_mem hx
  rw [hE.1] at this
  obtain ⟨y, _, hy⟩ := List.mem_map.1 this
  rw [← hy]; rfl
theorem ren_t {g : Nat → Option Nat} {es : List (AV × AV)} {T : List Ed} (hE : EncT es T) : EncT (es.map fun x => (Pt.ren g 6 x.1, Pt.ren g 6 x.2)) T := by
  have key : EncT (es.map fun x => (Pt.ren g 6 x.1, Pt.ren g 6 x.2)) T := by
    refine ⟨?_, fun x hx => ?_⟩
    · rw [← hE.1, List.map_map]
      refine List.map_congr_left fun x hx => ?_
      have : x.1 ∈ es.map (·.1) := List.mem_map_of_mem hx
      rw [hE.1] at this
      obtain ⟨y, _, hy⟩ := List.mem_map.1 this
      simp only [Function.comp, ← hy]; rfl
    · obtain ⟨y, hy, rfl⟩ := List.mem_map.1 hx
      left
      rcases hE.2 y hy with h | h <;> simp only [h] <;> rfl
  exact key
theorem okS_t {env : List (Nat × AV)} {es : List (AV × AV)} {T : List Ed} {n : Nat} (hE : EncT es T) (h : okS ⟨env, [.mp []], n⟩ = true) : okS ⟨env, [.mp es], n⟩ = true := by
  simp only [okS, lenN, List.all_cons, List.all_nil, Bool.and_eq_true, Nat.reduceAdd] at h ⊢
  refine ⟨h.1, ?_, trivial⟩
  simp only [okE, List.all_eq_true, Bool.and_eq_true]
  intro x hx
  have : x.1 ∈ es.map (·.1) := List.mem_map_of_mem hx
  rw [hE.1] at this
  obtain ⟨y, _, hy⟩ := List.mem_map.1 this
  refine ⟨by rw [← hy]; rfl, ?_⟩
  rcases hE.2 x hx with h | h <;> rw [h] <;> rfl

set_option maxHeartbeats 8000000 in
set_option maxRecDepth 100000 in
theorem one_call (n i : Int) (l : List Gr.Op) (os : List AV) (hos : os = l.map Gr.Op.av) (L : Int) (hL : Ln L l) (hi : 0 ≤ i ∧ i < L) (hll : L < 1000) (ok op of oa : Int) (oil : List Ed) (oes : List AV) (hoes : oes = oil.map Ed.av) (ho : l[i.toNat]? = some ⟨ok, op, of, oa, oil⟩)
    (T : List Ed) (hT : T.Nodup) (es : List (AV × AV)) (hes0 : EncT es T) (K E)
    (h : ∀ r es', r = (if ok < 1 ∨ 9 < ok then 50 else if fieldsOk ok op of oa n = false then 51 else if insOk l i ok oil = false then 52 else if ¬ (T ++ oil).Nodup then 53 else 0) → (r = 0 → EncT es' (T ++ oil)) → K (.int .i64 r) [.mp es']) :
    CallA Try.prog 65 [.agg [.int .i64 n, .sl 5 os .no], .int .i64 i, .mp 0] [.mp es] K E := by
  obtain ⟨M, hM⟩ : ∃ M : Int, Ln M oil := ⟨_, rfl⟩
  have hM0 : 0 ≤ M := by unfold Ln at hM; omega
  refine call_fn (n₀ := 1) tab_ok [] Try.func65 rfl rfl rfl rfl (by simp [rangeN, snoc]) ?_
  intro J hJ
  have hlo : J.o.len oes = M := by subst hJ hoes; unfold Ln at hM; simp [std, stdOps, hM]
  have hlos : J.o.len os = L := by subst hJ hos; unfold Ln at hL; simp [std, stdOps, hL]
  cbv
  repeat' (first
    | with_reducible exact id
    | exact trivial
    | (with_reducible refine edges_at hJ hos hL hi hll hoes ho ?_; intros)
    | (with_reducible refine op_is hJ hos ho hoes ?_; cbv)
    | (with_reducible refine op_in hJ hos ?_; intro ok op of oa oes oil hoes hop; cbv)
    | (with_reducible refine ed_in hJ hes ?_; intro xf xp hed; cbv)
    | (with_reducible refine ed_in hJ hoes ?_; intro xf xp hed; cbv)
    | (with_reducible refine fields_at hJ ?_; intros)
    | intro hh
    | with_reducible refine And.intro ?_ ?_
    | (with_reducible first | refine awp_go ?_ | refine aops_go ?_ | refine strip_go ?_ | refine draw_go ?_ | refine frames_go ?_); cbv)
  all_goals first
    | (refine h 50 _ ?_ (fun hc => absurd hc (by decide)); clear h; subst hJ; simp only [std, stdOps] at *; grind)
    | (refine h 51 _ ?_ (fun hc => absurd hc (by decide)); clear h; subst hJ; simp only [std, stdOps] at *; grind)
    | (refine h 52 _ ?_ (fun hc => absurd hc (by decide)); clear h; subst hJ; simp only [std, stdOps] at *; grind)
    | (clear h; subst hJ; simp only [std, stdOps] at *; grind)
    | skip
  all_goals
    have hf0 : ¬ (ok < 1 ∨ 9 < ok) := by clear h; subst hJ; simp only [std, stdOps] at *; grind
    have hf1 : ¬ fieldsOk ok op of oa n = false := by clear h; subst hJ; simp only [std, stdOps] at *; grind
    have hf2 : ¬ insOk l i ok oil = false := by clear h; subst hJ; simp only [std, stdOps] at *; grind
    have hM4 : M ≤ 4 := by
      unfold Ln at hM
      have := ins_le (l := l) (n := i) (k := ok) (es := oil) (by simpa using hf2)
      omega
    refine loop_at (β := Int × List (AV × AV)) hJ tab_ok (fun | (j, et) => ⟨[(38, .int .i64 j), (37, .int .i64 (J.o.len oes)), (36, .sl 2 oes .no), (2, .mp 0)], [.mp et], 48⟩) (fun | (j, et) => (0 ≤ j) ∧ (j ≤ M) ∧ (EncT et (T ++ oil.take j.toNat)) ∧ ((T ++ oil.take j.toNat).Nodup)) (fun | (j, et) => (M + 1 - j).toNat) (0, es) ?_ ?_ ?_ ?_
    · exact ⟨Int.le_refl _, hM0, by simpa using hes0, by simpa using hT⟩
    · refine ⟨?_, ?_, okS_t hes0 rfl, rfl⟩
      · cbv
        try exact ⟨rfl, trivial⟩
      · cbv
    · rintro ⟨j, et⟩; exact Nat.le_of_ble_eq_true rfl
    rintro ⟨j, et⟩ hinv Nx Nxh
    obtain ⟨j0, jM, hE, hD⟩ : (0 ≤ j) ∧ (j ≤ M) ∧ (EncT et (T ++ oil.take j.toNat)) ∧ ((T ++ oil.take j.toNat).Nodup) := hinv
    obtain ⟨j1, hj1⟩ : ∃ j1 : Int, j1 = j + 1 := ⟨_, rfl⟩
    have hN : ∀ env (j' : Int) (et' : List (AV × AV)) v, (0 ≤ j') ∧ (j' ≤ M) ∧ (EncT et' (T ++ oil.take j'.toNat)) ∧ ((T ++ oil.take j'.toNat).Nodup) → (M + 1 - j').toNat < (M + 1 - j).toNat → wkEnv env [(38, .int .i64 j'), (37, .int .i64 (J.o.len oes)), (36, .sl 2 oes .no), (2, .mp 0)] → Nx ⟨env, [.mp et'] ++ v, 48⟩ := fun env j' et' v h1 h2 h3 => Nxh _ (j', et') h1 h2 ⟨h3, by cbv, okS_t h1.2.2.1 rfl, rfl⟩
    clear Nxh
    cbv
    repeat' (first
      | with_reducible exact id
      | exact trivial
      | (with_reducible refine look_t hJ hE ?_ ?_ <;> intro hin <;> cbv)
      | (with_reducible refine look_f hJ hE ?_; intro hin)
      | (with_reducible refine op_is hJ hos ho hoes ?_; cbv)
      | (with_reducible refine op_in hJ hos ?_; intro ok op of oa oes oil hoes hop; cbv)
      | (with_reducible refine ed_in hJ hes ?_; intro xf xp hed; cbv)
      | (with_reducible refine ed_in hJ hoes ?_; intro xf xp hed; cbv)
      | intro hh
      | with_reducible refine And.intro ?_ ?_
      | (with_reducible first | refine awp_go ?_ | refine aops_go ?_ | refine strip_go ?_ | refine draw_go ?_ | refine frames_go ?_); cbv)
    all_goals first
      | (refine hN _ j1 _ _ ⟨?_, ?_, put_t hJ hE hin (tk_succ j0 hj1 hed), dup_t hD hin (tk_succ j0 hj1 hed)⟩ ?_ ?_ <;> first | (with_reducible refine wkEnv_go' ?_; cbv; clear h hN; subst hJ; simp only [std, stdOps] at *; grind [wrap64]) | (clear h hN; subst hJ; simp only [std, stdOps] at *; grind [wrap64]))
      | (refine h 53 _ ?_ (fun hc => absurd hc (by decide)); rw [if_neg hf0, if_neg hf1, if_neg hf2, if_pos (in_t hin hed)])
      | (have e := tk_all (T := T) hM (k := j) (by clear h hN; subst hJ; simp only [std, stdOps] at *; grind); rw [e] at hE hD; refine h 0 _ (by rw [if_neg hf0, if_neg hf1, if_neg hf2, if_neg (fun hc => hc hD)]) (fun _ => ?_); have kk := ren_t (g := idx [0]) hE; revert kk; clear hE hN; cases et <;> exact id)
      | (clear h hN; subst hJ; simp only [std, stdOps] at *; exact mok_t hE)
      | (clear h hN; subst hJ; simp only [std, stdOps] at *; grind)

end Go.Proofs.Ytilffanmaicakaa.A

/- ContainsFunc over the sources. -/
namespace Go.Proofs.Ytilffanmaicakaa.A
open Go Go.Pt Go.Gr

def tabC : Nat → Ty := fun t => match Nat.beq t 65 with | true => { tab t with md := 2 } | false => tab t
theorem tabC_ok : TabOk Try.prog tabC := tab_ok.md 65 2 (by decide)

/-- A row of N counts. -/
def RowI (xs : List AV) (c : Nat → Int) (N : Int) : Prop := (xs.length : Int) = N ∧ ∀ p : Nat, (p : Int) < N → xs[p]? = some (.int .i64 (c p))

theorem rep_row {J : Jd} {n₀ : Nat} (hJ : J = std Try.prog n₀) {N : Int} (h : 0 ≤ N) : RowI (J.o.rep N (.int .i64 0)) (fun _ => 0) N := by
  subst hJ
  refine ⟨by simp [std, stdOps]; omega, fun p hp => ?_⟩
  simp only [std, stdOps, List.getElem?_replicate]; rw [if_pos (by omega)]
theorem get_row {J : Jd} {n₀ : Nat} (hJ : J = std Try.prog n₀) {xs : List AV} {c : Nat → Int} {N i : Int} (hr : RowI xs c N) (hi : 0 ≤ i ∧ i < N) {K : AV → Prop} (h : K (.int .i64 (c i.toNat))) : ∀ e, J.o.get xs (J.o.sum 0 i) = some e → K e := by
  subst hJ
  intro e he
  have h1 := hr.2 i.toNat (by omega)
  simp only [std, stdOps, Int.zero_add, h1] at he
  simp at he; subst he; exact h
theorem upd_row {J : Jd} {n₀ : Nat} (hJ : J = std Try.prog n₀) {xs : List AV} {c c' : Nat → Int} {N i v : Int} (hr : RowI xs c N) (_hi : 0 ≤ i ∧ i < N) (hc : ∀ q, c' q = if q = i.toNat then v else c q) : RowI (J.o.upd xs (J.o.sum 0 i) (.int .i64 v)) c' N := by
  subst hJ
  have hl := hr.1
  refine ⟨by simp [std, stdOps]; omega, fun p hp => ?_⟩
  simp only [std, stdOps, Int.zero_add, List.getElem?_set, hc]
  by_cases h : i.toNat = p
  · subst h; rw [if_pos rfl, if_pos (by omega), if_pos rfl]
  · rw [if_neg h, if_neg (fun e => h e.symm)]; exact hr.2 p hp
theorem len_row {J : Jd} {n₀ : Nat} (hJ : J = std Try.prog n₀) {xs : List AV} {c : Nat → Int} {N : Int} (hr : RowI xs c N) : J.o.len xs = N := by subst hJ; exact hr.1

set_option maxHeartbeats 8000000 in
set_option maxRecDepth 100000 in
theorem neq1_call (x : Int) (K E) (h : K (.bool (decide (x ≠ 1))) []) : CallA Try.prog 67 [.int .i64 x] [] K E := by
  refine call_fn (n₀ := 0) tab_ok [] Try.func67 rfl rfl rfl rfl (by decide) ?_
  intro J hJ
  cbv
  refine fit_bool h ?_
  subst hJ; simp [std, stdOps, bne]
  rw [Bool.eq_iff_iff]; simp
theorem neq1_at {J : Jd} {n₀ : Nat} (hJ : J = std Try.prog n₀) {x : Int} {σ K E} (h : ∀ r', r' = decide (x ≠ 1) → K (.bool r') σ) : J.call 67 [.int .i64 x] σ K E := call_pure hJ (neq1_call x) (h _ rfl)

set_option maxHeartbeats 8000000 in
set_option maxRecDepth 100000 in
theorem index1_call (xs : List AV) (c : Nat → Int) (N : Int) (hr : RowI xs c N) (hN : 0 ≤ N ∧ N ≤ 4) (K E) (h : ∀ r, -1 ≤ r → (0 ≤ r ↔ ∃ p : Nat, (p : Int) < N ∧ c p ≠ 1) → K (.int .i64 r) [.vec 1 xs]) :
    CallA Try.prog 102 [.vs 0 1 0 N N, .func 67 []] [.vec 1 xs] K E := by
  refine call_fn (n₀ := 1) tabC_ok [] Try.func102 rfl rfl rfl rfl (by simp [rangeN, snoc]) ?_
  intro J hJ
  have hlen := len_row hJ hr
  cbv
  refine loop_at (β := Int) hJ tabC_ok (fun | j => ⟨[(8, .int .i64 j), (7, .int .i64 N), (1, .func 67 []), (0, .vs 0 1 0 N N)], [.vec 1 xs], 19⟩) (fun | j => (0 ≤ j) ∧ (j ≤ N) ∧ (∀ p : Nat, (p : Int) < j → c p = 1)) (fun | j => (N + 1 - j).toNat) 0 ?_ ?_ ?_ ?_
  · exact ⟨Int.le_refl _, hN.1, fun p hp => by omega⟩
  · refine ⟨?_, ?_, rfl, rfl⟩
    · cbv
      try exact ⟨rfl, trivial⟩
    · cbv
  · rintro j; exact Nat.le_of_ble_eq_true rfl
  rintro j hinv Nx Nxh
  obtain ⟨j0, jM, ja⟩ : (0 ≤ j) ∧ (j ≤ N) ∧ (∀ p : Nat, (p : Int) < j → c p = 1) := hinv
  obtain ⟨j1, hj1⟩ : ∃ j1 : Int, j1 = j + 1 := ⟨_, rfl⟩
  have hM : ∀ env (j' : Int) v, (0 ≤ j') ∧ (j' ≤ N) ∧ (∀ p : Nat, (p : Int) < j' → c p = 1) → (N + 1 - j').toNat < (N + 1 - j).toNat → wkEnv env [(8, .int .i64 j'), (7, .int .i64 N), (1, .func 67 []), (0, .vs 0 1 0 N N)] → Nx ⟨env, [.vec 1 xs] ++ v, 19⟩ := fun env j' v h1 h2 h3 => Nxh _ j' h1 h2 ⟨h3, by cbv, rfl, rfl⟩
  clear Nxh
  cbv
  repeat' (first
    | with_reducible exact id
    | exact trivial
    | (with_reducible refine get_row hJ hr ?_ ?_; rotate_left 1; cbv)
    | (with_reducible refine neq1_at hJ ?_; intros)
    | (with_reducible refine op_is hJ hos ho hoes ?_; cbv)
    | (with_reducible refine op_in hJ hos ?_; intro ok op of oa oes oil hoes hop; cbv)
    | (with_reducible refine ed_in hJ hes ?_; intro xf xp hed; cbv)
    | (with_reducible refine ed_in hJ hoes ?_; intro xf xp hed; cbv)
    | intro hh
    | with_reducible refine And.intro ?_ ?_
    | (with_reducible first | refine awp_go ?_ | refine aops_go ?_ | refine strip_go ?_ | refine draw_go ?_ | refine frames_go ?_); cbv)
  all_goals first
    | (refine hM _ j1 _ ⟨?_, ?_, ?_⟩ ?_ ?_ <;> first | (with_reducible refine wkEnv_go' ?_; cbv; clear h hM; subst hJ; simp only [std, stdOps] at *; grind [wrap64]) | (intro p hp; clear h hM; subst hJ; simp only [std, stdOps] at *; grind) | (clear h hM; subst hJ; simp only [std, stdOps] at *; grind [wrap64]))
    | (refine h _ ?_ ?_ <;> clear h hM <;> subst hJ <;> simp only [std, stdOps] at * <;> first | omega | grind)
    | (clear h hM; subst hJ; simp only [std, stdOps] at *; grind)
theorem index1_at {J : Jd} (hJ : J = std Try.prog 1) {xs : List AV} {c : Nat → Int} {N : Int} (hr : RowI xs c N) (hN : 0 ≤ N ∧ N ≤ 4) {K E} (h : ∀ r, -1 ≤ r → (0 ≤ r ↔ ∃ p : Nat, (p : Int) < N ∧ c p ≠ 1) → K (.int .i64 r) [.vec 1 xs]) :
    J.call 102 [.vs 0 1 0 N N, .func 67 []] [.vec 1 xs] K E := by subst hJ; exact index1_call xs c N hr hN K E h

set_option maxHeartbeats 8000000 in
set_option maxRecDepth 100000 in
theorem contains1_call (xs : List AV) (c : Nat → Int) (N : Int) (hr : RowI xs c N) (hN : 0 ≤ N ∧ N ≤ 4) (K E) (h : ∀ r, (r = true ↔ ∃ p : Nat, (p : Int) < N ∧ c p ≠ 1) → K (.bool r) [.vec 1 xs]) :
    CallA Try.prog 66 [.vs 0 1 0 N N, .func 67 []] [.vec 1 xs] K E := by
  refine call_fn (n₀ := 1) tabC_ok [] Try.func66 rfl rfl rfl rfl (by simp [rangeN, snoc]) ?_
  intro J hJ
  cbv
  repeat' (first
    | with_reducible exact id
    | exact trivial
    | (with_reducible refine index1_at hJ hr hN ?_; intro r hr1 hr2; cbv)
    | (with_reducible refine op_is hJ hos ho hoes ?_; cbv)
    | (with_reducible refine op_in hJ hos ?_; intro ok op of oa oes oil hoes hop; cbv)
    | (with_reducible refine ed_in hJ hes ?_; intro xf xp hed; cbv)
    | (with_reducible refine ed_in hJ hoes ?_; intro xf xp hed; cbv)
    | intro hh
    | with_reducible refine And.intro ?_ ?_
    | (with_reducible first | refine awp_go ?_ | refine aops_go ?_ | refine strip_go ?_ | refine draw_go ?_ | refine frames_go ?_); cbv)
  refine h _ ?_
  rw [← hr2]; subst hJ; simp [std, stdOps]

end Go.Proofs.Ytilffanmaicakaa.A
