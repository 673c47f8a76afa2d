/- What each function of the guard, and of its reference, computes. -/
import Derived.Test.YtilffanmaicakaaAmTab
import Derived.Test.YtilffanmaicakaaGdPure
namespace Go.Proofs.Ytilffanmaicakaa.A
open Go Go.Pt Go.Gd

theorem wrap64 {n : Int} (h : -9223372036854775808 ≤ n) (h' : n ≤ 9223372036854775807) : IntKind.i64.wrap n = n := by
  unfold IntKind.wrap
  simp [IntKind.bits, IntKind.signed]
  omega
theorem awp_go {J tab c Q s} (h : awp J tab c Q s) : awp J tab c Q s := h
theorem aops_go {J tab all r s K E} (h : aops J tab all r s K E) : aops J tab all r s K E := h
theorem strip_go {g l s K} (h : strip g l s K) : strip g l s K := h
theorem flat_may (g : G) : (0 ≤ (may g).c ∧ (may g).c ≤ 9007199254740992) ∧ (0 ≤ (may g).e ∧ (may g).e ≤ 9007199254740992) ∧ (0 ≤ (may g).u ∧ (may g).u ≤ 9007199254740992) ∧ (0 ≤ (may g).s ∧ (may g).s ≤ 9007199254740992) ∧ (0 ≤ (may g).a ∧ (may g).a ≤ 9007199254740992) ∧ ((may g).e = 0 → (may g).u = 0) ∧ (may g).u - (may g).c ≤ 12 ∧ (0 ≤ (may g).k ∧ (may g).k ≤ 2) ∧ ((may g).k = 0 → (may g).a = 0) ∧ ((may g).k ≠ 0 → (may g).s ≠ 0 ∧ (may g).a ≤ (may g).c) ∧ ((may g).k = 2 → (may g).e ≠ 0) := by
  obtain ⟨f1, f2, f3, f4, f5, f6, f7, f8, f9, f10, f11, f12, f13, f14, f15, f16, f17⟩ := fine_may g
  exact ⟨⟨f1, f2⟩, ⟨f3, f4⟩, ⟨f5, f6⟩, ⟨f7, f8⟩, ⟨f9, f10⟩, f11, f12, ⟨f13, f14⟩, f15, f16, f17⟩
theorem flat_bel (g : G) (hb : bel g = true) : (0 ≤ g.c ∧ g.c ≤ 9007199254740992) ∧ (0 ≤ g.e ∧ g.e ≤ 9007199254740992) ∧ (0 ≤ g.u ∧ g.u ≤ 9007199254740992) ∧ (0 ≤ g.s ∧ g.s ≤ 9007199254740992) ∧ (0 ≤ g.a ∧ g.a ≤ 9007199254740992) ∧ (g.e = 0 → g.u = 0) ∧ g.u - g.c ≤ 12 ∧ (0 ≤ g.k ∧ g.k ≤ 2) ∧ (g.k = 0 → g.a = 0) ∧ (g.k ≠ 0 → g.s ≠ 0 ∧ g.a ≤ g.c) ∧ (g.k = 2 → g.e ≠ 0) := by
  obtain ⟨f1, f2, f3, f4, f5, f6, f7, f8, f9, f10, f11, f12, f13, f14, f15, f16, f17⟩ := bel_fine g hb
  exact ⟨⟨f1, f2⟩, ⟨f3, f4⟩, ⟨f5, f6⟩, ⟨f7, f8⟩, ⟨f9, f10⟩, f11, f12, ⟨f13, f14⟩, f15, f16, f17⟩
theorem fit_G {K : AV → List Ent → Prop} {σ} {b : G} {c' e' u' s' k' a' : Int} (h : K (.agg [.int .i64 (b).c, .int .i64 (b).e, .int .i64 (b).u, .int .i64 (b).s, .int .i64 (b).k, .int .i64 (b).a]) σ) (he : ⟨c', e', u', s', k', a'⟩ = b) : K (.agg [.int .i64 c', .int .i64 e', .int .i64 u', .int .i64 s', .int .i64 k', .int .i64 a']) σ := by subst he; exact h
theorem fit_GB {K : AV → List Ent → Prop} {σ} {b : G × Bool} {c' e' u' s' k' a' : Int} {r' : Bool} (h : K (.tup [.agg [.int .i64 (b).1.c, .int .i64 (b).1.e, .int .i64 (b).1.u, .int .i64 (b).1.s, .int .i64 (b).1.k, .int .i64 (b).1.a], .bool (b).2]) σ) (he : (⟨c', e', u', s', k', a'⟩, r') = b) : K (.tup [.agg [.int .i64 c', .int .i64 e', .int .i64 u', .int .i64 s', .int .i64 k', .int .i64 a'], .bool r']) σ := by subst he; exact h
theorem fit_GIII {K : AV → List Ent → Prop} {σ} {b : G × Int × Int × Int} {c' e' u' s' k' a' x' y' z' : Int} (h : K (.tup [.agg [.int .i64 (b).1.c, .int .i64 (b).1.e, .int .i64 (b).1.u, .int .i64 (b).1.s, .int .i64 (b).1.k, .int .i64 (b).1.a], .int .i64 (b).2.1, .int .i64 (b).2.2.1, .int .i64 (b).2.2.2]) σ) (he : (⟨c', e', u', s', k', a'⟩, x', y', z') = b) : K (.tup [.agg [.int .i64 c', .int .i64 e', .int .i64 u', .int .i64 s', .int .i64 k', .int .i64 a'], .int .i64 x', .int .i64 y', .int .i64 z']) σ := by subst he; exact h

set_option maxHeartbeats 4000000 in
set_option maxRecDepth 100000 in
theorem num_call (n : Int) (K E) (h : K (.bool (Gd.num n)) []) : CallA Try.prog 57 [.int .i64 n] [] K E := by
  refine call_fn tab_ok [] Try.func57 rfl rfl rfl rfl (by decide) ?_
  intro J hJ
  cbv
  repeat' (first
    | with_reducible exact id
    | intro hh
    | with_reducible refine fit_bool h ?_
    | with_reducible refine And.intro ?_ ?_
    | (with_reducible first | refine awp_go ?_ | refine aops_go ?_ | refine strip_go ?_); cbv)
  all_goals subst hJ
  all_goals try simp only [std, stdOps] at *
  all_goals first | grind [Gd.num] | (simp only [Gd.num, G.mk.injEq, Prod.mk.injEq]; grind [Gd.num])
theorem num_at {J : Jd} {n₀ : Nat} (hJ : J = std Try.prog n₀) {n : Int} {σ K E} (h : ∀ (r' : Bool), r' = Gd.num n → K (.bool r') σ) : J.call 57 [.int .i64 n] σ K E := call_pure hJ (num_call n) (h _ rfl)
theorem num_pure {J : Jd} {n₀ : Nat} (hJ : J = std Try.prog n₀) {n : Int} {K : AV → Prop} (h : ∀ (r' : Bool), r' = Gd.num n → K (.bool r')) : J.pure 57 [.int .i64 n] K := pure_at hJ (num_call n) (fun _ => rfl) (h _ rfl)

set_option maxHeartbeats 4000000 in
set_option maxRecDepth 100000 in
theorem num'_call (n : Int) (K E) (h : K (.bool (Gd.num n)) []) : CallA Try.prog 59 [.int .i64 n] [] K E := by
  refine call_fn tab_ok [] Try.func59 rfl rfl rfl rfl (by decide) ?_
  intro J hJ
  cbv
  repeat' (first
    | with_reducible exact id
    | intro hh
    | with_reducible refine fit_bool h ?_
    | with_reducible refine And.intro ?_ ?_
    | (with_reducible first | refine awp_go ?_ | refine aops_go ?_ | refine strip_go ?_); cbv)
  all_goals subst hJ
  all_goals try simp only [std, stdOps] at *
  all_goals first | grind [Gd.num] | (simp only [Gd.num, G.mk.injEq, Prod.mk.injEq]; grind [Gd.num])
theorem num'_at {J : Jd} {n₀ : Nat} (hJ : J = std Try.prog n₀) {n : Int} {σ K E} (h : ∀ (r' : Bool), r' = Gd.num n → K (.bool r') σ) : J.call 59 [.int .i64 n] σ K E := call_pure hJ (num'_call n) (h _ rfl)
theorem num'_pure {J : Jd} {n₀ : Nat} (hJ : J = std Try.prog n₀) {n : Int} {K : AV → Prop} (h : ∀ (r' : Bool), r' = Gd.num n → K (.bool r')) : J.pure 59 [.int .i64 n] K := pure_at hJ (num'_call n) (fun _ => rfl) (h _ rfl)

set_option maxHeartbeats 4000000 in
set_option maxRecDepth 100000 in
theorem chk_call (c e u s k a : Int) (K E) (h : K (.int .i64 (Gd.chk ⟨c, e, u, s, k, a⟩)) []) : CallA Try.prog 13 [.agg [.int .i64 c, .int .i64 e, .int .i64 u, .int .i64 s, .int .i64 k, .int .i64 a]] [] K E := by
  refine call_fn tab_ok [] Try.func13 rfl rfl rfl rfl (by decide) ?_
  intro J hJ
  cbv
  repeat' (first
    | with_reducible exact id
    | intro hh
    | with_reducible refine fit_int h ?_
    | (with_reducible refine num_at hJ  ?_; intros)
    | with_reducible refine And.intro ?_ ?_
    | (with_reducible first | refine awp_go ?_ | refine aops_go ?_ | refine strip_go ?_); cbv)
  all_goals subst hJ
  all_goals try simp only [std, stdOps] at *
  all_goals first | grind [Gd.chk, Gd.ok, Gd.num, wrap64] | (simp only [Gd.chk, Gd.ok, Gd.num, G.mk.injEq, Prod.mk.injEq]; grind [Gd.chk, Gd.ok, Gd.num, wrap64])
theorem chk_at {J : Jd} {n₀ : Nat} (hJ : J = std Try.prog n₀) {c e u s k a : Int} {σ K E} (h : ∀ (r' : Int), r' = Gd.chk ⟨c, e, u, s, k, a⟩ → K (.int .i64 r') σ) : J.call 13 [.agg [.int .i64 c, .int .i64 e, .int .i64 u, .int .i64 s, .int .i64 k, .int .i64 a]] σ K E := call_pure hJ (chk_call c e u s k a) (h _ rfl)
theorem chk_pure {J : Jd} {n₀ : Nat} (hJ : J = std Try.prog n₀) {c e u s k a : Int} {K : AV → Prop} (h : ∀ (r' : Int), r' = Gd.chk ⟨c, e, u, s, k, a⟩ → K (.int .i64 r')) : J.pure 13 [.agg [.int .i64 c, .int .i64 e, .int .i64 u, .int .i64 s, .int .i64 k, .int .i64 a]] K := pure_at hJ (chk_call c e u s k a) (fun _ => rfl) (h _ rfl)

set_option maxHeartbeats 4000000 in
set_option maxRecDepth 100000 in
theorem chk'_call (c e u s k a : Int) (K E) (h : K (.int .i64 (Gd.chk ⟨c, e, u, s, k, a⟩)) []) : CallA Try.prog 17 [.agg [.int .i64 c, .int .i64 e, .int .i64 u, .int .i64 s, .int .i64 k, .int .i64 a]] [] K E := by
  refine call_fn tab_ok [] Try.func17 rfl rfl rfl rfl (by decide) ?_
  intro J hJ
  cbv
  repeat' (first
    | with_reducible exact id
    | intro hh
    | with_reducible refine fit_int h ?_
    | (with_reducible refine num'_at hJ  ?_; intros)
    | with_reducible refine And.intro ?_ ?_
    | (with_reducible first | refine awp_go ?_ | refine aops_go ?_ | refine strip_go ?_); cbv)
  all_goals subst hJ
  all_goals try simp only [std, stdOps] at *
  all_goals first | grind [Gd.chk, Gd.ok, Gd.num, wrap64] | (simp only [Gd.chk, Gd.ok, Gd.num, G.mk.injEq, Prod.mk.injEq]; grind [Gd.chk, Gd.ok, Gd.num, wrap64])
theorem chk'_at {J : Jd} {n₀ : Nat} (hJ : J = std Try.prog n₀) {c e u s k a : Int} {σ K E} (h : ∀ (r' : Int), r' = Gd.chk ⟨c, e, u, s, k, a⟩ → K (.int .i64 r') σ) : J.call 17 [.agg [.int .i64 c, .int .i64 e, .int .i64 u, .int .i64 s, .int .i64 k, .int .i64 a]] σ K E := call_pure hJ (chk'_call c e u s k a) (h _ rfl)
theorem chk'_pure {J : Jd} {n₀ : Nat} (hJ : J = std Try.prog n₀) {c e u s k a : Int} {K : AV → Prop} (h : ∀ (r' : Int), r' = Gd.chk ⟨c, e, u, s, k, a⟩ → K (.int .i64 r')) : J.pure 17 [.agg [.int .i64 c, .int .i64 e, .int .i64 u, .int .i64 s, .int .i64 k, .int .i64 a]] K := pure_at hJ (chk'_call c e u s k a) (fun _ => rfl) (h _ rfl)

set_option maxHeartbeats 4000000 in
set_option maxRecDepth 100000 in
theorem new_call  (K E) (h : K (.agg [.int .i64 (Gd.zero).c, .int .i64 (Gd.zero).e, .int .i64 (Gd.zero).u, .int .i64 (Gd.zero).s, .int .i64 (Gd.zero).k, .int .i64 (Gd.zero).a]) []) : CallA Try.prog 16 [] [] K E := by
  refine call_fn tab_ok [] Try.func16 rfl rfl rfl rfl (by decide) ?_
  intro J hJ
  cbv
  repeat' (first
    | with_reducible exact id
    | intro hh
    | with_reducible refine fit_G h ?_
    | with_reducible refine And.intro ?_ ?_
    | (with_reducible first | refine awp_go ?_ | refine aops_go ?_ | refine strip_go ?_); cbv)
  all_goals subst hJ
  all_goals try simp only [std, stdOps] at *
  all_goals first | grind [Gd.zero] | (simp only [Gd.zero, G.mk.injEq, Prod.mk.injEq]; grind [Gd.zero])
theorem new_at {J : Jd} {n₀ : Nat} (hJ : J = std Try.prog n₀)  {σ K E} (h : ∀ (c' e' u' s' k' a' : Int), ⟨c', e', u', s', k', a'⟩ = Gd.zero → K (.agg [.int .i64 c', .int .i64 e', .int .i64 u', .int .i64 s', .int .i64 k', .int .i64 a']) σ) : J.call 16 [] σ K E := call_pure hJ (new_call ) (h _ _ _ _ _ _ rfl)
theorem new_pure {J : Jd} {n₀ : Nat} (hJ : J = std Try.prog n₀)  {K : AV → Prop} (h : ∀ (c' e' u' s' k' a' : Int), ⟨c', e', u', s', k', a'⟩ = Gd.zero → K (.agg [.int .i64 c', .int .i64 e', .int .i64 u', .int .i64 s', .int .i64 k', .int .i64 a'])) : J.pure 16 [] K := pure_at hJ (new_call ) (fun _ => rfl) (h _ _ _ _ _ _ rfl)

set_option maxHeartbeats 4000000 in
set_option maxRecDepth 100000 in
theorem may_call (c e u s k a : Int) (K E) (h : K (.agg [.int .i64 (Gd.may ⟨c, e, u, s, k, a⟩).c, .int .i64 (Gd.may ⟨c, e, u, s, k, a⟩).e, .int .i64 (Gd.may ⟨c, e, u, s, k, a⟩).u, .int .i64 (Gd.may ⟨c, e, u, s, k, a⟩).s, .int .i64 (Gd.may ⟨c, e, u, s, k, a⟩).k, .int .i64 (Gd.may ⟨c, e, u, s, k, a⟩).a]) []) : CallA Try.prog 58 [.agg [.int .i64 c, .int .i64 e, .int .i64 u, .int .i64 s, .int .i64 k, .int .i64 a]] [] K E := by
  refine call_fn tab_ok [] Try.func58 rfl rfl rfl rfl (by decide) ?_
  intro J hJ
  cbv
  repeat' (first
    | with_reducible exact id
    | intro hh
    | with_reducible refine fit_G h ?_
    | (with_reducible refine chk_at hJ  ?_; intros)
    | (with_reducible refine new_at hJ  ?_; intros)
    | with_reducible refine And.intro ?_ ?_
    | (with_reducible first | refine awp_go ?_ | refine aops_go ?_ | refine strip_go ?_); cbv)
  all_goals subst hJ
  all_goals try simp only [std, stdOps] at *
  all_goals first | grind [Gd.may] | (simp only [Gd.may, G.mk.injEq, Prod.mk.injEq]; grind [Gd.may])
theorem may_at {J : Jd} {n₀ : Nat} (hJ : J = std Try.prog n₀) {c e u s k a : Int} {σ K E} (h : ∀ (c' e' u' s' k' a' : Int), ⟨c', e', u', s', k', a'⟩ = Gd.may ⟨c, e, u, s, k, a⟩ → ((0 ≤ c' ∧ c' ≤ 9007199254740992) ∧ (0 ≤ e' ∧ e' ≤ 9007199254740992) ∧ (0 ≤ u' ∧ u' ≤ 9007199254740992) ∧ (0 ≤ s' ∧ s' ≤ 9007199254740992) ∧ (0 ≤ a' ∧ a' ≤ 9007199254740992) ∧ (e' = 0 → u' = 0) ∧ u' - c' ≤ 12 ∧ (0 ≤ k' ∧ k' ≤ 2) ∧ (k' = 0 → a' = 0) ∧ (k' ≠ 0 → s' ≠ 0 ∧ a' ≤ c') ∧ (k' = 2 → e' ≠ 0)) → may ⟨c', e', u', s', k', a'⟩ = ⟨c', e', u', s', k', a'⟩ → K (.agg [.int .i64 c', .int .i64 e', .int .i64 u', .int .i64 s', .int .i64 k', .int .i64 a']) σ) : J.call 58 [.agg [.int .i64 c, .int .i64 e, .int .i64 u, .int .i64 s, .int .i64 k, .int .i64 a]] σ K E := call_pure hJ (may_call c e u s k a) (h _ _ _ _ _ _ rfl (flat_may _) (may_may _))
theorem may_pure {J : Jd} {n₀ : Nat} (hJ : J = std Try.prog n₀) {c e u s k a : Int} {K : AV → Prop} (h : ∀ (c' e' u' s' k' a' : Int), ⟨c', e', u', s', k', a'⟩ = Gd.may ⟨c, e, u, s, k, a⟩ → ((0 ≤ c' ∧ c' ≤ 9007199254740992) ∧ (0 ≤ e' ∧ e' ≤ 9007199254740992) ∧ (0 ≤ u' ∧ u' ≤ 9007199254740992) ∧ (0 ≤ s' ∧ s' ≤ 9007199254740992) ∧ (0 ≤ a' ∧ a' ≤ 9007199254740992) ∧ (e' = 0 → u' = 0) ∧ u' - c' ≤ 12 ∧ (0 ≤ k' ∧ k' ≤ 2) ∧ (k' = 0 → a' = 0) ∧ (k' ≠ 0 → s' ≠ 0 ∧ a' ≤ c') ∧ (k' = 2 → e' ≠ 0)) → may ⟨c', e', u', s', k', a'⟩ = ⟨c', e', u', s', k', a'⟩ → K (.agg [.int .i64 c', .int .i64 e', .int .i64 u', .int .i64 s', .int .i64 k', .int .i64 a'])) : J.pure 58 [.agg [.int .i64 c, .int .i64 e, .int .i64 u, .int .i64 s, .int .i64 k, .int .i64 a]] K := pure_at hJ (may_call c e u s k a) (fun _ => rfl) (h _ _ _ _ _ _ rfl (flat_may _) (may_may _))

set_option maxHeartbeats 4000000 in
set_option maxRecDepth 100000 in
theorem may'_call (c e u s k a : Int) (K E) (h : K (.agg [.int .i64 (Gd.may ⟨c, e, u, s, k, a⟩).c, .int .i64 (Gd.may ⟨c, e, u, s, k, a⟩).e, .int .i64 (Gd.may ⟨c, e, u, s, k, a⟩).u, .int .i64 (Gd.may ⟨c, e, u, s, k, a⟩).s, .int .i64 (Gd.may ⟨c, e, u, s, k, a⟩).k, .int .i64 (Gd.may ⟨c, e, u, s, k, a⟩).a]) []) : CallA Try.prog 60 [.agg [.int .i64 c, .int .i64 e, .int .i64 u, .int .i64 s, .int .i64 k, .int .i64 a]] [] K E := by
  refine call_fn tab_ok [] Try.func60 rfl rfl rfl rfl (by decide) ?_
  intro J hJ
  cbv
  repeat' (first
    | with_reducible exact id
    | intro hh
    | with_reducible refine fit_G h ?_
    | (with_reducible refine chk'_at hJ  ?_; intros)
    | with_reducible refine And.intro ?_ ?_
    | (with_reducible first | refine awp_go ?_ | refine aops_go ?_ | refine strip_go ?_); cbv)
  all_goals subst hJ
  all_goals try simp only [std, stdOps] at *
  all_goals first | grind [Gd.may, Gd.zero] | (simp only [Gd.may, Gd.zero, G.mk.injEq, Prod.mk.injEq]; grind [Gd.may, Gd.zero])
theorem may'_at {J : Jd} {n₀ : Nat} (hJ : J = std Try.prog n₀) {c e u s k a : Int} {σ K E} (h : ∀ (c' e' u' s' k' a' : Int), ⟨c', e', u', s', k', a'⟩ = Gd.may ⟨c, e, u, s, k, a⟩ → ((0 ≤ c' ∧ c' ≤ 9007199254740992) ∧ (0 ≤ e' ∧ e' ≤ 9007199254740992) ∧ (0 ≤ u' ∧ u' ≤ 9007199254740992) ∧ (0 ≤ s' ∧ s' ≤ 9007199254740992) ∧ (0 ≤ a' ∧ a' ≤ 9007199254740992) ∧ (e' = 0 → u' = 0) ∧ u' - c' ≤ 12 ∧ (0 ≤ k' ∧ k' ≤ 2) ∧ (k' = 0 → a' = 0) ∧ (k' ≠ 0 → s' ≠ 0 ∧ a' ≤ c') ∧ (k' = 2 → e' ≠ 0)) → may ⟨c', e', u', s', k', a'⟩ = ⟨c', e', u', s', k', a'⟩ → K (.agg [.int .i64 c', .int .i64 e', .int .i64 u', .int .i64 s', .int .i64 k', .int .i64 a']) σ) : J.call 60 [.agg [.int .i64 c, .int .i64 e, .int .i64 u, .int .i64 s, .int .i64 k, .int .i64 a]] σ K E := call_pure hJ (may'_call c e u s k a) (h _ _ _ _ _ _ rfl (flat_may _) (may_may _))
theorem may'_pure {J : Jd} {n₀ : Nat} (hJ : J = std Try.prog n₀) {c e u s k a : Int} {K : AV → Prop} (h : ∀ (c' e' u' s' k' a' : Int), ⟨c', e', u', s', k', a'⟩ = Gd.may ⟨c, e, u, s, k, a⟩ → ((0 ≤ c' ∧ c' ≤ 9007199254740992) ∧ (0 ≤ e' ∧ e' ≤ 9007199254740992) ∧ (0 ≤ u' ∧ u' ≤ 9007199254740992) ∧ (0 ≤ s' ∧ s' ≤ 9007199254740992) ∧ (0 ≤ a' ∧ a' ≤ 9007199254740992) ∧ (e' = 0 → u' = 0) ∧ u' - c' ≤ 12 ∧ (0 ≤ k' ∧ k' ≤ 2) ∧ (k' = 0 → a' = 0) ∧ (k' ≠ 0 → s' ≠ 0 ∧ a' ≤ c') ∧ (k' = 2 → e' ≠ 0)) → may ⟨c', e', u', s', k', a'⟩ = ⟨c', e', u', s', k', a'⟩ → K (.agg [.int .i64 c', .int .i64 e', .int .i64 u', .int .i64 s', .int .i64 k', .int .i64 a'])) : J.pure 60 [.agg [.int .i64 c, .int .i64 e, .int .i64 u, .int .i64 s, .int .i64 k, .int .i64 a]] K := pure_at hJ (may'_call c e u s k a) (fun _ => rfl) (h _ _ _ _ _ _ rfl (flat_may _) (may_may _))

set_option maxHeartbeats 4000000 in
set_option maxRecDepth 100000 in
theorem more_call (x y : Int) (hs0 : 0 ≤ x ∧ x ≤ 9007199254740992) (hs1 : 0 ≤ y) (K E) (h : K (.int .i64 (Gd.more x y)) []) : CallA Try.prog 93 [.int .i64 x, .int .i64 y] [] K E := by
  refine call_fn tab_ok [] Try.func93 rfl rfl rfl rfl (by decide) ?_
  intro J hJ
  cbv
  repeat' (first
    | with_reducible exact id
    | intro hh
    | with_reducible refine fit_int h ?_
    | with_reducible refine And.intro ?_ ?_
    | (with_reducible first | refine awp_go ?_ | refine aops_go ?_ | refine strip_go ?_); cbv)
  all_goals subst hJ
  all_goals try simp only [std, stdOps] at *
  all_goals first | grind [Gd.more, wrap64] | (simp only [Gd.more, G.mk.injEq, Prod.mk.injEq]; grind [Gd.more, wrap64])
theorem more_at {J : Jd} {n₀ : Nat} (hJ : J = std Try.prog n₀) {x y : Int} (hs0 : 0 ≤ x ∧ x ≤ 9007199254740992) (hs1 : 0 ≤ y) {σ K E} (h : ∀ (r' : Int), r' = Gd.more x y → K (.int .i64 r') σ) : J.call 93 [.int .i64 x, .int .i64 y] σ K E := call_pure hJ (more_call x y hs0 hs1) (h _ rfl)
theorem more_pure {J : Jd} {n₀ : Nat} (hJ : J = std Try.prog n₀) {x y : Int} (hs0 : 0 ≤ x ∧ x ≤ 9007199254740992) (hs1 : 0 ≤ y) {K : AV → Prop} (h : ∀ (r' : Int), r' = Gd.more x y → K (.int .i64 r')) : J.pure 93 [.int .i64 x, .int .i64 y] K := pure_at hJ (more_call x y hs0 hs1) (fun _ => rfl) (h _ rfl)

set_option maxHeartbeats 4000000 in
set_option maxRecDepth 100000 in
theorem tick_call (c e u s k a : Int) (n : Int) (K E) (h : K (.agg [.int .i64 (Gd.tick ⟨c, e, u, s, k, a⟩ n).c, .int .i64 (Gd.tick ⟨c, e, u, s, k, a⟩ n).e, .int .i64 (Gd.tick ⟨c, e, u, s, k, a⟩ n).u, .int .i64 (Gd.tick ⟨c, e, u, s, k, a⟩ n).s, .int .i64 (Gd.tick ⟨c, e, u, s, k, a⟩ n).k, .int .i64 (Gd.tick ⟨c, e, u, s, k, a⟩ n).a]) []) : CallA Try.prog 46 [.agg [.int .i64 c, .int .i64 e, .int .i64 u, .int .i64 s, .int .i64 k, .int .i64 a], .int .i64 n] [] K E := by
  refine call_fn tab_ok [] Try.func46 rfl rfl rfl rfl (by decide) ?_
  intro J hJ
  cbv
  repeat' (first
    | with_reducible exact id
    | intro hh
    | with_reducible refine fit_G h ?_
    | (with_reducible refine may_at hJ  ?_; intros)
    | (with_reducible refine more_at hJ ?_ ?_ ?_; intros)
    | with_reducible refine And.intro ?_ ?_
    | (with_reducible first | refine awp_go ?_ | refine aops_go ?_ | refine strip_go ?_); cbv)
  all_goals subst hJ
  all_goals try simp only [std, stdOps] at *
  all_goals first | grind [Gd.tick, Gd.more] | (simp only [Gd.tick, Gd.more, G.mk.injEq, Prod.mk.injEq]; grind [Gd.tick, Gd.more])
theorem tick_at {J : Jd} {n₀ : Nat} (hJ : J = std Try.prog n₀) {c e u s k a : Int} {n : Int} {σ K E} (h : ∀ (c' e' u' s' k' a' : Int), ⟨c', e', u', s', k', a'⟩ = Gd.tick ⟨c, e, u, s, k, a⟩ n → K (.agg [.int .i64 c', .int .i64 e', .int .i64 u', .int .i64 s', .int .i64 k', .int .i64 a']) σ) : J.call 46 [.agg [.int .i64 c, .int .i64 e, .int .i64 u, .int .i64 s, .int .i64 k, .int .i64 a], .int .i64 n] σ K E := call_pure hJ (tick_call c e u s k a n) (h _ _ _ _ _ _ rfl)
theorem tick_pure {J : Jd} {n₀ : Nat} (hJ : J = std Try.prog n₀) {c e u s k a : Int} {n : Int} {K : AV → Prop} (h : ∀ (c' e' u' s' k' a' : Int), ⟨c', e', u', s', k', a'⟩ = Gd.tick ⟨c, e, u, s, k, a⟩ n → K (.agg [.int .i64 c', .int .i64 e', .int .i64 u', .int .i64 s', .int .i64 k', .int .i64 a'])) : J.pure 46 [.agg [.int .i64 c, .int .i64 e, .int .i64 u, .int .i64 s, .int .i64 k, .int .i64 a], .int .i64 n] K := pure_at hJ (tick_call c e u s k a n) (fun _ => rfl) (h _ _ _ _ _ _ rfl)

set_option maxHeartbeats 4000000 in
set_option maxRecDepth 100000 in
theorem tick'_call (c e u s k a : Int) (n : Int) (K E) (h : K (.agg [.int .i64 (Gd.tick ⟨c, e, u, s, k, a⟩ n).c, .int .i64 (Gd.tick ⟨c, e, u, s, k, a⟩ n).e, .int .i64 (Gd.tick ⟨c, e, u, s, k, a⟩ n).u, .int .i64 (Gd.tick ⟨c, e, u, s, k, a⟩ n).s, .int .i64 (Gd.tick ⟨c, e, u, s, k, a⟩ n).k, .int .i64 (Gd.tick ⟨c, e, u, s, k, a⟩ n).a]) []) : CallA Try.prog 48 [.agg [.int .i64 c, .int .i64 e, .int .i64 u, .int .i64 s, .int .i64 k, .int .i64 a], .int .i64 n] [] K E := by
  refine call_fn tab_ok [] Try.func48 rfl rfl rfl rfl (by decide) ?_
  intro J hJ
  cbv
  repeat' (first
    | with_reducible exact id
    | intro hh
    | with_reducible refine fit_G h ?_
    | (with_reducible refine may'_at hJ  ?_; intros)
    | with_reducible refine And.intro ?_ ?_
    | (with_reducible first | refine awp_go ?_ | refine aops_go ?_ | refine strip_go ?_); cbv)
  all_goals subst hJ
  all_goals try simp only [std, stdOps] at *
  all_goals first | grind [Gd.tick, Gd.more, wrap64] | (simp only [Gd.tick, Gd.more, G.mk.injEq, Prod.mk.injEq]; grind [Gd.tick, Gd.more, wrap64])
theorem tick'_at {J : Jd} {n₀ : Nat} (hJ : J = std Try.prog n₀) {c e u s k a : Int} {n : Int} {σ K E} (h : ∀ (c' e' u' s' k' a' : Int), ⟨c', e', u', s', k', a'⟩ = Gd.tick ⟨c, e, u, s, k, a⟩ n → K (.agg [.int .i64 c', .int .i64 e', .int .i64 u', .int .i64 s', .int .i64 k', .int .i64 a']) σ) : J.call 48 [.agg [.int .i64 c, .int .i64 e, .int .i64 u, .int .i64 s, .int .i64 k, .int .i64 a], .int .i64 n] σ K E := call_pure hJ (tick'_call c e u s k a n) (h _ _ _ _ _ _ rfl)
theorem tick'_pure {J : Jd} {n₀ : Nat} (hJ : J = std Try.prog n₀) {c e u s k a : Int} {n : Int} {K : AV → Prop} (h : ∀ (c' e' u' s' k' a' : Int), ⟨c', e', u', s', k', a'⟩ = Gd.tick ⟨c, e, u, s, k, a⟩ n → K (.agg [.int .i64 c', .int .i64 e', .int .i64 u', .int .i64 s', .int .i64 k', .int .i64 a'])) : J.pure 48 [.agg [.int .i64 c, .int .i64 e, .int .i64 u, .int .i64 s, .int .i64 k, .int .i64 a], .int .i64 n] K := pure_at hJ (tick'_call c e u s k a n) (fun _ => rfl) (h _ _ _ _ _ _ rfl)

set_option maxHeartbeats 4000000 in
set_option maxRecDepth 100000 in
theorem bel_call (c e u s k a : Int) (K E) (h : K (.bool (Gd.bel ⟨c, e, u, s, k, a⟩)) []) : CallA Try.prog 14 [.agg [.int .i64 c, .int .i64 e, .int .i64 u, .int .i64 s, .int .i64 k, .int .i64 a]] [] K E := by
  refine call_fn tab_ok [] Try.func14 rfl rfl rfl rfl (by decide) ?_
  intro J hJ
  cbv
  repeat' (first
    | with_reducible exact id
    | intro hh
    | with_reducible refine fit_bool h ?_
    | (with_reducible refine may_at hJ  ?_; intros)
    | with_reducible refine And.intro ?_ ?_
    | (with_reducible first | refine awp_go ?_ | refine aops_go ?_ | refine strip_go ?_); cbv)
  all_goals subst hJ
  all_goals try simp only [std, stdOps] at *
  all_goals first | grind [Gd.bel] | (simp only [Gd.bel, G.mk.injEq, Prod.mk.injEq]; grind [Gd.bel])
theorem bel_at {J : Jd} {n₀ : Nat} (hJ : J = std Try.prog n₀) {c e u s k a : Int} {σ K E} (h : ∀ (r' : Bool), r' = Gd.bel ⟨c, e, u, s, k, a⟩ → (r' = true → (0 ≤ c ∧ c ≤ 9007199254740992) ∧ (0 ≤ e ∧ e ≤ 9007199254740992) ∧ (0 ≤ u ∧ u ≤ 9007199254740992) ∧ (0 ≤ s ∧ s ≤ 9007199254740992) ∧ (0 ≤ a ∧ a ≤ 9007199254740992) ∧ (e = 0 → u = 0) ∧ u - c ≤ 12 ∧ (0 ≤ k ∧ k ≤ 2) ∧ (k = 0 → a = 0) ∧ (k ≠ 0 → s ≠ 0 ∧ a ≤ c) ∧ (k = 2 → e ≠ 0)) → K (.bool r') σ) : J.call 14 [.agg [.int .i64 c, .int .i64 e, .int .i64 u, .int .i64 s, .int .i64 k, .int .i64 a]] σ K E := call_pure hJ (bel_call c e u s k a) (h _ rfl (flat_bel _))
theorem bel_pure {J : Jd} {n₀ : Nat} (hJ : J = std Try.prog n₀) {c e u s k a : Int} {K : AV → Prop} (h : ∀ (r' : Bool), r' = Gd.bel ⟨c, e, u, s, k, a⟩ → (r' = true → (0 ≤ c ∧ c ≤ 9007199254740992) ∧ (0 ≤ e ∧ e ≤ 9007199254740992) ∧ (0 ≤ u ∧ u ≤ 9007199254740992) ∧ (0 ≤ s ∧ s ≤ 9007199254740992) ∧ (0 ≤ a ∧ a ≤ 9007199254740992) ∧ (e = 0 → u = 0) ∧ u - c ≤ 12 ∧ (0 ≤ k ∧ k ≤ 2) ∧ (k = 0 → a = 0) ∧ (k ≠ 0 → s ≠ 0 ∧ a ≤ c) ∧ (k = 2 → e ≠ 0)) → K (.bool r')) : J.pure 14 [.agg [.int .i64 c, .int .i64 e, .int .i64 u, .int .i64 s, .int .i64 k, .int .i64 a]] K := pure_at hJ (bel_call c e u s k a) (fun _ => rfl) (h _ rfl (flat_bel _))

set_option maxHeartbeats 4000000 in
set_option maxRecDepth 100000 in
theorem bel'_call (c e u s k a : Int) (K E) (h : K (.bool (Gd.bel ⟨c, e, u, s, k, a⟩)) []) : CallA Try.prog 18 [.agg [.int .i64 c, .int .i64 e, .int .i64 u, .int .i64 s, .int .i64 k, .int .i64 a]] [] K E := by
  refine call_fn tab_ok [] Try.func18 rfl rfl rfl rfl (by decide) ?_
  intro J hJ
  cbv
  repeat' (first
    | with_reducible exact id
    | intro hh
    | with_reducible refine fit_bool h ?_
    | (with_reducible refine may'_at hJ  ?_; intros)
    | with_reducible refine And.intro ?_ ?_
    | (with_reducible first | refine awp_go ?_ | refine aops_go ?_ | refine strip_go ?_); cbv)
  all_goals subst hJ
  all_goals try simp only [std, stdOps] at *
  all_goals first | grind [Gd.bel] | (simp only [Gd.bel, G.mk.injEq, Prod.mk.injEq]; grind [Gd.bel])
theorem bel'_at {J : Jd} {n₀ : Nat} (hJ : J = std Try.prog n₀) {c e u s k a : Int} {σ K E} (h : ∀ (r' : Bool), r' = Gd.bel ⟨c, e, u, s, k, a⟩ → (r' = true → (0 ≤ c ∧ c ≤ 9007199254740992) ∧ (0 ≤ e ∧ e ≤ 9007199254740992) ∧ (0 ≤ u ∧ u ≤ 9007199254740992) ∧ (0 ≤ s ∧ s ≤ 9007199254740992) ∧ (0 ≤ a ∧ a ≤ 9007199254740992) ∧ (e = 0 → u = 0) ∧ u - c ≤ 12 ∧ (0 ≤ k ∧ k ≤ 2) ∧ (k = 0 → a = 0) ∧ (k ≠ 0 → s ≠ 0 ∧ a ≤ c) ∧ (k = 2 → e ≠ 0)) → K (.bool r') σ) : J.call 18 [.agg [.int .i64 c, .int .i64 e, .int .i64 u, .int .i64 s, .int .i64 k, .int .i64 a]] σ K E := call_pure hJ (bel'_call c e u s k a) (h _ rfl (flat_bel _))
theorem bel'_pure {J : Jd} {n₀ : Nat} (hJ : J = std Try.prog n₀) {c e u s k a : Int} {K : AV → Prop} (h : ∀ (r' : Bool), r' = Gd.bel ⟨c, e, u, s, k, a⟩ → (r' = true → (0 ≤ c ∧ c ≤ 9007199254740992) ∧ (0 ≤ e ∧ e ≤ 9007199254740992) ∧ (0 ≤ u ∧ u ≤ 9007199254740992) ∧ (0 ≤ s ∧ s ≤ 9007199254740992) ∧ (0 ≤ a ∧ a ≤ 9007199254740992) ∧ (e = 0 → u = 0) ∧ u - c ≤ 12 ∧ (0 ≤ k ∧ k ≤ 2) ∧ (k = 0 → a = 0) ∧ (k ≠ 0 → s ≠ 0 ∧ a ≤ c) ∧ (k = 2 → e ≠ 0)) → K (.bool r')) : J.pure 18 [.agg [.int .i64 c, .int .i64 e, .int .i64 u, .int .i64 s, .int .i64 k, .int .i64 a]] K := pure_at hJ (bel'_call c e u s k a) (fun _ => rfl) (h _ rfl (flat_bel _))

set_option maxHeartbeats 4000000 in
set_option maxRecDepth 100000 in
theorem left_call (c e u s k a : Int) (K E) (h : K (.int .i64 (Gd.left ⟨c, e, u, s, k, a⟩)) []) : CallA Try.prog 15 [.agg [.int .i64 c, .int .i64 e, .int .i64 u, .int .i64 s, .int .i64 k, .int .i64 a]] [] K E := by
  refine call_fn tab_ok [] Try.func15 rfl rfl rfl rfl (by decide) ?_
  intro J hJ
  cbv
  repeat' (first
    | with_reducible exact id
    | intro hh
    | with_reducible refine fit_int h ?_
    | (with_reducible refine bel_at hJ  ?_; intros)
    | with_reducible refine And.intro ?_ ?_
    | (with_reducible first | refine awp_go ?_ | refine aops_go ?_ | refine strip_go ?_); cbv)
  all_goals subst hJ
  all_goals try simp only [std, stdOps] at *
  all_goals first | grind [Gd.left, wrap64] | (simp only [Gd.left, G.mk.injEq, Prod.mk.injEq]; grind [Gd.left, wrap64])
theorem left_at {J : Jd} {n₀ : Nat} (hJ : J = std Try.prog n₀) {c e u s k a : Int} {σ K E} (h : ∀ (r' : Int), r' = Gd.left ⟨c, e, u, s, k, a⟩ → K (.int .i64 r') σ) : J.call 15 [.agg [.int .i64 c, .int .i64 e, .int .i64 u, .int .i64 s, .int .i64 k, .int .i64 a]] σ K E := call_pure hJ (left_call c e u s k a) (h _ rfl)
theorem left_pure {J : Jd} {n₀ : Nat} (hJ : J = std Try.prog n₀) {c e u s k a : Int} {K : AV → Prop} (h : ∀ (r' : Int), r' = Gd.left ⟨c, e, u, s, k, a⟩ → K (.int .i64 r')) : J.pure 15 [.agg [.int .i64 c, .int .i64 e, .int .i64 u, .int .i64 s, .int .i64 k, .int .i64 a]] K := pure_at hJ (left_call c e u s k a) (fun _ => rfl) (h _ rfl)

set_option maxHeartbeats 4000000 in
set_option maxRecDepth 100000 in
theorem left'_call (c e u s k a : Int) (K E) (h : K (.int .i64 (Gd.left ⟨c, e, u, s, k, a⟩)) []) : CallA Try.prog 19 [.agg [.int .i64 c, .int .i64 e, .int .i64 u, .int .i64 s, .int .i64 k, .int .i64 a]] [] K E := by
  refine call_fn tab_ok [] Try.func19 rfl rfl rfl rfl (by decide) ?_
  intro J hJ
  cbv
  repeat' (first
    | with_reducible exact id
    | intro hh
    | with_reducible refine fit_int h ?_
    | (with_reducible refine bel'_at hJ  ?_; intros)
    | with_reducible refine And.intro ?_ ?_
    | (with_reducible first | refine awp_go ?_ | refine aops_go ?_ | refine strip_go ?_); cbv)
  all_goals subst hJ
  all_goals try simp only [std, stdOps] at *
  all_goals first | grind [Gd.left, wrap64] | (simp only [Gd.left, G.mk.injEq, Prod.mk.injEq]; grind [Gd.left, wrap64])
theorem left'_at {J : Jd} {n₀ : Nat} (hJ : J = std Try.prog n₀) {c e u s k a : Int} {σ K E} (h : ∀ (r' : Int), r' = Gd.left ⟨c, e, u, s, k, a⟩ → K (.int .i64 r') σ) : J.call 19 [.agg [.int .i64 c, .int .i64 e, .int .i64 u, .int .i64 s, .int .i64 k, .int .i64 a]] σ K E := call_pure hJ (left'_call c e u s k a) (h _ rfl)
theorem left'_pure {J : Jd} {n₀ : Nat} (hJ : J = std Try.prog n₀) {c e u s k a : Int} {K : AV → Prop} (h : ∀ (r' : Int), r' = Gd.left ⟨c, e, u, s, k, a⟩ → K (.int .i64 r')) : J.pure 19 [.agg [.int .i64 c, .int .i64 e, .int .i64 u, .int .i64 s, .int .i64 k, .int .i64 a]] K := pure_at hJ (left'_call c e u s k a) (fun _ => rfl) (h _ rfl)

set_option maxHeartbeats 4000000 in
set_option maxRecDepth 100000 in
theorem silent_call (c e u s k a : Int) (hs0 : 0 ≤ c ∧ c ≤ 9007199254740992 ∧ 0 ≤ a ∧ a ≤ 9007199254740992) (K E) (h : K (.bool (Gd.silent ⟨c, e, u, s, k, a⟩)) []) : CallA Try.prog 61 [.agg [.int .i64 c, .int .i64 e, .int .i64 u, .int .i64 s, .int .i64 k, .int .i64 a]] [] K E := by
  refine call_fn tab_ok [] Try.func61 rfl rfl rfl rfl (by decide) ?_
  intro J hJ
  cbv
  repeat' (first
    | with_reducible exact id
    | intro hh
    | with_reducible refine fit_bool h ?_
    | with_reducible refine And.intro ?_ ?_
    | (with_reducible first | refine awp_go ?_ | refine aops_go ?_ | refine strip_go ?_); cbv)
  all_goals subst hJ
  all_goals try simp only [std, stdOps] at *
  all_goals first | grind [Gd.silent, wrap64] | (simp only [Gd.silent, G.mk.injEq, Prod.mk.injEq]; grind [Gd.silent, wrap64])
theorem silent_at {J : Jd} {n₀ : Nat} (hJ : J = std Try.prog n₀) {c e u s k a : Int} (hs0 : 0 ≤ c ∧ c ≤ 9007199254740992 ∧ 0 ≤ a ∧ a ≤ 9007199254740992) {σ K E} (h : ∀ (r' : Bool), r' = Gd.silent ⟨c, e, u, s, k, a⟩ → K (.bool r') σ) : J.call 61 [.agg [.int .i64 c, .int .i64 e, .int .i64 u, .int .i64 s, .int .i64 k, .int .i64 a]] σ K E := call_pure hJ (silent_call c e u s k a hs0) (h _ rfl)
theorem silent_pure {J : Jd} {n₀ : Nat} (hJ : J = std Try.prog n₀) {c e u s k a : Int} (hs0 : 0 ≤ c ∧ c ≤ 9007199254740992 ∧ 0 ≤ a ∧ a ≤ 9007199254740992) {K : AV → Prop} (h : ∀ (r' : Bool), r' = Gd.silent ⟨c, e, u, s, k, a⟩ → K (.bool r')) : J.pure 61 [.agg [.int .i64 c, .int .i64 e, .int .i64 u, .int .i64 s, .int .i64 k, .int .i64 a]] K := pure_at hJ (silent_call c e u s k a hs0) (fun _ => rfl) (h _ rfl)

set_option maxHeartbeats 4000000 in
set_option maxRecDepth 100000 in
theorem due_call (c e u s k a : Int) (K E) (h : K (.bool (Gd.due ⟨c, e, u, s, k, a⟩)) []) : CallA Try.prog 20 [.agg [.int .i64 c, .int .i64 e, .int .i64 u, .int .i64 s, .int .i64 k, .int .i64 a]] [] K E := by
  refine call_fn tab_ok [] Try.func20 rfl rfl rfl rfl (by decide) ?_
  intro J hJ
  cbv
  repeat' (first
    | with_reducible exact id
    | intro hh
    | with_reducible refine fit_bool h ?_
    | (with_reducible refine may_at hJ  ?_; intros)
    | (with_reducible refine left_at hJ  ?_; intros)
    | (with_reducible refine silent_at hJ ?_ ?_; intros)
    | with_reducible refine And.intro ?_ ?_
    | (with_reducible first | refine awp_go ?_ | refine aops_go ?_ | refine strip_go ?_); cbv)
  all_goals subst hJ
  all_goals try simp only [std, stdOps] at *
  all_goals first | grind [Gd.due] | (simp only [Gd.due, G.mk.injEq, Prod.mk.injEq]; grind [Gd.due])
theorem due_at {J : Jd} {n₀ : Nat} (hJ : J = std Try.prog n₀) {c e u s k a : Int} {σ K E} (h : ∀ (r' : Bool), r' = Gd.due ⟨c, e, u, s, k, a⟩ → K (.bool r') σ) : J.call 20 [.agg [.int .i64 c, .int .i64 e, .int .i64 u, .int .i64 s, .int .i64 k, .int .i64 a]] σ K E := call_pure hJ (due_call c e u s k a) (h _ rfl)
theorem due_pure {J : Jd} {n₀ : Nat} (hJ : J = std Try.prog n₀) {c e u s k a : Int} {K : AV → Prop} (h : ∀ (r' : Bool), r' = Gd.due ⟨c, e, u, s, k, a⟩ → K (.bool r')) : J.pure 20 [.agg [.int .i64 c, .int .i64 e, .int .i64 u, .int .i64 s, .int .i64 k, .int .i64 a]] K := pure_at hJ (due_call c e u s k a) (fun _ => rfl) (h _ rfl)

set_option maxHeartbeats 4000000 in
set_option maxRecDepth 100000 in
theorem due'_call (c e u s k a : Int) (K E) (h : K (.bool (Gd.due ⟨c, e, u, s, k, a⟩)) []) : CallA Try.prog 21 [.agg [.int .i64 c, .int .i64 e, .int .i64 u, .int .i64 s, .int .i64 k, .int .i64 a]] [] K E := by
  refine call_fn tab_ok [] Try.func21 rfl rfl rfl rfl (by decide) ?_
  intro J hJ
  cbv
  repeat' (first
    | with_reducible exact id
    | intro hh
    | with_reducible refine fit_bool h ?_
    | (with_reducible refine may'_at hJ  ?_; intros)
    | (with_reducible refine left'_at hJ  ?_; intros)
    | with_reducible refine And.intro ?_ ?_
    | (with_reducible first | refine awp_go ?_ | refine aops_go ?_ | refine strip_go ?_); cbv)
  all_goals subst hJ
  all_goals try simp only [std, stdOps] at *
  all_goals first | grind [Gd.due, Gd.silent, wrap64] | (simp only [Gd.due, Gd.silent, G.mk.injEq, Prod.mk.injEq]; grind [Gd.due, Gd.silent, wrap64])
theorem due'_at {J : Jd} {n₀ : Nat} (hJ : J = std Try.prog n₀) {c e u s k a : Int} {σ K E} (h : ∀ (r' : Bool), r' = Gd.due ⟨c, e, u, s, k, a⟩ → K (.bool r') σ) : J.call 21 [.agg [.int .i64 c, .int .i64 e, .int .i64 u, .int .i64 s, .int .i64 k, .int .i64 a]] σ K E := call_pure hJ (due'_call c e u s k a) (h _ rfl)
theorem due'_pure {J : Jd} {n₀ : Nat} (hJ : J = std Try.prog n₀) {c e u s k a : Int} {K : AV → Prop} (h : ∀ (r' : Bool), r' = Gd.due ⟨c, e, u, s, k, a⟩ → K (.bool r')) : J.pure 21 [.agg [.int .i64 c, .int .i64 e, .int .i64 u, .int .i64 s, .int .i64 k, .int .i64 a]] K := pure_at hJ (due'_call c e u s k a) (fun _ => rfl) (h _ rfl)

set_option maxHeartbeats 4000000 in
set_option maxRecDepth 100000 in
theorem ask_call (c e u s k a : Int) (K E) (h : K (.tup [.agg [.int .i64 (Gd.ask ⟨c, e, u, s, k, a⟩).1.c, .int .i64 (Gd.ask ⟨c, e, u, s, k, a⟩).1.e, .int .i64 (Gd.ask ⟨c, e, u, s, k, a⟩).1.u, .int .i64 (Gd.ask ⟨c, e, u, s, k, a⟩).1.s, .int .i64 (Gd.ask ⟨c, e, u, s, k, a⟩).1.k, .int .i64 (Gd.ask ⟨c, e, u, s, k, a⟩).1.a], .int .i64 (Gd.ask ⟨c, e, u, s, k, a⟩).2.1, .int .i64 (Gd.ask ⟨c, e, u, s, k, a⟩).2.2.1, .int .i64 (Gd.ask ⟨c, e, u, s, k, a⟩).2.2.2]) []) : CallA Try.prog 45 [.agg [.int .i64 c, .int .i64 e, .int .i64 u, .int .i64 s, .int .i64 k, .int .i64 a]] [] K E := by
  refine call_fn tab_ok [] Try.func45 rfl rfl rfl rfl (by decide) ?_
  intro J hJ
  cbv
  repeat' (first
    | with_reducible exact id
    | intro hh
    | with_reducible refine fit_GIII h ?_
    | (with_reducible refine may_at hJ  ?_; intros)
    | (with_reducible refine silent_at hJ ?_ ?_; intros)
    | with_reducible refine And.intro ?_ ?_
    | (with_reducible first | refine awp_go ?_ | refine aops_go ?_ | refine strip_go ?_); cbv)
  all_goals subst hJ
  all_goals try simp only [std, stdOps] at *
  all_goals first | grind [Gd.ask, Gd.asked, wrap64] | (simp only [Gd.ask, Gd.asked, G.mk.injEq, Prod.mk.injEq]; grind [Gd.ask, Gd.asked, wrap64])
theorem ask_at {J : Jd} {n₀ : Nat} (hJ : J = std Try.prog n₀) {c e u s k a : Int} {σ K E} (h : ∀ (c' e' u' s' k' a' x' y' z' : Int), (⟨c', e', u', s', k', a'⟩, x', y', z') = Gd.ask ⟨c, e, u, s, k, a⟩ → K (.tup [.agg [.int .i64 c', .int .i64 e', .int .i64 u', .int .i64 s', .int .i64 k', .int .i64 a'], .int .i64 x', .int .i64 y', .int .i64 z']) σ) : J.call 45 [.agg [.int .i64 c, .int .i64 e, .int .i64 u, .int .i64 s, .int .i64 k, .int .i64 a]] σ K E := call_pure hJ (ask_call c e u s k a) (h _ _ _ _ _ _ _ _ _ rfl)
theorem ask_pure {J : Jd} {n₀ : Nat} (hJ : J = std Try.prog n₀) {c e u s k a : Int} {K : AV → Prop} (h : ∀ (c' e' u' s' k' a' x' y' z' : Int), (⟨c', e', u', s', k', a'⟩, x', y', z') = Gd.ask ⟨c, e, u, s, k, a⟩ → K (.tup [.agg [.int .i64 c', .int .i64 e', .int .i64 u', .int .i64 s', .int .i64 k', .int .i64 a'], .int .i64 x', .int .i64 y', .int .i64 z'])) : J.pure 45 [.agg [.int .i64 c, .int .i64 e, .int .i64 u, .int .i64 s, .int .i64 k, .int .i64 a]] K := pure_at hJ (ask_call c e u s k a) (fun _ => rfl) (h _ _ _ _ _ _ _ _ _ rfl)

set_option maxHeartbeats 4000000 in
set_option maxRecDepth 100000 in
theorem ask'_call (c e u s k a : Int) (K E) (h : K (.tup [.agg [.int .i64 (Gd.ask ⟨c, e, u, s, k, a⟩).1.c, .int .i64 (Gd.ask ⟨c, e, u, s, k, a⟩).1.e, .int .i64 (Gd.ask ⟨c, e, u, s, k, a⟩).1.u, .int .i64 (Gd.ask ⟨c, e, u, s, k, a⟩).1.s, .int .i64 (Gd.ask ⟨c, e, u, s, k, a⟩).1.k, .int .i64 (Gd.ask ⟨c, e, u, s, k, a⟩).1.a], .int .i64 (Gd.ask ⟨c, e, u, s, k, a⟩).2.1, .int .i64 (Gd.ask ⟨c, e, u, s, k, a⟩).2.2.1, .int .i64 (Gd.ask ⟨c, e, u, s, k, a⟩).2.2.2]) []) : CallA Try.prog 49 [.agg [.int .i64 c, .int .i64 e, .int .i64 u, .int .i64 s, .int .i64 k, .int .i64 a]] [] K E := by
  refine call_fn tab_ok [] Try.func49 rfl rfl rfl rfl (by decide) ?_
  intro J hJ
  cbv
  repeat' (first
    | with_reducible exact id
    | intro hh
    | with_reducible refine fit_GIII h ?_
    | (with_reducible refine may'_at hJ  ?_; intros)
    | with_reducible refine And.intro ?_ ?_
    | (with_reducible first | refine awp_go ?_ | refine aops_go ?_ | refine strip_go ?_); cbv)
  all_goals subst hJ
  all_goals try simp only [std, stdOps] at *
  all_goals first | grind [Gd.ask, Gd.asked, Gd.silent, wrap64] | (simp only [Gd.ask, Gd.asked, Gd.silent, G.mk.injEq, Prod.mk.injEq]; grind [Gd.ask, Gd.asked, Gd.silent, wrap64])
theorem ask'_at {J : Jd} {n₀ : Nat} (hJ : J = std Try.prog n₀) {c e u s k a : Int} {σ K E} (h : ∀ (c' e' u' s' k' a' x' y' z' : Int), (⟨c', e', u', s', k', a'⟩, x', y', z') = Gd.ask ⟨c, e, u, s, k, a⟩ → K (.tup [.agg [.int .i64 c', .int .i64 e', .int .i64 u', .int .i64 s', .int .i64 k', .int .i64 a'], .int .i64 x', .int .i64 y', .int .i64 z']) σ) : J.call 49 [.agg [.int .i64 c, .int .i64 e, .int .i64 u, .int .i64 s, .int .i64 k, .int .i64 a]] σ K E := call_pure hJ (ask'_call c e u s k a) (h _ _ _ _ _ _ _ _ _ rfl)
theorem ask'_pure {J : Jd} {n₀ : Nat} (hJ : J = std Try.prog n₀) {c e u s k a : Int} {K : AV → Prop} (h : ∀ (c' e' u' s' k' a' x' y' z' : Int), (⟨c', e', u', s', k', a'⟩, x', y', z') = Gd.ask ⟨c, e, u, s, k, a⟩ → K (.tup [.agg [.int .i64 c', .int .i64 e', .int .i64 u', .int .i64 s', .int .i64 k', .int .i64 a'], .int .i64 x', .int .i64 y', .int .i64 z'])) : J.pure 49 [.agg [.int .i64 c, .int .i64 e, .int .i64 u, .int .i64 s, .int .i64 k, .int .i64 a]] K := pure_at hJ (ask'_call c e u s k a) (fun _ => rfl) (h _ _ _ _ _ _ _ _ _ rfl)

set_option maxHeartbeats 4000000 in
set_option maxRecDepth 100000 in
theorem yield_call (c e u s k a : Int) (K E) (h : K (.agg [.int .i64 (Gd.yield ⟨c, e, u, s, k, a⟩).c, .int .i64 (Gd.yield ⟨c, e, u, s, k, a⟩).e, .int .i64 (Gd.yield ⟨c, e, u, s, k, a⟩).u, .int .i64 (Gd.yield ⟨c, e, u, s, k, a⟩).s, .int .i64 (Gd.yield ⟨c, e, u, s, k, a⟩).k, .int .i64 (Gd.yield ⟨c, e, u, s, k, a⟩).a]) []) : CallA Try.prog 53 [.agg [.int .i64 c, .int .i64 e, .int .i64 u, .int .i64 s, .int .i64 k, .int .i64 a]] [] K E := by
  refine call_fn tab_ok [] Try.func53 rfl rfl rfl rfl (by decide) ?_
  intro J hJ
  cbv
  repeat' (first
    | with_reducible exact id
    | intro hh
    | with_reducible refine fit_G h ?_
    | (with_reducible refine may_at hJ  ?_; intros)
    | with_reducible refine And.intro ?_ ?_
    | (with_reducible first | refine awp_go ?_ | refine aops_go ?_ | refine strip_go ?_); cbv)
  all_goals subst hJ
  all_goals try simp only [std, stdOps] at *
  all_goals first | grind [Gd.yield] | (simp only [Gd.yield, G.mk.injEq, Prod.mk.injEq]; grind [Gd.yield])
theorem yield_at {J : Jd} {n₀ : Nat} (hJ : J = std Try.prog n₀) {c e u s k a : Int} {σ K E} (h : ∀ (c' e' u' s' k' a' : Int), ⟨c', e', u', s', k', a'⟩ = Gd.yield ⟨c, e, u, s, k, a⟩ → K (.agg [.int .i64 c', .int .i64 e', .int .i64 u', .int .i64 s', .int .i64 k', .int .i64 a']) σ) : J.call 53 [.agg [.int .i64 c, .int .i64 e, .int .i64 u, .int .i64 s, .int .i64 k, .int .i64 a]] σ K E := call_pure hJ (yield_call c e u s k a) (h _ _ _ _ _ _ rfl)
theorem yield_pure {J : Jd} {n₀ : Nat} (hJ : J = std Try.prog n₀) {c e u s k a : Int} {K : AV → Prop} (h : ∀ (c' e' u' s' k' a' : Int), ⟨c', e', u', s', k', a'⟩ = Gd.yield ⟨c, e, u, s, k, a⟩ → K (.agg [.int .i64 c', .int .i64 e', .int .i64 u', .int .i64 s', .int .i64 k', .int .i64 a'])) : J.pure 53 [.agg [.int .i64 c, .int .i64 e, .int .i64 u, .int .i64 s, .int .i64 k, .int .i64 a]] K := pure_at hJ (yield_call c e u s k a) (fun _ => rfl) (h _ _ _ _ _ _ rfl)

set_option maxHeartbeats 4000000 in
set_option maxRecDepth 100000 in
theorem yield'_call (c e u s k a : Int) (K E) (h : K (.agg [.int .i64 (Gd.yield ⟨c, e, u, s, k, a⟩).c, .int .i64 (Gd.yield ⟨c, e, u, s, k, a⟩).e, .int .i64 (Gd.yield ⟨c, e, u, s, k, a⟩).u, .int .i64 (Gd.yield ⟨c, e, u, s, k, a⟩).s, .int .i64 (Gd.yield ⟨c, e, u, s, k, a⟩).k, .int .i64 (Gd.yield ⟨c, e, u, s, k, a⟩).a]) []) : CallA Try.prog 54 [.agg [.int .i64 c, .int .i64 e, .int .i64 u, .int .i64 s, .int .i64 k, .int .i64 a]] [] K E := by
  refine call_fn tab_ok [] Try.func54 rfl rfl rfl rfl (by decide) ?_
  intro J hJ
  cbv
  repeat' (first
    | with_reducible exact id
    | intro hh
    | with_reducible refine fit_G h ?_
    | (with_reducible refine may'_at hJ  ?_; intros)
    | with_reducible refine And.intro ?_ ?_
    | (with_reducible first | refine awp_go ?_ | refine aops_go ?_ | refine strip_go ?_); cbv)
  all_goals subst hJ
  all_goals try simp only [std, stdOps] at *
  all_goals first | grind [Gd.yield] | (simp only [Gd.yield, G.mk.injEq, Prod.mk.injEq]; grind [Gd.yield])
theorem yield'_at {J : Jd} {n₀ : Nat} (hJ : J = std Try.prog n₀) {c e u s k a : Int} {σ K E} (h : ∀ (c' e' u' s' k' a' : Int), ⟨c', e', u', s', k', a'⟩ = Gd.yield ⟨c, e, u, s, k, a⟩ → K (.agg [.int .i64 c', .int .i64 e', .int .i64 u', .int .i64 s', .int .i64 k', .int .i64 a']) σ) : J.call 54 [.agg [.int .i64 c, .int .i64 e, .int .i64 u, .int .i64 s, .int .i64 k, .int .i64 a]] σ K E := call_pure hJ (yield'_call c e u s k a) (h _ _ _ _ _ _ rfl)
theorem yield'_pure {J : Jd} {n₀ : Nat} (hJ : J = std Try.prog n₀) {c e u s k a : Int} {K : AV → Prop} (h : ∀ (c' e' u' s' k' a' : Int), ⟨c', e', u', s', k', a'⟩ = Gd.yield ⟨c, e, u, s, k, a⟩ → K (.agg [.int .i64 c', .int .i64 e', .int .i64 u', .int .i64 s', .int .i64 k', .int .i64 a'])) : J.pure 54 [.agg [.int .i64 c, .int .i64 e, .int .i64 u, .int .i64 s, .int .i64 k, .int .i64 a]] K := pure_at hJ (yield'_call c e u s k a) (fun _ => rfl) (h _ _ _ _ _ _ rfl)

set_option maxHeartbeats 4000000 in
set_option maxRecDepth 100000 in
theorem above_call (c e u s k a : Int) (n : Int) (K E) (h : K (.agg [.int .i64 (Gd.above ⟨c, e, u, s, k, a⟩ n).c, .int .i64 (Gd.above ⟨c, e, u, s, k, a⟩ n).e, .int .i64 (Gd.above ⟨c, e, u, s, k, a⟩ n).u, .int .i64 (Gd.above ⟨c, e, u, s, k, a⟩ n).s, .int .i64 (Gd.above ⟨c, e, u, s, k, a⟩ n).k, .int .i64 (Gd.above ⟨c, e, u, s, k, a⟩ n).a]) []) : CallA Try.prog 55 [.agg [.int .i64 c, .int .i64 e, .int .i64 u, .int .i64 s, .int .i64 k, .int .i64 a], .int .i64 n] [] K E := by
  refine call_fn tab_ok [] Try.func55 rfl rfl rfl rfl (by decide) ?_
  intro J hJ
  cbv
  repeat' (first
    | with_reducible exact id
    | intro hh
    | with_reducible refine fit_G h ?_
    | (with_reducible refine may_at hJ  ?_; intros)
    | (with_reducible refine yield_at hJ  ?_; intros)
    | with_reducible refine And.intro ?_ ?_
    | (with_reducible first | refine awp_go ?_ | refine aops_go ?_ | refine strip_go ?_); cbv)
  all_goals subst hJ
  all_goals try simp only [std, stdOps] at *
  all_goals first | grind [Gd.above, Gd.yield] | (simp only [Gd.above, Gd.yield, G.mk.injEq, Prod.mk.injEq]; grind [Gd.above, Gd.yield])
theorem above_at {J : Jd} {n₀ : Nat} (hJ : J = std Try.prog n₀) {c e u s k a : Int} {n : Int} {σ K E} (h : ∀ (c' e' u' s' k' a' : Int), ⟨c', e', u', s', k', a'⟩ = Gd.above ⟨c, e, u, s, k, a⟩ n → K (.agg [.int .i64 c', .int .i64 e', .int .i64 u', .int .i64 s', .int .i64 k', .int .i64 a']) σ) : J.call 55 [.agg [.int .i64 c, .int .i64 e, .int .i64 u, .int .i64 s, .int .i64 k, .int .i64 a], .int .i64 n] σ K E := call_pure hJ (above_call c e u s k a n) (h _ _ _ _ _ _ rfl)
theorem above_pure {J : Jd} {n₀ : Nat} (hJ : J = std Try.prog n₀) {c e u s k a : Int} {n : Int} {K : AV → Prop} (h : ∀ (c' e' u' s' k' a' : Int), ⟨c', e', u', s', k', a'⟩ = Gd.above ⟨c, e, u, s, k, a⟩ n → K (.agg [.int .i64 c', .int .i64 e', .int .i64 u', .int .i64 s', .int .i64 k', .int .i64 a'])) : J.pure 55 [.agg [.int .i64 c, .int .i64 e, .int .i64 u, .int .i64 s, .int .i64 k, .int .i64 a], .int .i64 n] K := pure_at hJ (above_call c e u s k a n) (fun _ => rfl) (h _ _ _ _ _ _ rfl)

set_option maxHeartbeats 4000000 in
set_option maxRecDepth 100000 in
theorem above'_call (c e u s k a : Int) (n : Int) (K E) (h : K (.agg [.int .i64 (Gd.above ⟨c, e, u, s, k, a⟩ n).c, .int .i64 (Gd.above ⟨c, e, u, s, k, a⟩ n).e, .int .i64 (Gd.above ⟨c, e, u, s, k, a⟩ n).u, .int .i64 (Gd.above ⟨c, e, u, s, k, a⟩ n).s, .int .i64 (Gd.above ⟨c, e, u, s, k, a⟩ n).k, .int .i64 (Gd.above ⟨c, e, u, s, k, a⟩ n).a]) []) : CallA Try.prog 56 [.agg [.int .i64 c, .int .i64 e, .int .i64 u, .int .i64 s, .int .i64 k, .int .i64 a], .int .i64 n] [] K E := by
  refine call_fn tab_ok [] Try.func56 rfl rfl rfl rfl (by decide) ?_
  intro J hJ
  cbv
  repeat' (first
    | with_reducible exact id
    | intro hh
    | with_reducible refine fit_G h ?_
    | (with_reducible refine may'_at hJ  ?_; intros)
    | (with_reducible refine yield'_at hJ  ?_; intros)
    | with_reducible refine And.intro ?_ ?_
    | (with_reducible first | refine awp_go ?_ | refine aops_go ?_ | refine strip_go ?_); cbv)
  all_goals subst hJ
  all_goals try simp only [std, stdOps] at *
  all_goals first | grind [Gd.above, Gd.yield] | (simp only [Gd.above, Gd.yield, G.mk.injEq, Prod.mk.injEq]; grind [Gd.above, Gd.yield])
theorem above'_at {J : Jd} {n₀ : Nat} (hJ : J = std Try.prog n₀) {c e u s k a : Int} {n : Int} {σ K E} (h : ∀ (c' e' u' s' k' a' : Int), ⟨c', e', u', s', k', a'⟩ = Gd.above ⟨c, e, u, s, k, a⟩ n → K (.agg [.int .i64 c', .int .i64 e', .int .i64 u', .int .i64 s', .int .i64 k', .int .i64 a']) σ) : J.call 56 [.agg [.int .i64 c, .int .i64 e, .int .i64 u, .int .i64 s, .int .i64 k, .int .i64 a], .int .i64 n] σ K E := call_pure hJ (above'_call c e u s k a n) (h _ _ _ _ _ _ rfl)
theorem above'_pure {J : Jd} {n₀ : Nat} (hJ : J = std Try.prog n₀) {c e u s k a : Int} {n : Int} {K : AV → Prop} (h : ∀ (c' e' u' s' k' a' : Int), ⟨c', e', u', s', k', a'⟩ = Gd.above ⟨c, e, u, s, k, a⟩ n → K (.agg [.int .i64 c', .int .i64 e', .int .i64 u', .int .i64 s', .int .i64 k', .int .i64 a'])) : J.pure 56 [.agg [.int .i64 c, .int .i64 e, .int .i64 u, .int .i64 s, .int .i64 k, .int .i64 a], .int .i64 n] K := pure_at hJ (above'_call c e u s k a n) (fun _ => rfl) (h _ _ _ _ _ _ rfl)

set_option maxHeartbeats 4000000 in
set_option maxRecDepth 100000 in
theorem refused_call (c e u s k a : Int) (n : Int) (K E) (h : K (.tup [.agg [.int .i64 (Gd.refused ⟨c, e, u, s, k, a⟩ n).1.c, .int .i64 (Gd.refused ⟨c, e, u, s, k, a⟩ n).1.e, .int .i64 (Gd.refused ⟨c, e, u, s, k, a⟩ n).1.u, .int .i64 (Gd.refused ⟨c, e, u, s, k, a⟩ n).1.s, .int .i64 (Gd.refused ⟨c, e, u, s, k, a⟩ n).1.k, .int .i64 (Gd.refused ⟨c, e, u, s, k, a⟩ n).1.a], .bool (Gd.refused ⟨c, e, u, s, k, a⟩ n).2]) []) : CallA Try.prog 51 [.agg [.int .i64 c, .int .i64 e, .int .i64 u, .int .i64 s, .int .i64 k, .int .i64 a], .int .i64 n] [] K E := by
  refine call_fn tab_ok [] Try.func51 rfl rfl rfl rfl (by decide) ?_
  intro J hJ
  cbv
  repeat' (first
    | with_reducible exact id
    | intro hh
    | with_reducible refine fit_GB h ?_
    | (with_reducible refine may_at hJ  ?_; intros)
    | with_reducible refine And.intro ?_ ?_
    | (with_reducible first | refine awp_go ?_ | refine aops_go ?_ | refine strip_go ?_); cbv)
  all_goals subst hJ
  all_goals try simp only [std, stdOps] at *
  all_goals first | grind [Gd.refused] | (simp only [Gd.refused, G.mk.injEq, Prod.mk.injEq]; grind [Gd.refused])
theorem refused_at {J : Jd} {n₀ : Nat} (hJ : J = std Try.prog n₀) {c e u s k a : Int} {n : Int} {σ K E} (h : ∀ (c' e' u' s' k' a' : Int) (r' : Bool), (⟨c', e', u', s', k', a'⟩, r') = Gd.refused ⟨c, e, u, s, k, a⟩ n → K (.tup [.agg [.int .i64 c', .int .i64 e', .int .i64 u', .int .i64 s', .int .i64 k', .int .i64 a'], .bool r']) σ) : J.call 51 [.agg [.int .i64 c, .int .i64 e, .int .i64 u, .int .i64 s, .int .i64 k, .int .i64 a], .int .i64 n] σ K E := call_pure hJ (refused_call c e u s k a n) (h _ _ _ _ _ _ _ rfl)
theorem refused_pure {J : Jd} {n₀ : Nat} (hJ : J = std Try.prog n₀) {c e u s k a : Int} {n : Int} {K : AV → Prop} (h : ∀ (c' e' u' s' k' a' : Int) (r' : Bool), (⟨c', e', u', s', k', a'⟩, r') = Gd.refused ⟨c, e, u, s, k, a⟩ n → K (.tup [.agg [.int .i64 c', .int .i64 e', .int .i64 u', .int .i64 s', .int .i64 k', .int .i64 a'], .bool r'])) : J.pure 51 [.agg [.int .i64 c, .int .i64 e, .int .i64 u, .int .i64 s, .int .i64 k, .int .i64 a], .int .i64 n] K := pure_at hJ (refused_call c e u s k a n) (fun _ => rfl) (h _ _ _ _ _ _ _ rfl)

set_option maxHeartbeats 4000000 in
set_option maxRecDepth 100000 in
theorem refused'_call (c e u s k a : Int) (n : Int) (K E) (h : K (.tup [.agg [.int .i64 (Gd.refused ⟨c, e, u, s, k, a⟩ n).1.c, .int .i64 (Gd.refused ⟨c, e, u, s, k, a⟩ n).1.e, .int .i64 (Gd.refused ⟨c, e, u, s, k, a⟩ n).1.u, .int .i64 (Gd.refused ⟨c, e, u, s, k, a⟩ n).1.s, .int .i64 (Gd.refused ⟨c, e, u, s, k, a⟩ n).1.k, .int .i64 (Gd.refused ⟨c, e, u, s, k, a⟩ n).1.a], .bool (Gd.refused ⟨c, e, u, s, k, a⟩ n).2]) []) : CallA Try.prog 52 [.agg [.int .i64 c, .int .i64 e, .int .i64 u, .int .i64 s, .int .i64 k, .int .i64 a], .int .i64 n] [] K E := by
  refine call_fn tab_ok [] Try.func52 rfl rfl rfl rfl (by decide) ?_
  intro J hJ
  cbv
  repeat' (first
    | with_reducible exact id
    | intro hh
    | with_reducible refine fit_GB h ?_
    | (with_reducible refine may'_at hJ  ?_; intros)
    | (with_reducible refine yield'_at hJ  ?_; intros)
    | with_reducible refine And.intro ?_ ?_
    | (with_reducible first | refine awp_go ?_ | refine aops_go ?_ | refine strip_go ?_); cbv)
  all_goals subst hJ
  all_goals try simp only [std, stdOps] at *
  all_goals first | grind [Gd.refused, Gd.yield] | (simp only [Gd.refused, Gd.yield, G.mk.injEq, Prod.mk.injEq]; grind [Gd.refused, Gd.yield])
theorem refused'_at {J : Jd} {n₀ : Nat} (hJ : J = std Try.prog n₀) {c e u s k a : Int} {n : Int} {σ K E} (h : ∀ (c' e' u' s' k' a' : Int) (r' : Bool), (⟨c', e', u', s', k', a'⟩, r') = Gd.refused ⟨c, e, u, s, k, a⟩ n → K (.tup [.agg [.int .i64 c', .int .i64 e', .int .i64 u', .int .i64 s', .int .i64 k', .int .i64 a'], .bool r']) σ) : J.call 52 [.agg [.int .i64 c, .int .i64 e, .int .i64 u, .int .i64 s, .int .i64 k, .int .i64 a], .int .i64 n] σ K E := call_pure hJ (refused'_call c e u s k a n) (h _ _ _ _ _ _ _ rfl)
theorem refused'_pure {J : Jd} {n₀ : Nat} (hJ : J = std Try.prog n₀) {c e u s k a : Int} {n : Int} {K : AV → Prop} (h : ∀ (c' e' u' s' k' a' : Int) (r' : Bool), (⟨c', e', u', s', k', a'⟩, r') = Gd.refused ⟨c, e, u, s, k, a⟩ n → K (.tup [.agg [.int .i64 c', .int .i64 e', .int .i64 u', .int .i64 s', .int .i64 k', .int .i64 a'], .bool r'])) : J.pure 52 [.agg [.int .i64 c, .int .i64 e, .int .i64 u, .int .i64 s, .int .i64 k, .int .i64 a], .int .i64 n] K := pure_at hJ (refused'_call c e u s k a n) (fun _ => rfl) (h _ _ _ _ _ _ _ rfl)

set_option maxHeartbeats 4000000 in
set_option maxRecDepth 100000 in
theorem granted_call (c e u s k a : Int) (n m : Int) (K E) (h : K (.tup [.agg [.int .i64 (Gd.granted ⟨c, e, u, s, k, a⟩ n m).1.c, .int .i64 (Gd.granted ⟨c, e, u, s, k, a⟩ n m).1.e, .int .i64 (Gd.granted ⟨c, e, u, s, k, a⟩ n m).1.u, .int .i64 (Gd.granted ⟨c, e, u, s, k, a⟩ n m).1.s, .int .i64 (Gd.granted ⟨c, e, u, s, k, a⟩ n m).1.k, .int .i64 (Gd.granted ⟨c, e, u, s, k, a⟩ n m).1.a], .bool (Gd.granted ⟨c, e, u, s, k, a⟩ n m).2]) []) : CallA Try.prog 47 [.agg [.int .i64 c, .int .i64 e, .int .i64 u, .int .i64 s, .int .i64 k, .int .i64 a], .int .i64 n, .int .i64 m] [] K E := by
  refine call_fn tab_ok [] Try.func47 rfl rfl rfl rfl (by decide) ?_
  intro J hJ
  cbv
  repeat' (first
    | with_reducible exact id
    | intro hh
    | with_reducible refine fit_GB h ?_
    | (with_reducible refine may_at hJ  ?_; intros)
    | (with_reducible refine more_at hJ ?_ ?_ ?_; intros)
    | with_reducible refine And.intro ?_ ?_
    | (with_reducible first | refine awp_go ?_ | refine aops_go ?_ | refine strip_go ?_); cbv)
  all_goals subst hJ
  all_goals try simp only [std, stdOps] at *
  all_goals first | grind [Gd.granted, Gd.granting] | (simp only [Gd.granted, Gd.granting, G.mk.injEq, Prod.mk.injEq]; grind [Gd.granted, Gd.granting])
theorem granted_at {J : Jd} {n₀ : Nat} (hJ : J = std Try.prog n₀) {c e u s k a : Int} {n m : Int} {σ K E} (h : ∀ (c' e' u' s' k' a' : Int) (r' : Bool), (⟨c', e', u', s', k', a'⟩, r') = Gd.granted ⟨c, e, u, s, k, a⟩ n m → K (.tup [.agg [.int .i64 c', .int .i64 e', .int .i64 u', .int .i64 s', .int .i64 k', .int .i64 a'], .bool r']) σ) : J.call 47 [.agg [.int .i64 c, .int .i64 e, .int .i64 u, .int .i64 s, .int .i64 k, .int .i64 a], .int .i64 n, .int .i64 m] σ K E := call_pure hJ (granted_call c e u s k a n m) (h _ _ _ _ _ _ _ rfl)
theorem granted_pure {J : Jd} {n₀ : Nat} (hJ : J = std Try.prog n₀) {c e u s k a : Int} {n m : Int} {K : AV → Prop} (h : ∀ (c' e' u' s' k' a' : Int) (r' : Bool), (⟨c', e', u', s', k', a'⟩, r') = Gd.granted ⟨c, e, u, s, k, a⟩ n m → K (.tup [.agg [.int .i64 c', .int .i64 e', .int .i64 u', .int .i64 s', .int .i64 k', .int .i64 a'], .bool r'])) : J.pure 47 [.agg [.int .i64 c, .int .i64 e, .int .i64 u, .int .i64 s, .int .i64 k, .int .i64 a], .int .i64 n, .int .i64 m] K := pure_at hJ (granted_call c e u s k a n m) (fun _ => rfl) (h _ _ _ _ _ _ _ rfl)

set_option maxHeartbeats 4000000 in
set_option maxRecDepth 100000 in
theorem granted'_call (c e u s k a : Int) (n m : Int) (K E) (h : K (.tup [.agg [.int .i64 (Gd.granted ⟨c, e, u, s, k, a⟩ n m).1.c, .int .i64 (Gd.granted ⟨c, e, u, s, k, a⟩ n m).1.e, .int .i64 (Gd.granted ⟨c, e, u, s, k, a⟩ n m).1.u, .int .i64 (Gd.granted ⟨c, e, u, s, k, a⟩ n m).1.s, .int .i64 (Gd.granted ⟨c, e, u, s, k, a⟩ n m).1.k, .int .i64 (Gd.granted ⟨c, e, u, s, k, a⟩ n m).1.a], .bool (Gd.granted ⟨c, e, u, s, k, a⟩ n m).2]) []) : CallA Try.prog 50 [.agg [.int .i64 c, .int .i64 e, .int .i64 u, .int .i64 s, .int .i64 k, .int .i64 a], .int .i64 n, .int .i64 m] [] K E := by
  refine call_fn tab_ok [] Try.func50 rfl rfl rfl rfl (by decide) ?_
  intro J hJ
  cbv
  repeat' (first
    | with_reducible exact id
    | intro hh
    | with_reducible refine fit_GB h ?_
    | (with_reducible refine may'_at hJ  ?_; intros)
    | with_reducible refine And.intro ?_ ?_
    | (with_reducible first | refine awp_go ?_ | refine aops_go ?_ | refine strip_go ?_); cbv)
  all_goals subst hJ
  all_goals try simp only [std, stdOps] at *
  all_goals first | grind [Gd.granted, Gd.granting, Gd.more, wrap64] | (simp only [Gd.granted, Gd.granting, Gd.more, G.mk.injEq, Prod.mk.injEq]; grind [Gd.granted, Gd.granting, Gd.more, wrap64])
theorem granted'_at {J : Jd} {n₀ : Nat} (hJ : J = std Try.prog n₀) {c e u s k a : Int} {n m : Int} {σ K E} (h : ∀ (c' e' u' s' k' a' : Int) (r' : Bool), (⟨c', e', u', s', k', a'⟩, r') = Gd.granted ⟨c, e, u, s, k, a⟩ n m → K (.tup [.agg [.int .i64 c', .int .i64 e', .int .i64 u', .int .i64 s', .int .i64 k', .int .i64 a'], .bool r']) σ) : J.call 50 [.agg [.int .i64 c, .int .i64 e, .int .i64 u, .int .i64 s, .int .i64 k, .int .i64 a], .int .i64 n, .int .i64 m] σ K E := call_pure hJ (granted'_call c e u s k a n m) (h _ _ _ _ _ _ _ rfl)
theorem granted'_pure {J : Jd} {n₀ : Nat} (hJ : J = std Try.prog n₀) {c e u s k a : Int} {n m : Int} {K : AV → Prop} (h : ∀ (c' e' u' s' k' a' : Int) (r' : Bool), (⟨c', e', u', s', k', a'⟩, r') = Gd.granted ⟨c, e, u, s, k, a⟩ n m → K (.tup [.agg [.int .i64 c', .int .i64 e', .int .i64 u', .int .i64 s', .int .i64 k', .int .i64 a'], .bool r'])) : J.pure 50 [.agg [.int .i64 c, .int .i64 e, .int .i64 u, .int .i64 s, .int .i64 k, .int .i64 a], .int .i64 n, .int .i64 m] K := pure_at hJ (granted'_call c e u s k a n m) (fun _ => rfl) (h _ _ _ _ _ _ _ rfl)

end Go.Proofs.Ytilffanmaicakaa.A
