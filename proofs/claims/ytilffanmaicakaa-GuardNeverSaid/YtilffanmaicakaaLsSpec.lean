/- What each function of the document's lease computes. -/
import Derived.Test.YtilffanmaicakaaGdSpec
import Derived.Test.YtilffanmaicakaaLsPure
namespace Go.Proofs.Ytilffanmaicakaa.A
open Go Go.Pt Go.Ls

theorem draw_go {J tab all n F r acc s K} (h : drawK J tab all n F r acc s K) : drawK J tab all n F r acc s K := h
theorem frames_go {acc es σ τ} (h : framesP acc es σ τ) : framesP acc es σ τ := h

theorem ls_fit_bool {K : AV → List Ent → Prop} {σ} {b : Bool} {r' : Bool} (h : K (.bool (b)) σ) (he : r' = b) : K (.bool r') σ := by subst he; exact h
theorem ls_fit_int {K : AV → List Ent → Prop} {σ} {b : Int} {r' : Int} (h : K (.int .i64 (b)) σ) (he : r' = b) : K (.int .i64 r') σ := by subst he; exact h
theorem ls_fit_L {K : AV → List Ent → Prop} {σ} {b : L} {o' p' e' c' u' : Int} {z' : Bool} (h : K (.agg [.int .i64 ((b).o), .int .i64 ((b).p), .int .i64 ((b).e), .int .i64 ((b).c), .int .i64 ((b).u), .bool ((b).z)]) σ) (he : ⟨o', p', e', c', u', z'⟩ = b) : K (.agg [.int .i64 (o'), .int .i64 (p'), .int .i64 (e'), .int .i64 (c'), .int .i64 (u'), .bool (z')]) σ := by subst he; exact h
theorem ls_fit_LI {K : AV → List Ent → Prop} {σ} {b : L × Int} {o' p' e' c' u' : Int} {z' : Bool} {x' : Int} (h : K (.tup [.agg [.int .i64 (((b).1).o), .int .i64 (((b).1).p), .int .i64 (((b).1).e), .int .i64 (((b).1).c), .int .i64 (((b).1).u), .bool (((b).1).z)], .int .i64 (b).2]) σ) (he : (⟨o', p', e', c', u', z'⟩, x') = b) : K (.tup [.agg [.int .i64 (o'), .int .i64 (p'), .int .i64 (e'), .int .i64 (c'), .int .i64 (u'), .bool (z')], .int .i64 x']) σ := by subst he; exact h
theorem ls_fit_LII {K : AV → List Ent → Prop} {σ} {b : L × Int × Int} {o' p' e' c' u' : Int} {z' : Bool} {x' y' : Int} (h : K (.tup [.agg [.int .i64 (((b).1).o), .int .i64 (((b).1).p), .int .i64 (((b).1).e), .int .i64 (((b).1).c), .int .i64 (((b).1).u), .bool (((b).1).z)], .int .i64 (b).2.1, .int .i64 (b).2.2]) σ) (he : (⟨o', p', e', c', u', z'⟩, x', y') = b) : K (.tup [.agg [.int .i64 (o'), .int .i64 (p'), .int .i64 (e'), .int .i64 (c'), .int .i64 (u'), .bool (z')], .int .i64 x', .int .i64 y']) σ := by subst he; exact h
set_option maxHeartbeats 4000000 in
set_option maxRecDepth 100000 in
theorem ls_region_call (n : Int) (K E) (h : K (.bool (Ls.region n)) []) : CallA Try.prog 115 [.int .i64 n] [] K E := by
  refine call_fn tab_ok [] Try.func115 rfl rfl rfl rfl (by decide) ?_
  intro J hJ
  cbv
  repeat' (first
    | with_reducible exact id
    | exact trivial
    | intro hh
    | with_reducible refine ls_fit_bool h ?_
    | with_reducible refine And.intro ?_ ?_
    | (with_reducible first | refine awp_go ?_ | refine aops_go ?_ | refine strip_go ?_ | refine draw_go ?_ | refine frames_go ?_); cbv)
  all_goals subst hJ
  all_goals try simp only [std, stdOps] at *
  all_goals skip
  all_goals skip
  all_goals first | grind [Ls.region] | (simp only [Ls.region, Ls.L.mk.injEq, Prod.mk.injEq]; grind [Ls.region])
theorem ls_region_at {J : Jd} {n₀ : Nat} (hJ : J = std Try.prog n₀) {n : Int} {σ K E} (h : ∀ (r' : Bool), r' = Ls.region n → K (.bool r') σ) : J.call 115 [.int .i64 n] σ K E := call_pure hJ (ls_region_call n) (h _ rfl)

set_option maxHeartbeats 4000000 in
set_option maxRecDepth 100000 in
theorem ls_num_call (n : Int) (K E) (h : K (.bool (Ls.num n)) []) : CallA Try.prog 116 [.int .i64 n] [] K E := by
  refine call_fn tab_ok [] Try.func116 rfl rfl rfl rfl (by decide) ?_
  intro J hJ
  cbv
  repeat' (first
    | with_reducible exact id
    | exact trivial
    | intro hh
    | with_reducible refine ls_fit_bool h ?_
    | with_reducible refine And.intro ?_ ?_
    | (with_reducible first | refine awp_go ?_ | refine aops_go ?_ | refine strip_go ?_ | refine draw_go ?_ | refine frames_go ?_); cbv)
  all_goals subst hJ
  all_goals try simp only [std, stdOps] at *
  all_goals skip
  all_goals skip
  all_goals first | grind [Ls.num] | (simp only [Ls.num, Ls.L.mk.injEq, Prod.mk.injEq]; grind [Ls.num])
theorem ls_num_at {J : Jd} {n₀ : Nat} (hJ : J = std Try.prog n₀) {n : Int} {σ K E} (h : ∀ (r' : Bool), r' = Ls.num n → K (.bool r') σ) : J.call 116 [.int .i64 n] σ K E := call_pure hJ (ls_num_call n) (h _ rfl)

set_option maxHeartbeats 4000000 in
set_option maxRecDepth 100000 in
theorem ls_chk_call (o p e c u : Int) (z : Bool) (K E) (h : K (.int .i64 (Ls.chk ⟨o, p, e, c, u, z⟩)) []) : CallA Try.prog 94 [.agg [.int .i64 (o), .int .i64 (p), .int .i64 (e), .int .i64 (c), .int .i64 (u), .bool (z)]] [] K E := by
  refine call_fn tab_ok [] Try.func94 rfl rfl rfl rfl (by decide) ?_
  intro J hJ
  cbv
  repeat' (first
    | with_reducible exact id
    | exact trivial
    | intro hh
    | with_reducible refine ls_fit_int h ?_
    | (with_reducible refine ls_region_at hJ  ?_; intros)
    | (with_reducible refine ls_num_at hJ  ?_; intros)
    | with_reducible refine And.intro ?_ ?_
    | (with_reducible first | refine awp_go ?_ | refine aops_go ?_ | refine strip_go ?_ | refine draw_go ?_ | refine frames_go ?_); cbv)
  all_goals subst hJ
  all_goals try simp only [std, stdOps] at *
  all_goals try have hn := @Ls.chk_nums ⟨o, p, e, c, u, z⟩
  all_goals try simp only [] at hn
  all_goals first | grind [Ls.chk, Ls.bad, Ls.odd, Ls.region, Ls.num] | (simp only [Ls.chk, Ls.bad, Ls.odd, Ls.region, Ls.num, Ls.L.mk.injEq, Prod.mk.injEq]; grind [Ls.chk, Ls.bad, Ls.odd, Ls.region, Ls.num])
theorem ls_chk_at {J : Jd} {n₀ : Nat} (hJ : J = std Try.prog n₀) {o p e c u : Int} {z : Bool} {σ K E} (h : ∀ (r' : Int), r' = Ls.chk ⟨o, p, e, c, u, z⟩ → K (.int .i64 r') σ) : J.call 94 [.agg [.int .i64 (o), .int .i64 (p), .int .i64 (e), .int .i64 (c), .int .i64 (u), .bool (z)]] σ K E := call_pure hJ (ls_chk_call o p e c u z) (h _ rfl)

set_option maxHeartbeats 4000000 in
set_option maxRecDepth 100000 in
theorem ls_more_call (x y : Int) (hs0 : 0 ≤ x ∧ x ≤ 9007199254740992) (hs1 : 0 ≤ y ∧ y ≤ 9007199254740992) (K E) (h : K (.int .i64 (Ls.more x y)) []) : CallA Try.prog 95 [.int .i64 x, .int .i64 y] [] K E := by
  refine call_fn tab_ok [] Try.func95 rfl rfl rfl rfl (by decide) ?_
  intro J hJ
  cbv
  repeat' (first
    | with_reducible exact id
    | exact trivial
    | intro hh
    | with_reducible refine ls_fit_int h ?_
    | with_reducible refine And.intro ?_ ?_
    | (with_reducible first | refine awp_go ?_ | refine aops_go ?_ | refine strip_go ?_ | refine draw_go ?_ | refine frames_go ?_); cbv)
  all_goals subst hJ
  all_goals try simp only [std, stdOps] at *
  all_goals skip
  all_goals skip
  all_goals first | grind [Ls.more, wrap64] | (simp only [Ls.more, Ls.L.mk.injEq, Prod.mk.injEq]; grind [Ls.more, wrap64])
theorem ls_more_at {J : Jd} {n₀ : Nat} (hJ : J = std Try.prog n₀) {x y : Int} (hs0 : 0 ≤ x ∧ x ≤ 9007199254740992) (hs1 : 0 ≤ y ∧ y ≤ 9007199254740992) {σ K E} (h : ∀ (r' : Int), r' = Ls.more x y → K (.int .i64 r') σ) : J.call 95 [.int .i64 x, .int .i64 y] σ K E := call_pure hJ (ls_more_call x y hs0 hs1) (h _ rfl)

set_option maxHeartbeats 4000000 in
set_option maxRecDepth 100000 in
theorem ls_new_call  (K E) (h : K (.agg [.int .i64 (((newL : L)).o), .int .i64 (((newL : L)).p), .int .i64 (((newL : L)).e), .int .i64 (((newL : L)).c), .int .i64 (((newL : L)).u), .bool (((newL : L)).z)]) []) : CallA Try.prog 22 [] [] K E := by
  refine call_fn tab_ok [] Try.func22 rfl rfl rfl rfl (by decide) ?_
  intro J hJ
  cbv
  repeat' (first
    | with_reducible exact id
    | exact trivial
    | intro hh
    | with_reducible refine ls_fit_L h ?_
    | with_reducible refine And.intro ?_ ?_
    | (with_reducible first | refine awp_go ?_ | refine aops_go ?_ | refine strip_go ?_ | refine draw_go ?_ | refine frames_go ?_); cbv)
  all_goals subst hJ
  all_goals try simp only [std, stdOps] at *
  all_goals skip
  all_goals skip
  all_goals first | rfl | grind
theorem ls_new_at {J : Jd} {n₀ : Nat} (hJ : J = std Try.prog n₀)  {σ K E} (h : ∀ (o' p' e' c' u' : Int) (z' : Bool), ⟨o', p', e', c', u', z'⟩ = newL → K (.agg [.int .i64 (o'), .int .i64 (p'), .int .i64 (e'), .int .i64 (c'), .int .i64 (u'), .bool (z')]) σ) : J.call 22 [] σ K E := call_pure hJ (ls_new_call ) (h _ _ _ _ _ _ rfl)

set_option maxHeartbeats 4000000 in
set_option maxRecDepth 100000 in
theorem ls_tick_call (o p e c u : Int) (z : Bool) (n : Int) (hs0 : n ≤ 9007199254740992) (K E) (h : K (.agg [.int .i64 (((Ls.tick ⟨o, p, e, c, u, z⟩ n : L)).o), .int .i64 (((Ls.tick ⟨o, p, e, c, u, z⟩ n : L)).p), .int .i64 (((Ls.tick ⟨o, p, e, c, u, z⟩ n : L)).e), .int .i64 (((Ls.tick ⟨o, p, e, c, u, z⟩ n : L)).c), .int .i64 (((Ls.tick ⟨o, p, e, c, u, z⟩ n : L)).u), .bool (((Ls.tick ⟨o, p, e, c, u, z⟩ n : L)).z)]) []) : CallA Try.prog 62 [.agg [.int .i64 (o), .int .i64 (p), .int .i64 (e), .int .i64 (c), .int .i64 (u), .bool (z)], .int .i64 n] [] K E := by
  refine call_fn tab_ok [] Try.func62 rfl rfl rfl rfl (by decide) ?_
  intro J hJ
  cbv
  repeat' (first
    | with_reducible exact id
    | exact trivial
    | intro hh
    | with_reducible refine ls_fit_L h ?_
    | (with_reducible refine ls_chk_at hJ  ?_; intros)
    | (with_reducible refine ls_more_at hJ ?_ ?_ ?_; intros)
    | with_reducible refine And.intro ?_ ?_
    | (with_reducible first | refine awp_go ?_ | refine aops_go ?_ | refine strip_go ?_ | refine draw_go ?_ | refine frames_go ?_); cbv)
  all_goals subst hJ
  all_goals try simp only [std, stdOps] at *
  all_goals try have hn := @Ls.chk_nums ⟨o, p, e, c, u, z⟩
  all_goals try simp only [] at hn
  all_goals first | grind [Ls.tick] | (simp only [Ls.tick, Ls.L.mk.injEq, Prod.mk.injEq]; grind [Ls.tick])
theorem ls_tick_at {J : Jd} {n₀ : Nat} (hJ : J = std Try.prog n₀) {o p e c u : Int} {z : Bool} {n : Int} (hs0 : n ≤ 9007199254740992) {σ K E} (h : ∀ (o' p' e' c' u' : Int) (z' : Bool), ⟨o', p', e', c', u', z'⟩ = Ls.tick ⟨o, p, e, c, u, z⟩ n → K (.agg [.int .i64 (o'), .int .i64 (p'), .int .i64 (e'), .int .i64 (c'), .int .i64 (u'), .bool (z')]) σ) : J.call 62 [.agg [.int .i64 (o), .int .i64 (p), .int .i64 (e), .int .i64 (c), .int .i64 (u), .bool (z)], .int .i64 n] σ K E := call_pure hJ (ls_tick_call o p e c u z n hs0) (h _ _ _ _ _ _ rfl)

set_option maxHeartbeats 4000000 in
set_option maxRecDepth 100000 in
theorem ls_held_call (o p e c u : Int) (z : Bool) (K E) (h : K (.bool (Ls.held ⟨o, p, e, c, u, z⟩)) []) : CallA Try.prog 117 [.agg [.int .i64 (o), .int .i64 (p), .int .i64 (e), .int .i64 (c), .int .i64 (u), .bool (z)]] [] K E := by
  refine call_fn tab_ok [] Try.func117 rfl rfl rfl rfl (by decide) ?_
  intro J hJ
  cbv
  repeat' (first
    | with_reducible exact id
    | exact trivial
    | intro hh
    | with_reducible refine ls_fit_bool h ?_
    | (with_reducible refine ls_chk_at hJ  ?_; intros)
    | with_reducible refine And.intro ?_ ?_
    | (with_reducible first | refine awp_go ?_ | refine aops_go ?_ | refine strip_go ?_ | refine draw_go ?_ | refine frames_go ?_); cbv)
  all_goals subst hJ
  all_goals try simp only [std, stdOps] at *
  all_goals try have hn := @Ls.chk_nums ⟨o, p, e, c, u, z⟩
  all_goals try simp only [] at hn
  all_goals first | grind [Ls.held] | (simp only [Ls.held, Ls.L.mk.injEq, Prod.mk.injEq]; grind [Ls.held])
theorem ls_held_at {J : Jd} {n₀ : Nat} (hJ : J = std Try.prog n₀) {o p e c u : Int} {z : Bool} {σ K E} (h : ∀ (r' : Bool), r' = Ls.held ⟨o, p, e, c, u, z⟩ → K (.bool r') σ) : J.call 117 [.agg [.int .i64 (o), .int .i64 (p), .int .i64 (e), .int .i64 (c), .int .i64 (u), .bool (z)]] σ K E := call_pure hJ (ls_held_call o p e c u z) (h _ rfl)

set_option maxHeartbeats 4000000 in
set_option maxRecDepth 100000 in
theorem ls_grant_call (o p e c u : Int) (z : Bool) (n : Int) (hs0 : 0 ≤ c ∧ c ≤ 9007199254740992) (hs1 : 0 ≤ e ∧ e ≤ 9007199254740992) (K E) (h : K (.agg [.int .i64 (((Ls.grant ⟨o, p, e, c, u, z⟩ n : L)).o), .int .i64 (((Ls.grant ⟨o, p, e, c, u, z⟩ n : L)).p), .int .i64 (((Ls.grant ⟨o, p, e, c, u, z⟩ n : L)).e), .int .i64 (((Ls.grant ⟨o, p, e, c, u, z⟩ n : L)).c), .int .i64 (((Ls.grant ⟨o, p, e, c, u, z⟩ n : L)).u), .bool (((Ls.grant ⟨o, p, e, c, u, z⟩ n : L)).z)]) []) : CallA Try.prog 118 [.agg [.int .i64 (o), .int .i64 (p), .int .i64 (e), .int .i64 (c), .int .i64 (u), .bool (z)], .int .i64 n] [] K E := by
  refine call_fn tab_ok [] Try.func118 rfl rfl rfl rfl (by decide) ?_
  intro J hJ
  cbv
  repeat' (first
    | with_reducible exact id
    | exact trivial
    | intro hh
    | with_reducible refine ls_fit_L h ?_
    | (with_reducible refine ls_more_at hJ ?_ ?_ ?_; intros)
    | with_reducible refine And.intro ?_ ?_
    | (with_reducible first | refine awp_go ?_ | refine aops_go ?_ | refine strip_go ?_ | refine draw_go ?_ | refine frames_go ?_); cbv)
  all_goals subst hJ
  all_goals try simp only [std, stdOps] at *
  all_goals try have hn := @Ls.chk_nums ⟨o, p, e, c, u, z⟩
  all_goals try simp only [] at hn
  all_goals first | grind [Ls.grant, wrap64] | (simp only [Ls.grant, Ls.L.mk.injEq, Prod.mk.injEq]; grind [Ls.grant, wrap64])
theorem ls_grant_at {J : Jd} {n₀ : Nat} (hJ : J = std Try.prog n₀) {o p e c u : Int} {z : Bool} {n : Int} (hs0 : 0 ≤ c ∧ c ≤ 9007199254740992) (hs1 : 0 ≤ e ∧ e ≤ 9007199254740992) {σ K E} (h : ∀ (o' p' e' c' u' : Int) (z' : Bool), ⟨o', p', e', c', u', z'⟩ = Ls.grant ⟨o, p, e, c, u, z⟩ n → K (.agg [.int .i64 (o'), .int .i64 (p'), .int .i64 (e'), .int .i64 (c'), .int .i64 (u'), .bool (z')]) σ) : J.call 118 [.agg [.int .i64 (o), .int .i64 (p), .int .i64 (e), .int .i64 (c), .int .i64 (u), .bool (z)], .int .i64 n] σ K E := call_pure hJ (ls_grant_call o p e c u z n hs0 hs1) (h _ _ _ _ _ _ rfl)

set_option maxHeartbeats 4000000 in
set_option maxRecDepth 100000 in
theorem ls_acquire_call (o p e c u : Int) (z : Bool) (n : Int) (K E) (h : K (.tup [.agg [.int .i64 ((((Ls.acquire ⟨o, p, e, c, u, z⟩ n : L × Int × Int)).1).o), .int .i64 ((((Ls.acquire ⟨o, p, e, c, u, z⟩ n : L × Int × Int)).1).p), .int .i64 ((((Ls.acquire ⟨o, p, e, c, u, z⟩ n : L × Int × Int)).1).e), .int .i64 ((((Ls.acquire ⟨o, p, e, c, u, z⟩ n : L × Int × Int)).1).c), .int .i64 ((((Ls.acquire ⟨o, p, e, c, u, z⟩ n : L × Int × Int)).1).u), .bool ((((Ls.acquire ⟨o, p, e, c, u, z⟩ n : L × Int × Int)).1).z)], .int .i64 ((Ls.acquire ⟨o, p, e, c, u, z⟩ n : L × Int × Int)).2.1, .int .i64 ((Ls.acquire ⟨o, p, e, c, u, z⟩ n : L × Int × Int)).2.2]) []) : CallA Try.prog 96 [.agg [.int .i64 (o), .int .i64 (p), .int .i64 (e), .int .i64 (c), .int .i64 (u), .bool (z)], .int .i64 n] [] K E := by
  refine call_fn tab_ok [] Try.func96 rfl rfl rfl rfl (by decide) ?_
  intro J hJ
  cbv
  repeat' (first
    | with_reducible exact id
    | exact trivial
    | intro hh
    | with_reducible refine ls_fit_LII h ?_
    | (with_reducible refine ls_chk_at hJ  ?_; intros)
    | (with_reducible refine ls_region_at hJ  ?_; intros)
    | (with_reducible refine ls_held_at hJ  ?_; intros)
    | (with_reducible refine ls_grant_at hJ ?_ ?_ ?_; intros)
    | with_reducible refine And.intro ?_ ?_
    | (with_reducible first | refine awp_go ?_ | refine aops_go ?_ | refine strip_go ?_ | refine draw_go ?_ | refine frames_go ?_); cbv)
  all_goals subst hJ
  all_goals try simp only [std, stdOps] at *
  all_goals try have hn := @Ls.chk_nums ⟨o, p, e, c, u, z⟩
  all_goals try simp only [] at hn
  all_goals first | grind [Ls.acquire, Ls.grant] | (simp only [Ls.acquire, Ls.grant, Ls.L.mk.injEq, Prod.mk.injEq]; grind [Ls.acquire, Ls.grant])
theorem ls_acquire_at {J : Jd} {n₀ : Nat} (hJ : J = std Try.prog n₀) {o p e c u : Int} {z : Bool} {n : Int} {σ K E} (h : ∀ (o' p' e' c' u' : Int) (z' : Bool) (x' y' : Int), (⟨o', p', e', c', u', z'⟩, x', y') = Ls.acquire ⟨o, p, e, c, u, z⟩ n → K (.tup [.agg [.int .i64 (o'), .int .i64 (p'), .int .i64 (e'), .int .i64 (c'), .int .i64 (u'), .bool (z')], .int .i64 x', .int .i64 y']) σ) : J.call 96 [.agg [.int .i64 (o), .int .i64 (p), .int .i64 (e), .int .i64 (c), .int .i64 (u), .bool (z)], .int .i64 n] σ K E := call_pure hJ (ls_acquire_call o p e c u z n) (h _ _ _ _ _ _ _ _ rfl)

set_option maxHeartbeats 4000000 in
set_option maxRecDepth 100000 in
theorem ls_mine_call (o p e c u : Int) (z : Bool) (n m : Int) (K E) (h : K (.int .i64 (Ls.mine ⟨o, p, e, c, u, z⟩ n m)) []) : CallA Try.prog 119 [.agg [.int .i64 (o), .int .i64 (p), .int .i64 (e), .int .i64 (c), .int .i64 (u), .bool (z)], .int .i64 n, .int .i64 m] [] K E := by
  refine call_fn tab_ok [] Try.func119 rfl rfl rfl rfl (by decide) ?_
  intro J hJ
  cbv
  repeat' (first
    | with_reducible exact id
    | exact trivial
    | intro hh
    | with_reducible refine ls_fit_int h ?_
    | (with_reducible refine ls_chk_at hJ  ?_; intros)
    | (with_reducible refine ls_region_at hJ  ?_; intros)
    | with_reducible refine And.intro ?_ ?_
    | (with_reducible first | refine awp_go ?_ | refine aops_go ?_ | refine strip_go ?_ | refine draw_go ?_ | refine frames_go ?_); cbv)
  all_goals subst hJ
  all_goals try simp only [std, stdOps] at *
  all_goals try have hn := @Ls.chk_nums ⟨o, p, e, c, u, z⟩
  all_goals try simp only [] at hn
  all_goals first | grind [Ls.mine] | (simp only [Ls.mine, Ls.L.mk.injEq, Prod.mk.injEq]; grind [Ls.mine])
theorem ls_mine_at {J : Jd} {n₀ : Nat} (hJ : J = std Try.prog n₀) {o p e c u : Int} {z : Bool} {n m : Int} {σ K E} (h : ∀ (r' : Int), r' = Ls.mine ⟨o, p, e, c, u, z⟩ n m → K (.int .i64 r') σ) : J.call 119 [.agg [.int .i64 (o), .int .i64 (p), .int .i64 (e), .int .i64 (c), .int .i64 (u), .bool (z)], .int .i64 n, .int .i64 m] σ K E := call_pure hJ (ls_mine_call o p e c u z n m) (h _ rfl)

set_option maxHeartbeats 4000000 in
set_option maxRecDepth 100000 in
theorem ls_renew_call (o p e c u : Int) (z : Bool) (n m : Int) (K E) (h : K (.tup [.agg [.int .i64 ((((Ls.renew ⟨o, p, e, c, u, z⟩ n m : L × Int)).1).o), .int .i64 ((((Ls.renew ⟨o, p, e, c, u, z⟩ n m : L × Int)).1).p), .int .i64 ((((Ls.renew ⟨o, p, e, c, u, z⟩ n m : L × Int)).1).e), .int .i64 ((((Ls.renew ⟨o, p, e, c, u, z⟩ n m : L × Int)).1).c), .int .i64 ((((Ls.renew ⟨o, p, e, c, u, z⟩ n m : L × Int)).1).u), .bool ((((Ls.renew ⟨o, p, e, c, u, z⟩ n m : L × Int)).1).z)], .int .i64 ((Ls.renew ⟨o, p, e, c, u, z⟩ n m : L × Int)).2]) []) : CallA Try.prog 97 [.agg [.int .i64 (o), .int .i64 (p), .int .i64 (e), .int .i64 (c), .int .i64 (u), .bool (z)], .int .i64 n, .int .i64 m] [] K E := by
  refine call_fn tab_ok [] Try.func97 rfl rfl rfl rfl (by decide) ?_
  intro J hJ
  cbv
  repeat' (first
    | with_reducible exact id
    | exact trivial
    | intro hh
    | with_reducible refine ls_fit_LI h ?_
    | (with_reducible refine ls_mine_at hJ  ?_; intros)
    | (with_reducible refine ls_more_at hJ ?_ ?_ ?_; intros)
    | with_reducible refine And.intro ?_ ?_
    | (with_reducible first | refine awp_go ?_ | refine aops_go ?_ | refine strip_go ?_ | refine draw_go ?_ | refine frames_go ?_); cbv)
  all_goals subst hJ
  all_goals try simp only [std, stdOps] at *
  all_goals try have hn := @Ls.chk_nums ⟨o, p, e, c, u, z⟩
  all_goals try simp only [] at hn
  all_goals first | grind [Ls.renew, Ls.mine] | (simp only [Ls.renew, Ls.mine, Ls.L.mk.injEq, Prod.mk.injEq]; grind [Ls.renew, Ls.mine])
theorem ls_renew_at {J : Jd} {n₀ : Nat} (hJ : J = std Try.prog n₀) {o p e c u : Int} {z : Bool} {n m : Int} {σ K E} (h : ∀ (o' p' e' c' u' : Int) (z' : Bool) (x' : Int), (⟨o', p', e', c', u', z'⟩, x') = Ls.renew ⟨o, p, e, c, u, z⟩ n m → K (.tup [.agg [.int .i64 (o'), .int .i64 (p'), .int .i64 (e'), .int .i64 (c'), .int .i64 (u'), .bool (z')], .int .i64 x']) σ) : J.call 97 [.agg [.int .i64 (o), .int .i64 (p), .int .i64 (e), .int .i64 (c), .int .i64 (u), .bool (z)], .int .i64 n, .int .i64 m] σ K E := call_pure hJ (ls_renew_call o p e c u z n m) (h _ _ _ _ _ _ _ rfl)

set_option maxHeartbeats 4000000 in
set_option maxRecDepth 100000 in
theorem ls_release_call (o p e c u : Int) (z : Bool) (n m : Int) (K E) (h : K (.tup [.agg [.int .i64 ((((Ls.release ⟨o, p, e, c, u, z⟩ n m : L × Int)).1).o), .int .i64 ((((Ls.release ⟨o, p, e, c, u, z⟩ n m : L × Int)).1).p), .int .i64 ((((Ls.release ⟨o, p, e, c, u, z⟩ n m : L × Int)).1).e), .int .i64 ((((Ls.release ⟨o, p, e, c, u, z⟩ n m : L × Int)).1).c), .int .i64 ((((Ls.release ⟨o, p, e, c, u, z⟩ n m : L × Int)).1).u), .bool ((((Ls.release ⟨o, p, e, c, u, z⟩ n m : L × Int)).1).z)], .int .i64 ((Ls.release ⟨o, p, e, c, u, z⟩ n m : L × Int)).2]) []) : CallA Try.prog 98 [.agg [.int .i64 (o), .int .i64 (p), .int .i64 (e), .int .i64 (c), .int .i64 (u), .bool (z)], .int .i64 n, .int .i64 m] [] K E := by
  refine call_fn tab_ok [] Try.func98 rfl rfl rfl rfl (by decide) ?_
  intro J hJ
  cbv
  repeat' (first
    | with_reducible exact id
    | exact trivial
    | intro hh
    | with_reducible refine ls_fit_LI h ?_
    | (with_reducible refine ls_mine_at hJ  ?_; intros)
    | with_reducible refine And.intro ?_ ?_
    | (with_reducible first | refine awp_go ?_ | refine aops_go ?_ | refine strip_go ?_ | refine draw_go ?_ | refine frames_go ?_); cbv)
  all_goals subst hJ
  all_goals try simp only [std, stdOps] at *
  all_goals try have hn := @Ls.chk_nums ⟨o, p, e, c, u, z⟩
  all_goals try simp only [] at hn
  all_goals first | grind [Ls.release] | (simp only [Ls.release, Ls.L.mk.injEq, Prod.mk.injEq]; grind [Ls.release])
theorem ls_release_at {J : Jd} {n₀ : Nat} (hJ : J = std Try.prog n₀) {o p e c u : Int} {z : Bool} {n m : Int} {σ K E} (h : ∀ (o' p' e' c' u' : Int) (z' : Bool) (x' : Int), (⟨o', p', e', c', u', z'⟩, x') = Ls.release ⟨o, p, e, c, u, z⟩ n m → K (.tup [.agg [.int .i64 (o'), .int .i64 (p'), .int .i64 (e'), .int .i64 (c'), .int .i64 (u'), .bool (z')], .int .i64 x']) σ) : J.call 98 [.agg [.int .i64 (o), .int .i64 (p), .int .i64 (e), .int .i64 (c), .int .i64 (u), .bool (z)], .int .i64 n, .int .i64 m] σ K E := call_pure hJ (ls_release_call o p e c u z n m) (h _ _ _ _ _ _ _ rfl)

set_option maxHeartbeats 4000000 in
set_option maxRecDepth 100000 in
theorem ls_transfer_call (o p e c u : Int) (z : Bool) (n m k : Int) (K E) (h : K (.tup [.agg [.int .i64 ((((Ls.transfer ⟨o, p, e, c, u, z⟩ n m k : L × Int × Int)).1).o), .int .i64 ((((Ls.transfer ⟨o, p, e, c, u, z⟩ n m k : L × Int × Int)).1).p), .int .i64 ((((Ls.transfer ⟨o, p, e, c, u, z⟩ n m k : L × Int × Int)).1).e), .int .i64 ((((Ls.transfer ⟨o, p, e, c, u, z⟩ n m k : L × Int × Int)).1).c), .int .i64 ((((Ls.transfer ⟨o, p, e, c, u, z⟩ n m k : L × Int × Int)).1).u), .bool ((((Ls.transfer ⟨o, p, e, c, u, z⟩ n m k : L × Int × Int)).1).z)], .int .i64 ((Ls.transfer ⟨o, p, e, c, u, z⟩ n m k : L × Int × Int)).2.1, .int .i64 ((Ls.transfer ⟨o, p, e, c, u, z⟩ n m k : L × Int × Int)).2.2]) []) : CallA Try.prog 99 [.agg [.int .i64 (o), .int .i64 (p), .int .i64 (e), .int .i64 (c), .int .i64 (u), .bool (z)], .int .i64 n, .int .i64 m, .int .i64 k] [] K E := by
  refine call_fn tab_ok [] Try.func99 rfl rfl rfl rfl (by decide) ?_
  intro J hJ
  cbv
  repeat' (first
    | with_reducible exact id
    | exact trivial
    | intro hh
    | with_reducible refine ls_fit_LII h ?_
    | (with_reducible refine ls_chk_at hJ  ?_; intros)
    | (with_reducible refine ls_region_at hJ  ?_; intros)
    | (with_reducible refine ls_mine_at hJ  ?_; intros)
    | (with_reducible refine ls_grant_at hJ ?_ ?_ ?_; intros)
    | with_reducible refine And.intro ?_ ?_
    | (with_reducible first | refine awp_go ?_ | refine aops_go ?_ | refine strip_go ?_ | refine draw_go ?_ | refine frames_go ?_); cbv)
  all_goals subst hJ
  all_goals try simp only [std, stdOps] at *
  all_goals try have hn := @Ls.chk_nums ⟨o, p, e, c, u, z⟩
  all_goals try simp only [] at hn
  all_goals first | grind [Ls.transfer, Ls.grant, Ls.mine] | (simp only [Ls.transfer, Ls.grant, Ls.mine, Ls.L.mk.injEq, Prod.mk.injEq]; grind [Ls.transfer, Ls.grant, Ls.mine])
theorem ls_transfer_at {J : Jd} {n₀ : Nat} (hJ : J = std Try.prog n₀) {o p e c u : Int} {z : Bool} {n m k : Int} {σ K E} (h : ∀ (o' p' e' c' u' : Int) (z' : Bool) (x' y' : Int), (⟨o', p', e', c', u', z'⟩, x', y') = Ls.transfer ⟨o, p, e, c, u, z⟩ n m k → K (.tup [.agg [.int .i64 (o'), .int .i64 (p'), .int .i64 (e'), .int .i64 (c'), .int .i64 (u'), .bool (z')], .int .i64 x', .int .i64 y']) σ) : J.call 99 [.agg [.int .i64 (o), .int .i64 (p), .int .i64 (e), .int .i64 (c), .int .i64 (u), .bool (z)], .int .i64 n, .int .i64 m, .int .i64 k] σ K E := call_pure hJ (ls_transfer_call o p e c u z n m k) (h _ _ _ _ _ _ _ _ rfl)

end Go.Proofs.Ytilffanmaicakaa.A
