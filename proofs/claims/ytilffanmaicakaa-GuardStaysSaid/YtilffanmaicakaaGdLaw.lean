/- What the laws' own functions compute. -/
import Derived.Test.YtilffanmaicakaaGdSpec
namespace Go.Proofs.Ytilffanmaicakaa.A
open Go Go.Pt Go.Gd

theorem draw_go {J tab all F r i acc s K} (h : drawK J tab all F r i acc s K) : drawK J tab all F r i acc s K := h
theorem b1 : Gd.tick zero 5 = ⟨5, 0, 0, 0, 0, 0⟩ := by rfl
theorem b2 : Gd.ask ⟨5, 0, 0, 0, 0, 0⟩ = (⟨5, 0, 0, 1, 1, 5⟩, 1, 1, 0) := by rfl
theorem b3 : Gd.tick ⟨5, 0, 0, 1, 1, 5⟩ 3 = ⟨8, 0, 0, 1, 1, 5⟩ := by rfl
theorem b4 : Gd.granted ⟨8, 0, 0, 1, 1, 5⟩ 1 7 = (⟨8, 7, 17, 1, 0, 0⟩, true) := by rfl
theorem b5 : Gd.left ⟨8, 7, 17, 1, 0, 0⟩ = 9 := by rfl
theorem b6 : Gd.tick ⟨8, 7, 17, 1, 0, 0⟩ 8 = ⟨16, 7, 17, 1, 0, 0⟩ := by rfl
theorem b7 : Gd.tick ⟨8, 7, 17, 1, 0, 0⟩ 9 = ⟨17, 7, 17, 1, 0, 0⟩ := by rfl
theorem b8 : Gd.bel ⟨16, 7, 17, 1, 0, 0⟩ = true := by rfl
theorem b9 : Gd.bel ⟨17, 7, 17, 1, 0, 0⟩ = false := by rfl
set_option maxHeartbeats 4000000 in
set_option maxRecDepth 100000 in
theorem begun_call (K E) (h : K (.bool true) []) : CallA Try.prog 11 [] [] K E := by
  refine call_fn tab_ok [] Try.func11 rfl rfl rfl rfl (by decide) ?_
  intro J hJ
  cbv
  repeat' (first
    | with_reducible exact id
    | intro hh
    | with_reducible refine fit_bool h ?_
    | (with_reducible refine new_at hJ ?_; intros)
    | (with_reducible refine new_pure hJ ?_; intros)
    | (with_reducible refine tick_at hJ ?_; intros)
    | (with_reducible refine tick_pure hJ ?_; intros)
    | (with_reducible refine ask_at hJ ?_; intros)
    | (with_reducible refine ask_pure hJ ?_; intros)
    | (with_reducible refine granted_at hJ ?_; intros)
    | (with_reducible refine granted_pure hJ ?_; intros)
    | (with_reducible refine bel_at hJ ?_; intros)
    | (with_reducible refine bel_pure hJ ?_; intros)
    | (with_reducible refine left_at hJ ?_; intros)
    | (with_reducible refine left_pure hJ ?_; intros)
    | with_reducible refine And.intro ?_ ?_
    | (with_reducible first | refine awp_go ?_ | refine aops_go ?_ | refine strip_go ?_ | refine draw_go ?_); cbv)
  all_goals subst hJ
  all_goals try simp only [std, stdOps] at *
  all_goals grind [b1, b2, b3, b4, b5, b6, b7, b8, b9, zero]
theorem begun_at {J : Jd} {n₀ : Nat} (hJ : J = std Try.prog n₀) {σ K E} (h : K (.bool true) σ) : J.call 11 [] σ K E := call_pure hJ begun_call h

/-- What a call makes of a guard. -/
def step (g : G) (d n s : Int) (own : Bool) (e : Int) : G :=
  if d = 0 then Gd.tick g n
  else if d = 1 then (Gd.ask g).1
  else if d = 2 then (Gd.granted g (if own then g.s else s) (if own && g.k == 2 then g.e else e)).1
  else if d = 3 then (Gd.refused g (if own then g.s else s)).1
  else if d = 4 then Gd.yield g
  else Gd.above g (if own && g.k == 2 then g.e else e)
set_option maxHeartbeats 4000000 in
set_option maxRecDepth 100000 in
theorem does_call (c e u s k a : Int) (d n sr : Int) (own : Bool) (ep : Int) (K E) (h : K (.tup [.agg [.int .i64 (step ⟨c, e, u, s, k, a⟩ d n sr own ep).c, .int .i64 (step ⟨c, e, u, s, k, a⟩ d n sr own ep).e, .int .i64 (step ⟨c, e, u, s, k, a⟩ d n sr own ep).u, .int .i64 (step ⟨c, e, u, s, k, a⟩ d n sr own ep).s, .int .i64 (step ⟨c, e, u, s, k, a⟩ d n sr own ep).k, .int .i64 (step ⟨c, e, u, s, k, a⟩ d n sr own ep).a], .bool true]) []) :
    CallA Try.prog 12 [.agg [.int .i64 c, .int .i64 e, .int .i64 u, .int .i64 s, .int .i64 k, .int .i64 a], .agg [.int .i64 d, .int .i64 n, .int .i64 sr, .bool own, .int .i64 ep]] [] K E := by
  refine call_fn tab_ok [] Try.func12 rfl rfl rfl rfl (by decide) ?_
  intro J hJ
  cbv
  repeat' (first
    | with_reducible exact id
    | intro hh
    | with_reducible refine fit_GB (b := (step ⟨c, e, u, s, k, a⟩ d n sr own ep, true)) h ?_
    | (with_reducible refine tick_at hJ ?_; intros)
    | (with_reducible refine tick_pure hJ ?_; intros)
    | (with_reducible refine tick'_at hJ ?_; intros)
    | (with_reducible refine tick'_pure hJ ?_; intros)
    | (with_reducible refine ask_at hJ ?_; intros)
    | (with_reducible refine ask_pure hJ ?_; intros)
    | (with_reducible refine ask'_at hJ ?_; intros)
    | (with_reducible refine ask'_pure hJ ?_; intros)
    | (with_reducible refine granted_at hJ ?_; intros)
    | (with_reducible refine granted_pure hJ ?_; intros)
    | (with_reducible refine granted'_at hJ ?_; intros)
    | (with_reducible refine granted'_pure hJ ?_; intros)
    | (with_reducible refine refused_at hJ ?_; intros)
    | (with_reducible refine refused_pure hJ ?_; intros)
    | (with_reducible refine refused'_at hJ ?_; intros)
    | (with_reducible refine refused'_pure hJ ?_; intros)
    | (with_reducible refine yield_at hJ ?_; intros)
    | (with_reducible refine yield_pure hJ ?_; intros)
    | (with_reducible refine yield'_at hJ ?_; intros)
    | (with_reducible refine yield'_pure hJ ?_; intros)
    | (with_reducible refine above_at hJ ?_; intros)
    | (with_reducible refine above_pure hJ ?_; intros)
    | (with_reducible refine above'_at hJ ?_; intros)
    | (with_reducible refine above'_pure hJ ?_; intros)
    | with_reducible refine And.intro ?_ ?_
    | (with_reducible first | refine awp_go ?_ | refine aops_go ?_ | refine strip_go ?_ | refine draw_go ?_); cbv)
  all_goals subst hJ
  all_goals try simp only [std, stdOps] at *
  all_goals first | grind [step]
end Go.Proofs.Ytilffanmaicakaa.A
