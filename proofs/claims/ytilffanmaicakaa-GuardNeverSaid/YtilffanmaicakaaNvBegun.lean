/- What begun tells. -/
import Derived.Test.YtilffanmaicakaaLsSpec
namespace Go.Proofs.Ytilffanmaicakaa.A
open Go Go.Pt Go.Gd

theorem b1 : Gd.tick zero 5 = ⟨5, 0, 0, 0, 0, 0⟩ := by rfl
theorem b2 : Gd.ask ⟨5, 0, 0, 0, 0, 0⟩ = (⟨5, 0, 0, 1, 1, 5⟩, 1, 1, 0) := by rfl
theorem b3 : Gd.tick ⟨5, 0, 0, 1, 1, 5⟩ 3 = ⟨8, 0, 0, 1, 1, 5⟩ := by rfl
theorem b4 : Gd.granted ⟨8, 0, 0, 1, 1, 5⟩ 1 7 = (⟨8, 7, 17, 1, 0, 0⟩, true) := by rfl
theorem b5 : Gd.left ⟨8, 7, 17, 1, 0, 0⟩ = 9 := by rfl
theorem b6 : Gd.tick ⟨8, 7, 17, 1, 0, 0⟩ 8 = ⟨16, 7, 17, 1, 0, 0⟩ := by rfl
theorem b7 : Gd.tick ⟨8, 7, 17, 1, 0, 0⟩ 9 = ⟨17, 7, 17, 1, 0, 0⟩ := by rfl
theorem b8 : Gd.bel ⟨16, 7, 17, 1, 0, 0⟩ = true := by rfl
theorem b9 : Gd.bel ⟨17, 7, 17, 1, 0, 0⟩ = false := by rfl
set_option maxHeartbeats 4000000 in
set_option maxRecDepth 100000 in
theorem begun_call (K E) (h : K (.bool true) []) : CallA Try.prog 11 [] [] K E := by
  refine call_fn tab_ok [] Try.func11 rfl rfl rfl rfl (by decide) ?_
  intro J hJ
  cbv
  repeat' (first
    | with_reducible exact id
    | exact trivial
    | intro hh
    | with_reducible refine fit_bool h ?_
    | (with_reducible refine new_at hJ ?_; intros)
    | (with_reducible refine new_pure hJ ?_; intros)
    | (with_reducible refine tick_at hJ ?_; intros)
    | (with_reducible refine tick_pure hJ ?_; intros)
    | (with_reducible refine ask_at hJ ?_; intros)
    | (with_reducible refine ask_pure hJ ?_; intros)
    | (with_reducible refine granted_at hJ ?_; intros)
    | (with_reducible refine granted_pure hJ ?_; intros)
    | (with_reducible refine bel_at hJ ?_; intros)
    | (with_reducible refine bel_pure hJ ?_; intros)
    | (with_reducible refine left_at hJ ?_; intros)
    | (with_reducible refine left_pure hJ ?_; intros)
    | with_reducible refine And.intro ?_ ?_
    | (with_reducible first | refine awp_go ?_ | refine aops_go ?_ | refine strip_go ?_ | refine draw_go ?_ | refine frames_go ?_); cbv)
  all_goals subst hJ
  all_goals try simp only [std, stdOps] at *
  all_goals grind [b1, b2, b3, b4, b5, b6, b7, b8, b9, zero]
theorem begun_at {J : Jd} {n₀ : Nat} (hJ : J = std Try.prog n₀) {σ K E} (h : K (.bool true) σ) : J.call 11 [] σ K E := call_pure hJ begun_call h

end Go.Proofs.Ytilffanmaicakaa.A
