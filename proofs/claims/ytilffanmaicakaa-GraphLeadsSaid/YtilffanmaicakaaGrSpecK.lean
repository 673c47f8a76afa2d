/- Where a port leads. -/
import Derived.Test.YtilffanmaicakaaGrSpecJ
namespace Go.Proofs.Ytilffanmaicakaa.A
open Go Go.Pt Go.Gr

/-- Where an edge is first in a list; -1: nowhere. -/
def IdxIs (l : List Ed) (e : Ed) (r : Int) : Prop := (r = -1 ∧ e ∉ l) ∨ (0 ≤ r ∧ l[r.toNat]? = some e ∧ ∀ j : Int, 0 ≤ j → j < r → l[j.toNat]? ≠ some e)
theorem ne_next {l : List Ed} {e x : Ed} {j j1 : Int} (j0 : 0 ≤ j) (hj1 : j1 = j + 1) (h : ∀ r : Int, 0 ≤ r → r < j → l[r.toNat]? ≠ some e) (hx : l[j.toNat]? = some x) (hne : x ≠ e) : ∀ r : Int, 0 ≤ r → r < j1 → l[r.toNat]? ≠ some e := by
  intro r h1 h2
  by_cases hr : r < j
  · exact h r h1 hr
  · rw [show r = j by omega, hx]; simpa using hne
theorem ne_all {l : List Ed} {e : Ed} {j M : Int} (hM : Ln M l) (hj : j = M) (h : ∀ r : Int, 0 ≤ r → r < j → l[r.toNat]? ≠ some e) : e ∉ l := by
  intro he
  obtain ⟨i, hi⟩ := List.mem_iff_getElem?.1 he
  have := lt_of_get hi
  unfold Ln at hM
  exact h i (by omega) (by omega) (by simpa using hi)
set_option maxHeartbeats 8000000 in
set_option maxRecDepth 100000 in
theorem index_ed_call (ef ep : Int) (l : List Ed) (es : List AV) (hes : es = l.map Ed.av) (M : Int) (hM : Ln M l) (hMM : M < 2 ^ 48) (K E) (h : ∀ r, IdxIs l ⟨ef, ep⟩ r → K (.int .i64 r) []) :
    CallA Try.prog 74 [.sl 2 es .no, .agg [.int .i64 ef, .int .i64 ep]] [] K E := by
  have hM0 : 0 ≤ M := by unfold Ln at hM; omega
  refine call_fn (n₀ := 0) tab_ok [] Try.func74 rfl rfl rfl rfl (by decide) ?_
  intro J hJ
  have hlo : J.o.len es = M := by subst hJ hes; unfold Ln at hM; simp [std, stdOps, hM]
  cbv
  refine loop_at (β := Int) hJ tab_ok (fun | j => ⟨[(8, .int .i64 j), (7, .int .i64 (J.o.len es)), (3, .ptr 0 0), (0, .sl 2 es .no)], [.var [.int .i64 ef, .int .i64 ep]], 19⟩) (fun | j => (0 ≤ j) ∧ (j ≤ M) ∧ (∀ r : Int, 0 ≤ r → r < j → l[r.toNat]? ≠ some ⟨ef, ep⟩)) (fun | j => (M + 1 - j).toNat) 0 ?_ ?_ ?_ ?_
  · exact ⟨Int.le_refl _, hM0, fun r h1 h2 => by omega⟩
  · refine ⟨?_, ?_, rfl, rfl⟩
    · cbv
      try exact ⟨rfl, trivial⟩
    · cbv
  · rintro j; exact Nat.le_of_ble_eq_true rfl
  rintro j hinv Nx Nxh
  obtain ⟨j0, jM, hj⟩ : (0 ≤ j) ∧ (j ≤ M) ∧ (∀ r : Int, 0 ≤ r → r < j → l[r.toNat]? ≠ some ⟨ef, ep⟩) := hinv
  obtain ⟨j1, hj1⟩ : ∃ j1 : Int, j1 = j + 1 := ⟨_, rfl⟩
  have hN : ∀ env (j' : Int) v, (0 ≤ j') ∧ (j' ≤ M) ∧ (∀ r : Int, 0 ≤ r → r < j' → l[r.toNat]? ≠ some ⟨ef, ep⟩) → (M + 1 - j').toNat < (M + 1 - j).toNat → wkEnv env [(8, .int .i64 j'), (7, .int .i64 (J.o.len es)), (3, .ptr 0 0), (0, .sl 2 es .no)] → Nx ⟨env, [.var [.int .i64 ef, .int .i64 ep]] ++ v, 19⟩ := fun env j' v h1 h2 h3 => Nxh _ j' h1 h2 ⟨h3, by cbv, rfl, rfl⟩
  clear Nxh
  all_goals cbv
  repeat' (first
    | with_reducible exact id
    | exact trivial
    | (with_reducible refine op_is hJ hos ho hoes ?_; cbv)
    | (with_reducible refine op_in hJ hos ?_; intro ok op of oa oes oil hoes hop; cbv)
    | (with_reducible refine ed_in hJ hes ?_; intro xf xp hed; cbv)
    | (with_reducible refine ed_in hJ hoes ?_; intro xf xp hed; cbv)
    | intro hh
    | with_reducible refine And.intro ?_ ?_
    | (with_reducible first | refine awp_go ?_ | refine aops_go ?_ | refine strip_go ?_ | refine draw_go ?_ | refine frames_go ?_); cbv)
  all_goals first
    | (refine hN _ j1 _ ⟨?_, ?_, ne_next j0 hj1 hj hed (by clear h hN; subst hJ; simp only [std, stdOps] at *; grind)⟩ ?_ ?_ <;> first | (with_reducible refine wkEnv_go' ?_; cbv; clear h hN; subst hJ; simp only [std, stdOps] at *; grind [wrap64]) | (clear h hN; subst hJ; simp only [std, stdOps] at *; grind) | (clear h hN; subst hJ; simp only [std, stdOps] at *; grind [wrap64]))
    | (refine h _ (.inr ⟨j0, hed.trans (by clear h hN; subst hJ; simp only [std, stdOps] at *; grind), hj⟩))
    | (refine h _ (.inl ⟨rfl, ne_all hM (by clear h hN; subst hJ; simp only [std, stdOps] at *; grind) hj⟩))
    | (clear h hN; subst hJ; simp only [std, stdOps] at *; grind)
theorem index_ed_at {J : Jd} {n₀ : Nat} (hJ : J = std Try.prog n₀) {ef ep : Int} {l : List Ed} {es : List AV} (hes : es = l.map Ed.av) {M : Int} (hM : Ln M l) (hMM : M < 2 ^ 48) {σ K E} (h : ∀ r, IdxIs l ⟨ef, ep⟩ r → K (.int .i64 r) σ) :
    J.call 74 [.sl 2 es .no, .agg [.int .i64 ef, .int .i64 ep]] σ K E := by
  subst hJ
  refine call_in (J := std Try.prog n₀) rfl [] (by simp) (by simp) (args' := [.sl 2 es .no, .agg [.int .i64 ef, .int .i64 ep]]) (σ' := []) rfl rfl ?_
  refine index_ed_call ef ep l es hes M hM hMM _ _ fun r hr => ?_
  rw [back_nil]; exact h r hr

end Go.Proofs.Ytilffanmaicakaa.A
