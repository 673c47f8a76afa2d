/- ContainsFunc over the sources. -/
import Derived.Test.YtilffanmaicakaaGrSpecE
namespace Go.Proofs.Ytilffanmaicakaa.A
open Go Go.Pt Go.Gr

def tabC : Nat → Ty := fun t => match Nat.beq t 65 with | true => { tab t with md := 2 } | false => tab t
theorem tabC_ok : TabOk Try.prog tabC := tab_ok.md 65 2 (by decide)

/-- A row of N counts. -/
def RowI (xs : List AV) (c : Nat → Int) (N : Int) : Prop := (xs.length : Int) = N ∧ ∀ p : Nat, (p : Int) < N → xs[p]? = some (.int .i64 (c p))

theorem rep_row {J : Jd} {n₀ : Nat} (hJ : J = std Try.prog n₀) {N : Int} (h : 0 ≤ N) : RowI (J.o.rep N (.int .i64 0)) (fun _ => 0) N := by
  subst hJ
  refine ⟨by simp [std, stdOps]; omega, fun p hp => ?_⟩
  simp only [std, stdOps, List.getElem?_replicate]; rw [if_pos (by omega)]
theorem get_row {J : Jd} {n₀ : Nat} (hJ : J = std Try.prog n₀) {xs : List AV} {c : Nat → Int} {N i : Int} (hr : RowI xs c N) (hi : 0 ≤ i ∧ i < N) {K : AV → Prop} (h : K (.int .i64 (c i.toNat))) : ∀ e, J.o.get xs (J.o.sum 0 i) = some e → K e := by
  subst hJ
  intro e he
  have h1 := hr.2 i.toNat (by omega)
  simp only [std, stdOps, Int.zero_add, h1] at he
  simp at he; subst he; exact h
theorem upd_row {J : Jd} {n₀ : Nat} (hJ : J = std Try.prog n₀) {xs : List AV} {c c' : Nat → Int} {N i v : Int} (hr : RowI xs c N) (_hi : 0 ≤ i ∧ i < N) (hc : ∀ q, c' q = if q = i.toNat then v else c q) : RowI (J.o.upd xs (J.o.sum 0 i) (.int .i64 v)) c' N := by
  subst hJ
  have hl := hr.1
  refine ⟨by simp [std, stdOps]; omega, fun p hp => ?_⟩
  simp only [std, stdOps, Int.zero_add, List.getElem?_set, hc]
  by_cases h : i.toNat = p
  · subst h; rw [if_pos rfl, if_pos (by omega), if_pos rfl]
  · rw [if_neg h, if_neg (fun e => h e.symm)]; exact hr.2 p hp
theorem len_row {J : Jd} {n₀ : Nat} (hJ : J = std Try.prog n₀) {xs : List AV} {c : Nat → Int} {N : Int} (hr : RowI xs c N) : J.o.len xs = N := by subst hJ; exact hr.1

set_option maxHeartbeats 8000000 in
set_option maxRecDepth 100000 in
theorem neq1_call (x : Int) (K E) (h : K (.bool (decide (x ≠ 1))) []) : CallA Try.prog 67 [.int .i64 x] [] K E := by
  refine call_fn (n₀ := 0) tab_ok [] Try.func67 rfl rfl rfl rfl (by decide) ?_
  intro J hJ
  cbv
  refine fit_bool h ?_
  subst hJ; simp [std, stdOps, bne]
  rw [Bool.eq_iff_iff]; simp
theorem neq1_at {J : Jd} {n₀ : Nat} (hJ : J = std Try.prog n₀) {x : Int} {σ K E} (h : ∀ r', r' = decide (x ≠ 1) → K (.bool r') σ) : J.call 67 [.int .i64 x] σ K E := call_pure hJ (neq1_call x) (h _ rfl)

set_option maxHeartbeats 8000000 in
set_option maxRecDepth 100000 in
theorem index1_call (xs : List AV) (c : Nat → Int) (N : Int) (hr : RowI xs c N) (hN : 0 ≤ N ∧ N ≤ 4) (K E) (h : ∀ r, -1 ≤ r → (0 ≤ r ↔ ∃ p : Nat, (p : Int) < N ∧ c p ≠ 1) → K (.int .i64 r) [.vec 1 xs]) :
    CallA Try.prog 102 [.vs 0 1 0 N N, .func 67 []] [.vec 1 xs] K E := by
  refine call_fn (n₀ := 1) tabC_ok [] Try.func102 rfl rfl rfl rfl (by simp [rangeN, snoc]) ?_
  intro J hJ
  have hlen := len_row hJ hr
  cbv
  refine loop_at (β := Int) hJ tabC_ok (fun | j => ⟨[(8, .int .i64 j), (7, .int .i64 N), (1, .func 67 []), (0, .vs 0 1 0 N N)], [.vec 1 xs], 19⟩) (fun | j => (0 ≤ j) ∧ (j ≤ N) ∧ (∀ p : Nat, (p : Int) < j → c p = 1)) (fun | j => (N + 1 - j).toNat) 0 ?_ ?_ ?_ ?_
  · exact ⟨Int.le_refl _, hN.1, fun p hp => by omega⟩
  · refine ⟨?_, ?_, rfl, rfl⟩
    · cbv
      try exact ⟨rfl, trivial⟩
    · cbv
  · rintro j; exact Nat.le_of_ble_eq_true rfl
  rintro j hinv Nx Nxh
  obtain ⟨j0, jM, ja⟩ : (0 ≤ j) ∧ (j ≤ N) ∧ (∀ p : Nat, (p : Int) < j → c p = 1) := hinv
  obtain ⟨j1, hj1⟩ : ∃ j1 : Int, j1 = j + 1 := ⟨_, rfl⟩
  have hM : ∀ env (j' : Int) v, (0 ≤ j') ∧ (j' ≤ N) ∧ (∀ p : Nat, (p : Int) < j' → c p = 1) → (N + 1 - j').toNat < (N + 1 - j).toNat → wkEnv env [(8, .int .i64 j'), (7, .int .i64 N), (1, .func 67 []), (0, .vs 0 1 0 N N)] → Nx ⟨env, [.vec 1 xs] ++ v, 19⟩ := fun env j' v h1 h2 h3 => Nxh _ j' h1 h2 ⟨h3, by cbv, rfl, rfl⟩
  clear Nxh
  cbv
  repeat' (first
    | with_reducible exact id
    | exact trivial
    | (with_reducible refine get_row hJ hr ?_ ?_; rotate_left 1; cbv)
    | (with_reducible refine neq1_at hJ ?_; intros)
    | (with_reducible refine op_is hJ hos ho hoes ?_; cbv)
    | (with_reducible refine op_in hJ hos ?_; intro ok op of oa oes oil hoes hop; cbv)
    | (with_reducible refine ed_in hJ hes ?_; intro xf xp hed; cbv)
    | (with_reducible refine ed_in hJ hoes ?_; intro xf xp hed; cbv)
    | intro hh
    | with_reducible refine And.intro ?_ ?_
    | (with_reducible first | refine awp_go ?_ | refine aops_go ?_ | refine strip_go ?_ | refine draw_go ?_ | refine frames_go ?_); cbv)
  all_goals first
    | (refine hM _ j1 _ ⟨?_, ?_, ?_⟩ ?_ ?_ <;> first | (with_reducible refine wkEnv_go' ?_; cbv; clear h hM; subst hJ; simp only [std, stdOps] at *; grind [wrap64]) | (intro p hp; clear h hM; subst hJ; simp only [std, stdOps] at *; grind) | (clear h hM; subst hJ; simp only [std, stdOps] at *; grind [wrap64]))
    | (refine h _ ?_ ?_ <;> clear h hM <;> subst hJ <;> simp only [std, stdOps] at * <;> first | omega | grind)
    | (clear h hM; subst hJ; simp only [std, stdOps] at *; grind)
theorem index1_at {J : Jd} (hJ : J = std Try.prog 1) {xs : List AV} {c : Nat → Int} {N : Int} (hr : RowI xs c N) (hN : 0 ≤ N ∧ N ≤ 4) {K E} (h : ∀ r, -1 ≤ r → (0 ≤ r ↔ ∃ p : Nat, (p : Int) < N ∧ c p ≠ 1) → K (.int .i64 r) [.vec 1 xs]) :
    J.call 102 [.vs 0 1 0 N N, .func 67 []] [.vec 1 xs] K E := by subst hJ; exact index1_call xs c N hr hN K E h

set_option maxHeartbeats 8000000 in
set_option maxRecDepth 100000 in
theorem contains1_call (xs : List AV) (c : Nat → Int) (N : Int) (hr : RowI xs c N) (hN : 0 ≤ N ∧ N ≤ 4) (K E) (h : ∀ r, (r = true ↔ ∃ p : Nat, (p : Int) < N ∧ c p ≠ 1) → K (.bool r) [.vec 1 xs]) :
    CallA Try.prog 66 [.vs 0 1 0 N N, .func 67 []] [.vec 1 xs] K E := by
  refine call_fn (n₀ := 1) tabC_ok [] Try.func66 rfl rfl rfl rfl (by simp [rangeN, snoc]) ?_
  intro J hJ
  cbv
  repeat' (first
    | with_reducible exact id
    | exact trivial
    | (with_reducible refine index1_at hJ hr hN ?_; intro r hr1 hr2; cbv)
    | (with_reducible refine op_is hJ hos ho hoes ?_; cbv)
    | (with_reducible refine op_in hJ hos ?_; intro ok op of oa oes oil hoes hop; cbv)
    | (with_reducible refine ed_in hJ hes ?_; intro xf xp hed; cbv)
    | (with_reducible refine ed_in hJ hoes ?_; intro xf xp hed; cbv)
    | intro hh
    | with_reducible refine And.intro ?_ ?_
    | (with_reducible first | refine awp_go ?_ | refine aops_go ?_ | refine strip_go ?_ | refine draw_go ?_ | refine frames_go ?_); cbv)
  refine h _ ?_
  rw [← hr2]; subst hJ; simp [std, stdOps]

end Go.Proofs.Ytilffanmaicakaa.A
