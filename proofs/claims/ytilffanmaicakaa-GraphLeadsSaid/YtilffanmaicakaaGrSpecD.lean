/- edges. -/
import Derived.Test.YtilffanmaicakaaGrSpecC
namespace Go.Proofs.Ytilffanmaicakaa.A
open Go Go.Pt Go.Gr

set_option maxHeartbeats 8000000 in
set_option maxRecDepth 100000 in
theorem clo_call (n i xf xp : Int) (l : List Gr.Op) (os : List AV) (hos : os = l.map Gr.Op.av) (L : Int) (hL : Ln L l) (hi : 0 ≤ i ∧ i ≤ L) (_hll : L < 1000) (K E) (h : K (.bool (!edgeOk l i ⟨xf, xp⟩)) [.var [.int .i64 i], .var [.int .i64 n, .sl 5 os .no]]) :
    CallA Try.prog 122 [.agg [.int .i64 xf, .int .i64 xp], .ptr 0 0, .ptr 1 0] [.var [.int .i64 i], .var [.int .i64 n, .sl 5 os .no]] K E := by
  refine call_fn (n₀ := 2) tab_ok [] Try.func122 rfl rfl rfl rfl (by simp [rangeN, snoc]) ?_
  intro J hJ
  have hlos : J.o.len os = L := by subst hJ hos; unfold Ln at hL; simp [std, stdOps, hL]
  cbv
  repeat' (first
    | with_reducible exact id
    | exact trivial
    | (with_reducible refine op_is hJ hos ho hoes ?_; cbv)
    | (with_reducible refine op_in hJ hos ?_; intro ok op of oa oes oil hoes hop; cbv)
    | (with_reducible refine ed_in hJ hes ?_; intro xf xp hed; cbv)
    | (with_reducible refine ed_in hJ hoes ?_; intro xf xp hed; cbv)
    | (with_reducible refine ports_at hJ ?_; intros)
    | (with_reducible refine portsN_at hJ ?_; intros)
    | (with_reducible refine ports_pure hJ ?_; intros)
    | (with_reducible refine portsN_pure hJ ?_; intros)
    | intro hh
    | with_reducible refine And.intro ?_ ?_
    | (with_reducible first | refine awp_go ?_ | refine aops_go ?_ | refine strip_go ?_ | refine draw_go ?_ | refine frames_go ?_); cbv)
  all_goals first
    | (refine fit_bool h ?_; rw [edge_no (by clear h; subst hJ; simp only [std, stdOps] at *; grind)]; clear h; subst hJ; simp only [std, stdOps] at *; grind)
    | (refine fit_bool h ?_; rw [edge_of hop]; clear h; subst hJ; simp only [std, stdOps] at *; grind)
    | (clear h; subst hJ; simp only [std, stdOps] at *; grind)
theorem clo_at {J : Jd} (hJ : J = std Try.prog 2) {n i xf xp : Int} {l : List Gr.Op} {os : List AV} (hos : os = l.map Gr.Op.av) {L : Int} (hL : Ln L l) (hi : 0 ≤ i ∧ i ≤ L) (hll : L < 1000) {K E} (h : ∀ r', r' = !edgeOk l i ⟨xf, xp⟩ → K (.bool r') [.var [.int .i64 i], .var [.int .i64 n, .sl 5 os .no]]) :
    J.call 122 [.agg [.int .i64 xf, .int .i64 xp], .ptr 0 0, .ptr 1 0] [.var [.int .i64 i], .var [.int .i64 n, .sl 5 os .no]] K E := by
  subst hJ; exact clo_call n i xf xp l os hos L hL hi hll K E (h _ rfl)

set_option maxHeartbeats 8000000 in
set_option maxRecDepth 100000 in
theorem index_call (n i : Int) (l : List Gr.Op) (os : List AV) (hos : os = l.map Gr.Op.av) (L : Int) (hL : Ln L l) (hi : 0 ≤ i ∧ i ≤ L) (hll : L < 1000) (oil : List Ed) (oes : List AV) (hoes : oes = oil.map Ed.av) (M : Int) (hM : Ln M oil) (hMM : M < 1000) (K E) (h : ∀ r, -1 ≤ r → (0 ≤ r ↔ oil.all (edgeOk l i) = false) → K (.int .i64 r) [.var [.int .i64 i], .var [.int .i64 n, .sl 5 os .no]]) :
    CallA Try.prog 127 [.sl 2 oes .no, .func 122 [.ptr 0 0, .ptr 1 0]] [.var [.int .i64 i], .var [.int .i64 n, .sl 5 os .no]] K E := by
  refine call_fn (n₀ := 2) tab_ok [] Try.func127 rfl rfl rfl rfl (by simp [rangeN, snoc]) ?_
  intro J hJ
  have hlo : J.o.len oes = M := by subst hJ hoes; unfold Ln at hM; simp [std, stdOps, hM]
  have hM0 : 0 ≤ M := by unfold Ln at hM; omega
  cbv
  refine loop_at (β := Int) hJ tab_ok (fun | j => ⟨[(8, .int .i64 j), (7, .int .i64 (J.o.len oes)), (1, .func 122 [.ptr 0 0, .ptr 1 0]), (0, .sl 2 oes .no)], [.var [.int .i64 i], .var [.int .i64 n, .sl 5 os .no]], 19⟩) (fun | j => (0 ≤ j) ∧ (j ≤ M) ∧ ((oil.take j.toNat).all (edgeOk l i) = true)) (fun | j => (M + 1 - j).toNat) 0 ?_ ?_ ?_ ?_
  · exact ⟨Int.le_refl _, hM0, by simp⟩
  · refine ⟨?_, ?_, rfl, rfl⟩
    · cbv
      try exact ⟨rfl, trivial⟩
    · cbv
  · rintro j; exact Nat.le_of_ble_eq_true rfl
  rintro j hinv Nx Nxh
  obtain ⟨j0, jM, ja⟩ : (0 ≤ j) ∧ (j ≤ M) ∧ ((oil.take j.toNat).all (edgeOk l i) = true) := hinv
  obtain ⟨j1, hj1⟩ : ∃ j1 : Int, j1 = j + 1 := ⟨_, rfl⟩
  have hN : ∀ env (j' : Int) v, (0 ≤ j') ∧ (j' ≤ M) ∧ ((oil.take j'.toNat).all (edgeOk l i) = true) → (M + 1 - j').toNat < (M + 1 - j).toNat → wkEnv env [(8, .int .i64 j'), (7, .int .i64 (J.o.len oes)), (1, .func 122 [.ptr 0 0, .ptr 1 0]), (0, .sl 2 oes .no)] → Nx ⟨env, [.var [.int .i64 i], .var [.int .i64 n, .sl 5 os .no]] ++ v, 19⟩ := fun env j' v h1 h2 h3 => Nxh _ j' h1 h2 ⟨h3, by cbv, rfl, rfl⟩
  clear Nxh
  cbv
  repeat' (first
    | with_reducible exact id
    | exact trivial
    | (with_reducible refine clo_at hJ hos hL hi hll ?_; intros)
    | (with_reducible refine op_is hJ hos ho hoes ?_; cbv)
    | (with_reducible refine op_in hJ hos ?_; intro ok op of oa oes oil hoes hop; cbv)
    | (with_reducible refine ed_in hJ hes ?_; intro xf xp hed; cbv)
    | (with_reducible refine ed_in hJ hoes ?_; intro xf xp hed; cbv)
    | intro hh
    | with_reducible refine And.intro ?_ ?_
    | (with_reducible first | refine awp_go ?_ | refine aops_go ?_ | refine strip_go ?_ | refine draw_go ?_ | refine frames_go ?_); cbv)
  all_goals first
    | (refine hN _ j1 _ ⟨?_, ?_, ?_⟩ ?_ ?_ <;> first | (with_reducible refine wkEnv_go' ?_; cbv; clear h hN; subst hJ; simp only [std, stdOps] at *; grind [wrap64]) | (rw [all_succ j0 hj1 hed, ja]; clear h hN; subst hJ; simp only [std, stdOps] at *; grind) | (clear h hN; subst hJ; simp only [std, stdOps] at *; grind [wrap64]))
    | (refine h _ ?_ ?_ <;> first | decide | (clear h hN; subst hJ; simp only [std, stdOps] at *; omega) | (rw [all_bad hed (by clear h hN; subst hJ; simp only [std, stdOps] at *; grind)]; simp; omega) | (rw [← all_take hM (k := j) (by clear h hN; subst hJ; simp only [std, stdOps] at *; grind), ja]; simp))
    | (clear h hN; subst hJ; simp only [std, stdOps] at *; grind)
theorem index_at {J : Jd} (hJ : J = std Try.prog 2) {n i : Int} {l : List Gr.Op} {os : List AV} (hos : os = l.map Gr.Op.av) {L : Int} (hL : Ln L l) (hi : 0 ≤ i ∧ i ≤ L) (hll : L < 1000) {oil : List Ed} {oes : List AV} (hoes : oes = oil.map Ed.av) {M : Int} (hM : Ln M oil) (hMM : M < 1000) {K E} (h : ∀ r, -1 ≤ r → (0 ≤ r ↔ oil.all (edgeOk l i) = false) → K (.int .i64 r) [.var [.int .i64 i], .var [.int .i64 n, .sl 5 os .no]]) :
    J.call 127 [.sl 2 oes .no, .func 122 [.ptr 0 0, .ptr 1 0]] [.var [.int .i64 i], .var [.int .i64 n, .sl 5 os .no]] K E := by
  subst hJ; exact index_call n i l os hos L hL hi hll oil oes hoes M hM hMM K E h

set_option maxHeartbeats 8000000 in
set_option maxRecDepth 100000 in
theorem contains_call (n i : Int) (l : List Gr.Op) (os : List AV) (hos : os = l.map Gr.Op.av) (L : Int) (hL : Ln L l) (hi : 0 ≤ i ∧ i ≤ L) (hll : L < 1000) (oil : List Ed) (oes : List AV) (hoes : oes = oil.map Ed.av) (M : Int) (hM : Ln M oil) (hMM : M < 1000) (K E) (h : K (.bool (!oil.all (edgeOk l i))) [.var [.int .i64 i], .var [.int .i64 n, .sl 5 os .no]]) :
    CallA Try.prog 121 [.sl 2 oes .no, .func 122 [.ptr 0 0, .ptr 1 0]] [.var [.int .i64 i], .var [.int .i64 n, .sl 5 os .no]] K E := by
  refine call_fn (n₀ := 2) tab_ok [] Try.func121 rfl rfl rfl rfl (by simp [rangeN, snoc]) ?_
  intro J hJ
  cbv
  repeat' (first
    | with_reducible exact id
    | exact trivial
    | (with_reducible refine index_at hJ hos hL hi hll hoes hM hMM ?_; intro r hr1 hr2; cbv)
    | (with_reducible refine op_is hJ hos ho hoes ?_; cbv)
    | (with_reducible refine op_in hJ hos ?_; intro ok op of oa oes oil hoes hop; cbv)
    | (with_reducible refine ed_in hJ hes ?_; intro xf xp hed; cbv)
    | (with_reducible refine ed_in hJ hoes ?_; intro xf xp hed; cbv)
    | intro hh
    | with_reducible refine And.intro ?_ ?_
    | (with_reducible first | refine awp_go ?_ | refine aops_go ?_ | refine strip_go ?_ | refine draw_go ?_ | refine frames_go ?_); cbv)
  refine fit_bool h ?_
  clear h; subst hJ; simp only [std, stdOps]
  cases hb : oil.all (edgeOk l i)
  · simp [hr2.2 hb]
  · have : ¬ 0 ≤ r := fun hc => by rw [hr2.1 hc] at hb; simp at hb
    simp [this]

set_option maxHeartbeats 8000000 in
set_option maxRecDepth 100000 in
theorem edges_call (n i : Int) (l : List Gr.Op) (os : List AV) (hos : os = l.map Gr.Op.av) (L : Int) (hL : Ln L l) (hi : 0 ≤ i ∧ i < L) (hll : L < 1000) (ok op of oa : Int) (oil : List Ed) (oes : List AV) (hoes : oes = oil.map Ed.av) (ho : l[i.toNat]? = some ⟨ok, op, of, oa, oil⟩) (K E) (h : K (.bool (insOk l i ok oil)) []) :
    CallA Try.prog 101 [.agg [.int .i64 n, .sl 5 os .no], .int .i64 i] [] K E := by
  obtain ⟨M, hM⟩ : ∃ M : Int, Ln M oil := ⟨_, rfl⟩
  refine call_fn (n₀ := 0) tab_ok [] Try.func101 rfl rfl rfl rfl (by decide) ?_
  intro J hJ
  have hlo : J.o.len oes = M := by subst hJ hoes; unfold Ln at hM; simp [std, stdOps, hM]
  have hlos : J.o.len os = L := by subst hJ hos; unfold Ln at hL; simp [std, stdOps, hL]
  have hM0 : 0 ≤ M := by unfold Ln at hM; omega
  cbv
  repeat' (first
    | with_reducible exact id
    | exact trivial
    | (refine call_in hJ [1, 0] (by decide) rfl rfl rfl (contains_call n i l os hos L hL (by omega) hll oil oes hoes M hM ?_ _ _ ?_); rotate_left 1; cbv)
    | (with_reducible refine op_is hJ hos ho hoes ?_; cbv)
    | (with_reducible refine op_in hJ hos ?_; intro ok op of oa oes oil hoes hop; cbv)
    | (with_reducible refine ed_in hJ hes ?_; intro xf xp hed; cbv)
    | (with_reducible refine ed_in hJ hoes ?_; intro xf xp hed; cbv)
    | intro hh
    | with_reducible refine And.intro ?_ ?_
    | (with_reducible first | refine awp_go ?_ | refine aops_go ?_ | refine strip_go ?_ | refine draw_go ?_ | refine frames_go ?_); cbv)
  all_goals first
    | (refine fit_bool h ?_; rw [insOk_eq hM]; unfold least most; clear h; subst hJ; simp only [std, stdOps] at *; grind)
    | (clear h; subst hJ; simp only [std, stdOps] at *; grind)
theorem edges_at {J : Jd} {n₀ : Nat} (hJ : J = std Try.prog n₀) {n i : Int} {l : List Gr.Op} {os : List AV} (hos : os = l.map Gr.Op.av) {L : Int} (hL : Ln L l) (hi : 0 ≤ i ∧ i < L) (hll : L < 1000) {ok op of oa : Int} {oil : List Ed} {oes : List AV} (hoes : oes = oil.map Ed.av) (ho : l[i.toNat]? = some ⟨ok, op, of, oa, oil⟩) {σ K E} (h : ∀ r', r' = insOk l i ok oil → K (.bool r') σ) :
    J.call 101 [.agg [.int .i64 n, .sl 5 os .no], .int .i64 i] σ K E := call_pure hJ (edges_call n i l os hos L hL hi hll ok op of oa oil oes hoes ho) (h _ rfl)
theorem inputs'_at {J : Jd} {n₀ : Nat} (hJ : J = std Try.prog n₀) {n i : Int} {l : List Gr.Op} {os : List AV} (hos : os = l.map Gr.Op.av) {L : Int} (hL : Ln L l) (hi : 0 ≤ i ∧ i < L) (hll : L < 1000) {ok op of oa : Int} {oil : List Ed} {oes : List AV} (hoes : oes = oil.map Ed.av) (ho : l[i.toNat]? = some ⟨ok, op, of, oa, oil⟩) {σ K E} (h : ∀ r', r' = insOk l i ok oil → K (.bool r') σ) :
    J.call 69 [.agg [.int .i64 n, .sl 5 os .no], .int .i64 i] σ K E := call_pure hJ (inputs'_call n i l os hos L hL hi hll ok op of oa oil oes hoes ho) (h _ rfl)

end Go.Proofs.Ytilffanmaicakaa.A
