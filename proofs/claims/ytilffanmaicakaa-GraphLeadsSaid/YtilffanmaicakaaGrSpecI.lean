/- Sink. -/
import Derived.Test.YtilffanmaicakaaGrSpecH
import Derived.Test.YtilffanmaicakaaAmWeak
namespace Go.Proofs.Ytilffanmaicakaa.A
open Go Go.Pt Go.Gr

set_option maxHeartbeats 8000000 in
set_option maxRecDepth 100000 in
theorem isSink_call (k p f a : Int) (es : List AV) (K E) (h : K (.bool (decide (k = 9))) []) : CallA Try.prog 73 [.agg [.int .i64 k, .int .i64 p, .int .i64 f, .int .i64 a, .sl 2 es .no]] [] K E := by
  refine call_fn (n₀ := 0) tab_ok [] Try.func73 rfl rfl rfl rfl (by decide) ?_
  intro J hJ
  cbv
  refine fit_bool h ?_
  subst hJ; simp only [std, stdOps]; rw [Bool.eq_iff_iff]; simp
theorem isSink_at {J : Jd} {n₀ : Nat} (hJ : J = std Try.prog n₀) {k p f a : Int} {es : List AV} {σ K E} (h : ∀ r', r' = decide (k = 9) → K (.bool r') σ) : J.call 73 [.agg [.int .i64 k, .int .i64 p, .int .i64 f, .int .i64 a, .sl 2 es .no]] σ K E := call_pure hJ (isSink_call k p f a es) (h _ rfl)

/-- Where the sink is. -/
def SinkAt (l : List Gr.Op) (r : Int) : Prop := (r = -1 ∧ ∀ o ∈ l, o.k ≠ 9) ∨ (0 ≤ r ∧ (∃ o, l[r.toNat]? = some o ∧ o.k = 9) ∧ ∀ j : Int, 0 ≤ j → j < r → ∀ o, l[j.toNat]? = some o → o.k ≠ 9)
theorem sink_no {l : List Gr.Op} {L q : Int} (hL : Ln L l) (hq : q = L) (h : ∀ j : Int, 0 ≤ j → j < q → ∀ o, l[j.toNat]? = some o → o.k ≠ 9) : SinkAt l (-1) := by
  refine .inl ⟨rfl, fun o ho => ?_⟩
  obtain ⟨i, hi⟩ := List.mem_iff_getElem?.1 ho
  have := lt_of_get hi
  unfold Ln at hL
  exact h i (by omega) (by omega) o (by simpa using hi)
theorem sink_next {l : List Gr.Op} {q q1 k p f a : Int} {il : List Ed} (hq1 : q1 = q + 1) (_q0 : 0 ≤ q) (ho : l[q.toNat]? = some ⟨k, p, f, a, il⟩) (hk : k ≠ 9) (h : ∀ j : Int, 0 ≤ j → j < q → ∀ o, l[j.toNat]? = some o → o.k ≠ 9) : ∀ j : Int, 0 ≤ j → j < q1 → ∀ o, l[j.toNat]? = some o → o.k ≠ 9 := by
  intro j h1 h2 o hj
  by_cases hlt : j < q
  · exact h j h1 hlt o hj
  · rw [show j = q by omega, ho] at hj
    obtain rfl := Option.some.inj hj
    exact hk

set_option maxHeartbeats 8000000 in
set_option maxRecDepth 100000 in
theorem indexOp_call (l : List Gr.Op) (os : List AV) (hos : os = l.map Gr.Op.av) (L : Int) (hL : Ln L l) (hLL : L < 2 ^ 48) (K E) (h : ∀ r, SinkAt l r → K (.int .i64 r) []) :
    CallA Try.prog 72 [.sl 5 os .no, .func 73 []] [] K E := by
  have hL0 : 0 ≤ L := by unfold Ln at hL; omega
  refine call_fn (n₀ := 0) tab_ok [] Try.func72 rfl rfl rfl rfl (by decide) ?_
  intro J hJ
  have hlos : J.o.len os = L := by subst hJ hos; unfold Ln at hL; simp [std, stdOps, hL]
  cbv
  refine loop_at (β := Int) hJ tab_ok (fun | q => ⟨[(8, .int .i64 q), (7, .int .i64 (J.o.len os)), (1, .func 73 []), (0, .sl 5 os .no)], [], 19⟩) (fun | q => (0 ≤ q) ∧ (q ≤ L) ∧ (∀ j : Int, 0 ≤ j → j < q → ∀ o, l[j.toNat]? = some o → o.k ≠ 9)) (fun | q => (L + 1 - q).toNat) 0 ?_ ?_ ?_ ?_
  · exact ⟨Int.le_refl _, hL0, fun j h1 h2 => by omega⟩
  · refine ⟨?_, ?_, rfl, rfl⟩
    · cbv
      try exact ⟨rfl, trivial⟩
    · cbv
  · rintro q; exact Nat.le_of_ble_eq_true rfl
  rintro q hinv Nx Nxh
  obtain ⟨q0, qL, hq⟩ : (0 ≤ q) ∧ (q ≤ L) ∧ (∀ j : Int, 0 ≤ j → j < q → ∀ o, l[j.toNat]? = some o → o.k ≠ 9) := hinv
  obtain ⟨q1, hq1⟩ : ∃ q1 : Int, q1 = q + 1 := ⟨_, rfl⟩
  have hN : ∀ env (q' : Int) v, (0 ≤ q') ∧ (q' ≤ L) ∧ (∀ j : Int, 0 ≤ j → j < q' → ∀ o, l[j.toNat]? = some o → o.k ≠ 9) → (L + 1 - q').toNat < (L + 1 - q).toNat → wkEnv env [(8, .int .i64 q'), (7, .int .i64 (J.o.len os)), (1, .func 73 []), (0, .sl 5 os .no)] → Nx ⟨env, [] ++ v, 19⟩ := fun env q' v h1 h2 h3 => Nxh _ q' h1 h2 ⟨h3, by cbv, rfl, rfl⟩
  clear Nxh
  all_goals cbv
  repeat' (first
    | with_reducible exact id
    | exact trivial
    | (with_reducible refine isSink_at hJ ?_; intros)
    | (with_reducible refine op_is hJ hos ho hoes ?_; cbv)
    | (with_reducible refine op_in hJ hos ?_; intro ok op of oa oes oil hoes hop; cbv)
    | (with_reducible refine ed_in hJ hes ?_; intro xf xp hed; cbv)
    | (with_reducible refine ed_in hJ hoes ?_; intro xf xp hed; cbv)
    | intro hh
    | with_reducible refine And.intro ?_ ?_
    | (with_reducible first | refine awp_go ?_ | refine aops_go ?_ | refine strip_go ?_ | refine draw_go ?_ | refine frames_go ?_); cbv)
  all_goals first
    | (refine hN _ q1 _ ⟨?_, ?_, sink_next hq1 q0 hop (by clear h hN; subst hJ; simp only [std, stdOps] at *; grind) hq⟩ ?_ ?_ <;> first | (with_reducible refine wkEnv_go' ?_; cbv; clear h hN; subst hJ; simp only [std, stdOps] at *; grind [wrap64]) | (clear h hN; subst hJ; simp only [std, stdOps] at *; grind [wrap64]))
    | (refine h _ (.inr ⟨q0, ⟨_, hop, by clear h hN; subst hJ; simp only [std, stdOps] at *; grind⟩, hq⟩))
    | (refine h _ (sink_no hL (by clear h hN; subst hJ; simp only [std, stdOps] at *; grind) hq))
    | (clear h hN; subst hJ; simp only [std, stdOps] at *; grind)
theorem indexOp_at {J : Jd} {n₀ : Nat} (hJ : J = std Try.prog n₀) {l : List Gr.Op} {os : List AV} (hos : os = l.map Gr.Op.av) {L : Int} (hL : Ln L l) (hLL : L < 2 ^ 48) {σ K E} (h : ∀ r, SinkAt l r → K (.int .i64 r) σ) :
    J.call 72 [.sl 5 os .no, .func 73 []] σ K E := by
  subst hJ
  refine call_in (J := std Try.prog n₀) rfl [] (by simp) (by simp) (args' := [.sl 5 os .no, .func 73 []]) (σ' := []) rfl rfl ?_
  refine indexOp_call l os hos L hL hLL _ _ fun r hr => ?_
  rw [back_nil]; exact h r hr

set_option maxHeartbeats 8000000 in
set_option maxRecDepth 100000 in
theorem sink_call (n : Int) (l : List Gr.Op) (os : List AV) (hos : os = l.map Gr.Op.av) (L : Int) (hL : Ln L l) (hLL : L < 2 ^ 48) (K E) (h : ∀ r r2 b, SinkAt l r → r2 = (if r < 0 then 0 else r) → b = decide (0 ≤ r) → K (.tup [.int .i64 r2, .bool b]) []) :
    CallA Try.prog 31 [.agg [.int .i64 n, .sl 5 os .no]] [] K E := by
  refine call_fn (n₀ := 0) tab_ok [] Try.func31 rfl rfl rfl rfl (by decide) ?_
  intro J hJ
  cbv
  repeat' (first
    | with_reducible exact id
    | exact trivial
    | (with_reducible refine indexOp_at hJ hos hL hLL ?_; intro r hr; cbv)
    | (with_reducible refine op_is hJ hos ho hoes ?_; cbv)
    | (with_reducible refine op_in hJ hos ?_; intro ok op of oa oes oil hoes hop; cbv)
    | (with_reducible refine ed_in hJ hes ?_; intro xf xp hed; cbv)
    | (with_reducible refine ed_in hJ hoes ?_; intro xf xp hed; cbv)
    | intro hh
    | with_reducible refine And.intro ?_ ?_
    | (with_reducible first | refine awp_go ?_ | refine aops_go ?_ | refine strip_go ?_ | refine draw_go ?_ | refine frames_go ?_); cbv)
  refine h r _ _ hr ?_ ?_
  · clear h; subst hJ; simp only [std, stdOps]
  · clear h; subst hJ; simp only [std, stdOps]

end Go.Proofs.Ytilffanmaicakaa.A
