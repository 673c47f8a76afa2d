/- inputs, edges. -/
import Derived.Test.YtilffanmaicakaaGrSpecB
namespace Go.Proofs.Ytilffanmaicakaa.A
open Go Go.Pt Go.Gr

def Ln {α : Type} (L : Int) (l : List α) : Prop := L = (l.length : Int)
theorem insOk_eq {l : List Gr.Op} {n k : Int} {es : List Ed} {E : Int} (hE : Ln E es) : insOk l n k es = (decide (least k ≤ E) && decide (E ≤ most k) && es.all (edgeOk l n)) := by unfold insOk; rw [← hE]
theorem all_take {l : List Ed} {p : Ed → Bool} {k : Int} {E : Int} (hE : Ln E l) (hk : k = E) : (l.take k.toNat).all p = l.all p := by
  unfold Ln at hE; subst hk hE; simp
theorem all_succ {l : List Ed} {p : Ed → Bool} {k k1 : Int} {x : Ed} (hk : 0 ≤ k) (hk1 : k1 = k + 1) (hx : l[k.toNat]? = some x) : (l.take k1.toNat).all p = ((l.take k.toNat).all p && p x) := by
  rw [hk1, show (k + 1).toNat = k.toNat + 1 by omega, List.take_add_one, hx]; simp
theorem all_bad {l : List Ed} {p : Ed → Bool} {k : Nat} {x : Ed} (hx : l[k]? = some x) (hp : p x = false) : l.all p = false := by
  rw [List.all_eq_false]; exact ⟨x, List.mem_of_getElem? hx, by simp [hp]⟩
theorem edge_of {l : List Gr.Op} {n xf xp k p f a : Int} {il : List Ed} (h : l[xf.toNat]? = some ⟨k, p, f, a, il⟩) : edgeOk l n ⟨xf, xp⟩ = (decide (0 ≤ xf) && decide (xf < n) && decide (0 ≤ xp) && decide (xp < ports k a)) := by
  unfold edgeOk; simp only; rw [h]
theorem edge_no {l : List Gr.Op} {n xf xp : Int} (h : xf < 0 ∨ n ≤ xf ∨ xp < 0) : edgeOk l n ⟨xf, xp⟩ = false := by
  unfold edgeOk; simp only
  rcases h with h | h | h
  · simp [Int.not_le.2 h]
  · simp [Int.not_lt.2 h]
  · simp [Int.not_le.2 h]
set_option maxHeartbeats 8000000 in
set_option maxRecDepth 100000 in
theorem inputs'_call (n i : Int) (l : List Gr.Op) (os : List AV) (hos : os = l.map Gr.Op.av) (L : Int) (hL : Ln L l) (hi : 0 ≤ i ∧ i < L) (_hll : L < 1000) (ok op of oa : Int) (oil : List Ed) (oes : List AV) (hoes : oes = oil.map Ed.av) (ho : l[i.toNat]? = some ⟨ok, op, of, oa, oil⟩) (K E) (h : K (.bool (insOk l i ok oil)) []) :
    CallA Try.prog 69 [.agg [.int .i64 n, .sl 5 os .no], .int .i64 i] [] K E := by
  obtain ⟨M, hM⟩ : ∃ M : Int, Ln M oil := ⟨_, rfl⟩
  refine call_fn (n₀ := 0) tab_ok [] Try.func69 rfl rfl rfl rfl (by decide) ?_
  intro J hJ
  have hlo : J.o.len oes = M := by subst hJ hoes; unfold Ln at hM; simp [std, stdOps, hM]
  have hlos : J.o.len os = L := by subst hJ hos; unfold Ln at hL; simp [std, stdOps, hL]
  cbv
  repeat' (first
    | with_reducible exact id
    | exact trivial
    | (with_reducible refine op_is hJ hos ho hoes ?_; cbv)
    | (with_reducible refine op_in hJ hos ?_; intro ok op of oa oes oil hoes hop; cbv)
    | (with_reducible refine ed_in hJ hes ?_; intro xf xp hed; cbv)
    | (with_reducible refine ed_in hJ hoes ?_; intro xf xp hed; cbv)
    | intro hh
    | with_reducible refine And.intro ?_ ?_
    | (with_reducible first | refine awp_go ?_ | refine aops_go ?_ | refine strip_go ?_ | refine draw_go ?_ | refine frames_go ?_); cbv)
  all_goals first
    | (refine fit_bool h ?_; rw [insOk_eq hM]; unfold least most; clear h; subst hJ; simp only [std, stdOps] at *; grind)
    | (clear h; subst hJ; simp only [std, stdOps] at *; grind)
    | skip
  all_goals
    have hM4 : 0 ≤ M ∧ M ≤ 4 ∧ least ok ≤ M ∧ M ≤ most ok := by
      have : 0 ≤ M := by unfold Ln at hM; omega
      unfold least most; clear h; subst hJ; simp only [std, stdOps] at *; grind
    refine loop_at (β := Int) hJ tab_ok (fun | j => ⟨[(8, .int .i64 j), (5, .ptr 1 0), (2, .ptr 0 0), (1, .int .i64 i)], [.var [.int .i64 n, .sl 5 os .no], .var [.int .i64 ok, .int .i64 op, .int .i64 of, .int .i64 oa, .sl 2 oes .no]], 71⟩) (fun | j => (0 ≤ j) ∧ (j ≤ M) ∧ ((oil.take j.toNat).all (edgeOk l i) = true)) (fun | j => (M + 1 - j).toNat) 0 ?_ ?_ ?_ ?_
    · exact ⟨Int.le_refl _, hM4.1, by simp⟩
    · refine ⟨?_, ?_, rfl, rfl⟩
      · cbv
        try exact ⟨rfl, trivial⟩
      · cbv
    · rintro j; exact Nat.le_of_ble_eq_true rfl
    rintro j hinv Nx Nxh
    obtain ⟨j0, jM, ja⟩ : (0 ≤ j) ∧ (j ≤ M) ∧ ((oil.take j.toNat).all (edgeOk l i) = true) := hinv
    obtain ⟨j1, hj1⟩ : ∃ j1 : Int, j1 = j + 1 := ⟨_, rfl⟩
    have hN : ∀ env (j' : Int) v, (0 ≤ j') ∧ (j' ≤ M) ∧ ((oil.take j'.toNat).all (edgeOk l i) = true) → (M + 1 - j').toNat < (M + 1 - j).toNat → wkEnv env [(8, .int .i64 j'), (5, .ptr 1 0), (2, .ptr 0 0), (1, .int .i64 i)] → Nx ⟨env, [.var [.int .i64 n, .sl 5 os .no], .var [.int .i64 ok, .int .i64 op, .int .i64 of, .int .i64 oa, .sl 2 oes .no]] ++ v, 71⟩ := fun env j' v h1 h2 h3 => Nxh _ j' h1 h2 ⟨h3, by cbv, rfl, rfl⟩
    clear Nxh
    cbv
    repeat' (first
      | with_reducible exact id
      | exact trivial
      | (with_reducible refine op_is hJ hos ho hoes ?_; cbv)
      | (with_reducible refine op_in hJ hos ?_; intro ok op of oa oes oil hoes hop; cbv)
      | (with_reducible refine ed_in hJ hes ?_; intro xf xp hed; cbv)
      | (with_reducible refine ed_in hJ hoes ?_; intro xf xp hed; cbv)
      | (with_reducible refine ports'_at hJ ?_; intros)
      | (with_reducible refine portsN'_at hJ ?_; intros)
      | (with_reducible refine ports'_pure hJ ?_; intros)
      | (with_reducible refine portsN'_pure hJ ?_; intros)
      | intro hh
      | with_reducible refine And.intro ?_ ?_
      | (with_reducible first | refine awp_go ?_ | refine aops_go ?_ | refine strip_go ?_ | refine draw_go ?_ | refine frames_go ?_); cbv)
    all_goals first
      | (refine hN _ j1 _ ⟨?_, ?_, ?_⟩ ?_ ?_ <;> first | (with_reducible refine wkEnv_go' ?_; cbv; clear h hN; subst hJ; simp only [std, stdOps] at *; grind [wrap64]) | (rw [all_succ j0 hj1 hed, ja, edge_of hop]; clear h hN; subst hJ; simp only [std, stdOps] at *; grind) | (clear h hN; subst hJ; simp only [std, stdOps] at *; grind [wrap64]))
      | (refine fit_bool h ?_; rw [insOk_eq hM, ← all_take hM (k := j) (by clear h hN; subst hJ; simp only [std, stdOps] at *; grind), ja]; clear h hN; subst hJ; simp only [std, stdOps] at *; grind)
      | (refine fit_bool h ?_; rw [insOk_eq hM, all_bad hed (by clear h hN; subst hJ; simp only [std, stdOps] at *; grind [edge_no])] <;> simp)
      | (refine fit_bool h ?_; rw [insOk_eq hM, all_bad hed (by rw [edge_of hop]; clear h hN; subst hJ; simp only [std, stdOps] at *; grind)] <;> simp)
      | (clear h hN; subst hJ; simp only [std, stdOps] at *; grind)

end Go.Proofs.Ytilffanmaicakaa.A
