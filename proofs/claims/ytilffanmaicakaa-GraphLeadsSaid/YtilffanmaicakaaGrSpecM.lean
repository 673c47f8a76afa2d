/- Where a port leads: the document's To. -/
import Derived.Test.YtilffanmaicakaaGrSpecL
namespace Go.Proofs.Ytilffanmaicakaa.A
open Go Go.Pt Go.Gr

set_option maxHeartbeats 8000000 in
set_option maxRecDepth 100000 in
theorem to'_call (n ef ep : Int) (l : List Gr.Op) (os : List AV) (hos : os = l.map Gr.Op.av) (L : Int) (hL : Ln L l) (hLL : L < 2 ^ 48) (hI : LnIn l) (K E) (h : ∀ a b c, ToAt l ⟨ef, ep⟩ a b c → K (.tup [.int .i64 a, .int .i64 b, .bool c]) []) :
    CallA Try.prog 33 [.agg [.int .i64 n, .sl 5 os .no], .int .i64 ef, .int .i64 ep] [] K E := by
  have hL0 : 0 ≤ L := by unfold Ln at hL; omega
  refine call_fn (n₀ := 0) tab_ok [] Try.func33 rfl rfl rfl rfl (by decide) ?_
  intro J hJ
  have hlos : J.o.len os = L := by subst hJ hos; unfold Ln at hL; simp [std, stdOps, hL]
  cbv
  refine loop_at (β := Int) hJ tab_ok (fun | q => ⟨[(9, .int .i64 q), (3, .ptr 0 0), (2, .int .i64 ep), (1, .int .i64 ef)], [.var [.int .i64 n, .sl 5 os .no]], 57⟩) (fun | q => (0 ≤ q) ∧ (q ≤ L) ∧ (ToNot l ⟨ef, ep⟩ q)) (fun | q => (L + 1 - q).toNat) 0 ?_ ?_ ?_ ?_
  · exact ⟨Int.le_refl _, hL0, toNot_zero⟩
  · refine ⟨?_, ?_, rfl, rfl⟩
    · cbv
      try exact ⟨rfl, trivial⟩
    · cbv
  · rintro q; exact Nat.le_of_ble_eq_true rfl
  rintro q hinv Nx Nxh
  obtain ⟨q0, qL, hq⟩ : (0 ≤ q) ∧ (q ≤ L) ∧ (ToNot l ⟨ef, ep⟩ q) := hinv
  obtain ⟨q1, hq1⟩ : ∃ q1 : Int, q1 = q + 1 := ⟨_, rfl⟩
  have hN : ∀ env (q' : Int) v, (0 ≤ q') ∧ (q' ≤ L) ∧ (ToNot l ⟨ef, ep⟩ q') → (L + 1 - q').toNat < (L + 1 - q).toNat → wkEnv env [(9, .int .i64 q'), (3, .ptr 0 0), (2, .int .i64 ep), (1, .int .i64 ef)] → Nx ⟨env, [.var [.int .i64 n, .sl 5 os .no]] ++ v, 57⟩ := fun env q' v h1 h2 h3 => Nxh _ q' h1 h2 ⟨h3, by cbv, rfl, rfl⟩
  clear Nxh
  all_goals cbv
  repeat' (first
    | with_reducible exact id
    | exact trivial
    | (with_reducible refine op_is hJ hos ho hoes ?_; cbv)
    | (with_reducible refine op_in hJ hos ?_; intro ok op of oa oes oil hoes hop; cbv)
    | (with_reducible refine ed_in hJ hes ?_; intro xf xp hed; cbv)
    | (with_reducible refine ed_in hJ hoes ?_; intro xf xp hed; cbv)
    | intro hh
    | with_reducible refine And.intro ?_ ?_
    | (with_reducible first | refine awp_go ?_ | refine aops_go ?_ | refine strip_go ?_ | refine draw_go ?_ | refine frames_go ?_); cbv)
  all_goals first
    | (refine h _ _ _ (toAt_no hL (by clear h hN; subst hJ; simp only [std, stdOps] at *; grind) hq))
    | (clear h hN; subst hJ; simp only [std, stdOps] at *; grind)
    | skip
  all_goals try
    (have hqL : q < L := by clear h hN; subst hJ; simp only [std, stdOps] at *; grind
     obtain ⟨⟨ok, op, of, oa, oil⟩, ho⟩ : ∃ o, l[q.toNat]? = some o := at_of hL q0 hqL
     obtain ⟨oes, hoes⟩ : ∃ es, es = oil.map Ed.av := ⟨_, rfl⟩
     obtain ⟨M, hM, hMM⟩ := lnIn hI ho
     replace hM : Ln M oil := hM
     have hM0 : 0 ≤ M := by unfold Ln at hM; omega
     have hlo : J.o.len oes = M := by subst hJ hoes; unfold Ln at hM; simp [std, stdOps, hM])
  all_goals first
    | (refine loop_at (β := Int) hJ tab_ok (fun | j => ⟨[(10, .int .i64 j), (9, .int .i64 q), (3, .ptr 0 0), (2, .int .i64 ep), (1, .int .i64 ef)], [.var [.int .i64 n, .sl 5 os .no]], 57⟩) (fun | j => (0 ≤ j) ∧ (j ≤ M) ∧ (∀ r : Int, 0 ≤ r → r < j → oil[r.toNat]? ≠ some ⟨ef, ep⟩)) (fun | j => (M + 1 - j).toNat) 0 ?_ ?_ ?_ ?_
       · exact ⟨Int.le_refl _, hM0, fun r h1 h2 => by omega⟩
       · refine ⟨?_, ?_, rfl, rfl⟩
         · cbv
           try exact ⟨rfl, trivial⟩
         · cbv
       · rintro j; exact Nat.le_of_ble_eq_true rfl
       rintro j hinv2 Ny Nyh
       obtain ⟨j0, jM, hj⟩ : (0 ≤ j) ∧ (j ≤ M) ∧ (∀ r : Int, 0 ≤ r → r < j → oil[r.toNat]? ≠ some ⟨ef, ep⟩) := hinv2
       obtain ⟨j1, hj1⟩ : ∃ j1 : Int, j1 = j + 1 := ⟨_, rfl⟩
       have hM2 : ∀ env (j' : Int) v, (0 ≤ j') ∧ (j' ≤ M) ∧ (∀ r : Int, 0 ≤ r → r < j' → oil[r.toNat]? ≠ some ⟨ef, ep⟩) → (M + 1 - j').toNat < (M + 1 - j).toNat → wkEnv env [(10, .int .i64 j'), (9, .int .i64 q), (3, .ptr 0 0), (2, .int .i64 ep), (1, .int .i64 ef)] → Ny ⟨env, [.var [.int .i64 n, .sl 5 os .no]] ++ v, 57⟩ := fun env j' v h1 h2 h3 => Nyh _ j' h1 h2 ⟨h3, by cbv, rfl, rfl⟩
       clear Nyh
       all_goals cbv
       repeat' (first
         | with_reducible exact id
         | exact trivial
         | (with_reducible refine op_is hJ hos ho hoes ?_; cbv)
         | (with_reducible refine op_in hJ hos ?_; intro ok op of oa oes oil hoes hop; cbv)
         | (with_reducible refine ed_in hJ hes ?_; intro xf xp hed; cbv)
         | (with_reducible refine ed_in hJ hoes ?_; intro xf xp hed; cbv)
         | intro hh
         | with_reducible refine And.intro ?_ ?_
         | (with_reducible first | refine awp_go ?_ | refine aops_go ?_ | refine strip_go ?_ | refine draw_go ?_ | refine frames_go ?_); cbv)
       all_goals first
         | (refine hM2 _ j1 _ ⟨?_, ?_, ne_next j0 hj1 hj hed (by clear h hN hM2; subst hJ; simp only [std, stdOps] at *; grind)⟩ ?_ ?_ <;> first | (with_reducible refine wkEnv_go' ?_; cbv; clear h hN hM2; subst hJ; simp only [std, stdOps] at *; grind [wrap64]) | (clear h hN hM2; subst hJ; simp only [std, stdOps] at *; grind [wrap64]))
         | (refine hN _ q1 _ ⟨?_, ?_, toNot_next hq1 q0 ho (ne_all hM (by clear h hN hM2; subst hJ; simp only [std, stdOps] at *; grind) hj) hq⟩ ?_ ?_ <;> first | (with_reducible refine wkEnv_go' ?_; cbv; clear h hN hM2; subst hJ; simp only [std, stdOps] at *; grind [wrap64]) | (clear h hN hM2; subst hJ; simp only [std, stdOps] at *; grind [wrap64]))
         | (refine h _ _ _ (toAt_is (r := j) q0 ho (.inr ⟨j0, hed.trans (by clear h hN hM2; subst hJ; simp only [std, stdOps] at *; grind), hj⟩) j0 hq))
         | (clear h hN hM2; subst hJ; simp only [std, stdOps] at *; grind))
    | skip
  

end Go.Proofs.Ytilffanmaicakaa.A
