/- The law GraphChecks. -/
import Derived.Test.YtilffanmaicakaaGrSpecI
namespace Go.Proofs.Ytilffanmaicakaa.A
open Go Go.Pt Go.Gr

theorem WkL.nil : WkL [] [] := trivial
theorem WkL.cons {a b : AV} {l m : List AV} (h : Wk a b) (k : WkL l m) : WkL (a :: l) (b :: m) := ⟨h, k⟩
theorem WkE.nil : WkE [] [] := trivial
theorem WkE.cons {a b : AV} {l m : List AV} (h : WkL a.cells b.cells) (k : WkE l m) : WkE (a :: l) (b :: m) := ⟨h, k⟩
theorem check_at {J : Jd} {n₀ : Nat} (hJ : J = std Try.prog n₀) {n : Int} {l : List Gr.Op} {os : List AV} (hos : os = l.map Gr.Op.av) {L : Int} (hL : Ln L l) (hLL : L < 2 ^ 48) {σ K E} (h : ∀ r e, Chk ⟨n, l⟩ r e → K (.tup [.int .i64 r, .int .i64 e]) σ) : J.call 26 [.agg [.int .i64 n, .sl 5 os .no]] σ K E := by
  subst hJ
  refine call_in (J := std Try.prog n₀) rfl [] (by simp) (by simp) (args' := [.agg [.int .i64 n, .sl 5 os .no]]) (σ' := []) rfl rfl ?_
  refine check_call n l os hos L hL hLL _ _ fun r e hr => ?_
  rw [back_nil]; exact h r e hr
theorem check'_at {J : Jd} {n₀ : Nat} (hJ : J = std Try.prog n₀) {n : Int} {l : List Gr.Op} {os : List AV} (hos : os = l.map Gr.Op.av) {L : Int} (hL : Ln L l) (hLL : L < 2 ^ 48) {σ K E} (h : ∀ r e, Chk ⟨n, l⟩ r e → K (.tup [.int .i64 r, .int .i64 e]) σ) : J.call 27 [.agg [.int .i64 n, .sl 5 os .no]] σ K E := by
  subst hJ
  refine call_in (J := std Try.prog n₀) rfl [] (by simp) (by simp) (args' := [.agg [.int .i64 n, .sl 5 os .no]]) (σ' := []) rfl rfl ?_
  refine check'_call n l os hos L hL hLL _ _ fun r e hr => ?_
  rw [back_nil]; exact h r e hr
theorem sink_at {J : Jd} {n₀ : Nat} (hJ : J = std Try.prog n₀) {n : Int} {l : List Gr.Op} {os : List AV} (hos : os = l.map Gr.Op.av) {L : Int} (hL : Ln L l) (hLL : L < 2 ^ 48) {σ K E} (h : ∀ r r2 b, SinkAt l r → r2 = (if r < 0 then 0 else r) → b = decide (0 ≤ r) → K (.tup [.int .i64 r2, .bool b]) σ) : J.call 31 [.agg [.int .i64 n, .sl 5 os .no]] σ K E := by
  subst hJ
  refine call_in (J := std Try.prog n₀) rfl [] (by simp) (by simp) (args' := [.agg [.int .i64 n, .sl 5 os .no]]) (σ' := []) rfl rfl ?_
  refine sink_call n l os hos L hL hLL _ _ fun r r2 b h1 h2 h3 => ?_
  rw [back_nil]; exact h r r2 b h1 h2 h3

def goodL : List Gr.Op := [⟨1, 0, 0, 0, []⟩, ⟨9, 0, 0, 0, [⟨0, 0⟩]⟩]
def badL : List Gr.Op := [⟨1, 0, 0, 0, []⟩, ⟨2, 0, 1, 0, [⟨1, 0⟩]⟩]
theorem good_ok : Chk ⟨1, goodL⟩ 0 0 := by
  refine .ok (by decide) (by decide) (by decide) ?_ ?_ (by decide)
  · rintro j ⟨o, ho, p, h0, h1, h2⟩
    match j, ho with
    | 0, ho =>
      obtain rfl := Option.some.inj ho
      have h3 : p < 1 := h1
      have : p = 0 := by omega
      subst this
      exact h2 (by decide)
    | 1, ho =>
      obtain rfl := Option.some.inj ho
      have h3 : p < 0 := h1
      omega
  · intro p h0 h1
    have h2 : p < 1 := h1
    have : p = 0 := by omega
    subst this; decide
theorem bad_edge : Chk ⟨1, badL⟩ 1 52 := .fault (g := ⟨1, badL⟩) (by decide) (by decide) 1 (by decide) (by decide) (by decide)
theorem good_sink {r : Int} (h : SinkAt goodL r) : r = 1 := by
  rcases h with ⟨_, h⟩ | ⟨h0, ⟨o, ho, hk⟩, _⟩
  · exact absurd rfl (h ⟨9, 0, 0, 0, [⟨0, 0⟩]⟩ (by simp [goodL]))
  · obtain ⟨k, rfl⟩ := Int.eq_ofNat_of_zero_le h0
    simp only [Int.toNat_natCast] at ho
    match k, ho with
    | 0, ho => obtain rfl := Option.some.inj ho; simp at hk
    | 1, _ => rfl

set_option maxHeartbeats 8000000 in
set_option maxRecDepth 100000 in
theorem live_call (K E) (h : K (.bool true) []) : CallA Try.prog 25 [] [] K E := by
  refine call_fn (n₀ := 0) tab_ok [] Try.func25 rfl rfl rfl rfl (by decide) ?_
  intro J hJ
  cbv
  repeat' (first
    | with_reducible exact id
    | exact trivial
    | (refine call_weak hJ (args' := [.agg [.int .i64 1, .sl 5 (goodL.map Gr.Op.av) .no]]) (WkL.cons (Wk.agg (WkL.cons Wk.rfl' (WkL.cons (Wk.sl (WkE.cons (WkL.cons Wk.rfl' (WkL.cons Wk.rfl' (WkL.cons Wk.rfl' (WkL.cons Wk.rfl' (WkL.cons Wk.nils WkL.nil))))) (WkE.cons (WkL.cons Wk.rfl' (WkL.cons Wk.rfl' (WkL.cons Wk.rfl' (WkL.cons Wk.rfl' (WkL.cons (Wk.sl (WkE.cons (WkL.cons Wk.rfl' (WkL.cons Wk.rfl' WkL.nil)) WkE.nil)) WkL.nil))))) WkE.nil))) WkL.nil))) WkL.nil) (check_at hJ (l := goodL) rfl (L := 2) (by unfold Ln; rfl) (by decide) ?_); intro r e hg; obtain ⟨hr, he⟩ := hg.same good_ok; subst hr he; cbv)
    | (refine call_weak hJ (args' := [.agg [.int .i64 1, .sl 5 (badL.map Gr.Op.av) .no]]) (WkL.cons (Wk.agg (WkL.cons Wk.rfl' (WkL.cons (Wk.sl (WkE.cons (WkL.cons Wk.rfl' (WkL.cons Wk.rfl' (WkL.cons Wk.rfl' (WkL.cons Wk.rfl' (WkL.cons Wk.nils WkL.nil))))) (WkE.cons (WkL.cons Wk.rfl' (WkL.cons Wk.rfl' (WkL.cons Wk.rfl' (WkL.cons Wk.rfl' (WkL.cons (Wk.sl (WkE.cons (WkL.cons Wk.rfl' (WkL.cons Wk.rfl' WkL.nil)) WkE.nil)) WkL.nil))))) WkE.nil))) WkL.nil))) WkL.nil) (check_at hJ (l := badL) rfl (L := 2) (by unfold Ln; rfl) (by decide) ?_); intro r e hg; obtain ⟨hr, he⟩ := hg.same bad_edge; subst hr he; cbv)
    | (refine call_weak hJ (args' := [.agg [.int .i64 1, .sl 5 (goodL.map Gr.Op.av) .no]]) (WkL.cons (Wk.agg (WkL.cons Wk.rfl' (WkL.cons (Wk.sl (WkE.cons (WkL.cons Wk.rfl' (WkL.cons Wk.rfl' (WkL.cons Wk.rfl' (WkL.cons Wk.rfl' (WkL.cons Wk.nils WkL.nil))))) (WkE.cons (WkL.cons Wk.rfl' (WkL.cons Wk.rfl' (WkL.cons Wk.rfl' (WkL.cons Wk.rfl' (WkL.cons (Wk.sl (WkE.cons (WkL.cons Wk.rfl' (WkL.cons Wk.rfl' WkL.nil)) WkE.nil)) WkL.nil))))) WkE.nil))) WkL.nil))) WkL.nil) (sink_at hJ (l := goodL) rfl (L := 2) (by unfold Ln; rfl) (by decide) ?_); intro r r2 b hs hr2 hb; have hs1 := good_sink hs; subst hs1 hr2 hb; cbv)
    | intro hh
    | with_reducible refine And.intro ?_ ?_
    | (with_reducible first | refine awp_go ?_ | refine aops_go ?_ | refine strip_go ?_ | refine draw_go ?_ | refine frames_go ?_); cbv)
  all_goals first
    | (refine fit_bool h ?_; clear h; subst hJ; simp only [std, stdOps] at *; first | rfl | decide | grind)
    | (clear h; subst hJ; simp only [std, stdOps] at *; first | rfl | decide | grind)
theorem live_at {J : Jd} {n₀ : Nat} (hJ : J = std Try.prog n₀) {σ K E} (h : K (.bool true) σ) : J.call 25 [] σ K E := call_pure hJ live_call h

theorem op_sub {J : Jd} {n₀ : Nat} (hJ : J = std Try.prog n₀) {l : List Gr.Op} {os : List AV} (hos : os = l.map Gr.Op.av) {i m : Int} {K : AV → Prop} (h : ∀ k p f a es, K (.agg [.int .i64 k, .int .i64 p, .int .i64 f, .int .i64 a, .sl 2 es .no])) : ∀ e, J.o.get (J.o.sub os 0 m) i = some e → K e := by
  subst hJ hos
  intro e he
  simp only [std, stdOps] at he
  have hmem := List.mem_of_mem_take (List.mem_of_mem_drop (List.mem_of_getElem? he))
  obtain ⟨x, _, rfl⟩ := List.mem_map.1 hmem
  exact h _ _ _ _ _

set_option maxHeartbeats 8000000 in
set_option maxRecDepth 100000 in
theorem graphChecks_call (n : Int) (l : List Gr.Op) (os : List AV) (hos : os = l.map Gr.Op.av) (L : Int) (hL : Ln L l) (hLL : L < 2 ^ 48) (K E) (h : K (.bool true) []) : CallA Try.prog 6 [.agg [.int .i64 n, .sl 5 os .no]] [] K E := by
  have hL0 : 0 ≤ L := by unfold Ln at hL; omega
  refine call_fn (n₀ := 0) tab_ok [] Try.func6 rfl rfl rfl rfl (by decide) ?_
  intro J hJ
  have hlos : J.o.len os = L := by subst hJ hos; unfold Ln at hL; simp [std, stdOps, hL]
  obtain ⟨m, hm⟩ : ∃ m : Int, m = J.o.len (J.o.sub os 0 (J.o.mn (J.o.len os) 100)) := ⟨_, rfl⟩
  have hm4 : 0 ≤ m ∧ m ≤ 100 := by clear h; subst hJ hm; simp only [std, stdOps, List.length_drop, List.length_take]; split <;> omega
  cbv
  repeat' (first
    | with_reducible exact id
    | exact trivial
    | with_reducible refine fit_bool h ?_
    | (with_reducible refine live_at hJ ?_; cbv)
    | (with_reducible refine check_at hJ hos hL hLL ?_; intro r e hc1; cbv)
    | (with_reducible refine check'_at hJ hos hL hLL ?_; intro r2 e2 hc2; cbv)
    | (with_reducible refine op_is hJ hos ho hoes ?_; cbv)
    | (with_reducible refine op_in hJ hos ?_; intro ok op of oa oes oil hoes hop; cbv)
    | (with_reducible refine ed_in hJ hes ?_; intro xf xp hed; cbv)
    | (with_reducible refine ed_in hJ hoes ?_; intro xf xp hed; cbv)
    | intro hh
    | with_reducible refine And.intro ?_ ?_
    | (with_reducible first | refine awp_go ?_ | refine aops_go ?_ | refine strip_go ?_ | refine draw_go ?_ | refine frames_go ?_); cbv)
  all_goals first
    | (clear h; subst hJ; simp only [std, stdOps] at *; first | rfl | decide | grind)
    | (clear h; subst hJ; simp only [std, stdOps] at *; split <;> omega)
    | skip
  obtain ⟨hre, hee⟩ := hc2.same hc1
  subst hre hee
  refine loop_at (β := Int) hJ tab_ok (fun | q => ⟨[(29, .int .i64 q), (28, .int .i64 (J.o.len (J.o.sub os 0 (J.o.mn (J.o.len os) 100)))), (27, .sl 5 (J.o.sub os 0 (J.o.mn (J.o.len os) 100)) .no), (6, .int .i64 e2), (5, .int .i64 r2), (4, .int .i64 e2), (3, .int .i64 r2)], [], 47⟩) (fun | q => (0 ≤ q) ∧ (q ≤ m)) (fun | q => (m + 1 - q).toNat) 0 ?_ ?_ ?_ ?_
  · exact ⟨Int.le_refl _, hm4.1⟩
  · refine ⟨?_, ?_, rfl, rfl⟩
    · cbv
      try exact ⟨rfl, trivial⟩
    · cbv
  · rintro q; exact Nat.le_of_ble_eq_true rfl
  rintro q hinv Nx Nxh
  obtain ⟨q0, qm⟩ : (0 ≤ q) ∧ (q ≤ m) := hinv
  obtain ⟨q1, hq1⟩ : ∃ q1 : Int, q1 = q + 1 := ⟨_, rfl⟩
  have hN : ∀ env (q' : Int) v, (0 ≤ q') ∧ (q' ≤ m) → (m + 1 - q').toNat < (m + 1 - q).toNat → wkEnv env [(29, .int .i64 q'), (28, .int .i64 (J.o.len (J.o.sub os 0 (J.o.mn (J.o.len os) 100)))), (27, .sl 5 (J.o.sub os 0 (J.o.mn (J.o.len os) 100)) .no), (6, .int .i64 e2), (5, .int .i64 r2), (4, .int .i64 e2), (3, .int .i64 r2)] → Nx ⟨env, [] ++ v, 47⟩ := fun env q' v h1 h2 h3 => Nxh _ q' h1 h2 ⟨h3, by cbv, rfl, rfl⟩
  clear Nxh
  all_goals cbv
  repeat' (first
    | with_reducible exact id
    | exact trivial
    | with_reducible refine fit_bool h ?_
    | (with_reducible refine op_sub hJ hos ?_; intro ok op of oa oes; cbv)
    | (with_reducible refine op_is hJ hos ho hoes ?_; cbv)
    | (with_reducible refine op_in hJ hos ?_; intro ok op of oa oes oil hoes hop; cbv)
    | (with_reducible refine ed_in hJ hes ?_; intro xf xp hed; cbv)
    | (with_reducible refine ed_in hJ hoes ?_; intro xf xp hed; cbv)
    | (with_reducible refine ports_at hJ ?_; intros)
    | (with_reducible refine ports'_at hJ ?_; intros)
    | (with_reducible refine ports_pure hJ ?_; intros)
    | (with_reducible refine ports'_pure hJ ?_; intros)
    | intro hh
    | with_reducible refine And.intro ?_ ?_
    | (with_reducible first | refine awp_go ?_ | refine aops_go ?_ | refine strip_go ?_ | refine draw_go ?_ | refine frames_go ?_); cbv)
  all_goals first
    | (refine hN _ q1 _ ⟨?_, ?_⟩ ?_ ?_ <;> first | (with_reducible refine wkEnv_go' ?_; cbv; clear h hN; subst hJ; simp only [std, stdOps] at *; grind [wrap64]) | (clear h hN; subst hJ; simp only [std, stdOps] at *; grind [wrap64]))
    | (clear h hN; subst hJ; simp only [std, stdOps] at *; grind)

end Go.Proofs.Ytilffanmaicakaa.A
