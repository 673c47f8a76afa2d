/- Where a source is. -/
import Derived.Test.YtilffanmaicakaaGrSpecM
namespace Go.Proofs.Ytilffanmaicakaa.A
open Go Go.Pt Go.Gr

/-- A part's source. -/
def IsSrc (s : Int) (o : Gr.Op) : Prop := o.k = 1 ∧ o.p = s
/-- Where a part's source is. -/
def SrcAt (s : Int) (l : List Gr.Op) (r : Int) : Prop := (r = -1 ∧ ∀ o ∈ l, ¬ IsSrc s o) ∨ (0 ≤ r ∧ (∃ o, l[r.toNat]? = some o ∧ IsSrc s o) ∧ ∀ j : Int, 0 ≤ j → j < r → ∀ o, l[j.toNat]? = some o → ¬ IsSrc s o)
theorem src_no {s : Int} {l : List Gr.Op} {L q : Int} (hL : Ln L l) (hq : q = L) (h : ∀ j : Int, 0 ≤ j → j < q → ∀ o, l[j.toNat]? = some o → ¬ IsSrc s o) : SrcAt s l (-1) := by
  refine .inl ⟨rfl, fun o ho => ?_⟩
  obtain ⟨i, hi⟩ := List.mem_iff_getElem?.1 ho
  have := lt_of_get hi
  unfold Ln at hL
  exact h i (by omega) (by omega) o (by simpa using hi)
theorem src_next {s : Int} {l : List Gr.Op} {q q1 k p f a : Int} {il : List Ed} (hq1 : q1 = q + 1) (q0 : 0 ≤ q) (ho : l[q.toNat]? = some ⟨k, p, f, a, il⟩) (hk : ¬ (k = 1 ∧ p = s)) (h : ∀ j : Int, 0 ≤ j → j < q → ∀ o, l[j.toNat]? = some o → ¬ IsSrc s o) : ∀ j : Int, 0 ≤ j → j < q1 → ∀ o, l[j.toNat]? = some o → ¬ IsSrc s o := by
  intro j h1 h2 o hj
  by_cases hlt : j < q
  · exact h j h1 hlt o hj
  · rw [show j = q by omega, ho] at hj
    obtain rfl := Option.some.inj hj
    exact hk
theorem SrcAt.same {s : Int} {l : List Gr.Op} {r r' : Int} (h : SrcAt s l r) (h' : SrcAt s l r') : r = r' := by
  rcases h with ⟨rfl, h⟩ | ⟨r0, ⟨o, ho, hk⟩, hm⟩ <;> rcases h' with ⟨rfl, h'⟩ | ⟨r0', ⟨o', ho', hk'⟩, hm'⟩
  · rfl
  · exact absurd hk' (h o' (List.mem_of_getElem? ho'))
  · exact absurd hk (h' o (List.mem_of_getElem? ho))
  · rcases Int.lt_trichotomy r r' with hlt | heq | hlt
    · exact absurd hk (hm' r r0 hlt o ho)
    · exact heq
    · exact absurd hk' (hm r' r0' hlt o' ho')
theorem SinkAt.same {l : List Gr.Op} {r r' : Int} (h : SinkAt l r) (h' : SinkAt l r') : r = r' := by
  rcases h with ⟨rfl, h⟩ | ⟨r0, ⟨o, ho, hk⟩, hm⟩ <;> rcases h' with ⟨rfl, h'⟩ | ⟨r0', ⟨o', ho', hk'⟩, hm'⟩
  · rfl
  · exact absurd hk' (h o' (List.mem_of_getElem? ho'))
  · exact absurd hk (h' o (List.mem_of_getElem? ho))
  · rcases Int.lt_trichotomy r r' with hlt | heq | hlt
    · exact absurd hk (hm' r r0 hlt o ho)
    · exact heq
    · exact absurd hk' (hm r' r0' hlt o' ho')

set_option maxHeartbeats 8000000 in
set_option maxRecDepth 100000 in
theorem isSrc_call (k p f a s : Int) (es : List AV) (K E) (h : K (.bool (decide (k = 1) && decide (p = s))) [.var [.int .i64 s]]) : CallA Try.prog 75 [.agg [.int .i64 k, .int .i64 p, .int .i64 f, .int .i64 a, .sl 2 es .no], .ptr 0 0] [.var [.int .i64 s]] K E := by
  refine call_fn (n₀ := 1) tab_ok [] Try.func75 rfl rfl rfl rfl (by simp [rangeN, snoc]) ?_
  intro J hJ
  cbv
  repeat' (first
    | with_reducible exact id
    | exact trivial
    | (with_reducible refine op_is hJ hos ho hoes ?_; cbv)
    | (with_reducible refine op_in hJ hos ?_; intro ok op of oa oes oil hoes hop; cbv)
    | (with_reducible refine ed_in hJ hes ?_; intro xf xp hed; cbv)
    | (with_reducible refine ed_in hJ hoes ?_; intro xf xp hed; cbv)
    | intro hh
    | with_reducible refine And.intro ?_ ?_
    | (with_reducible first | refine awp_go ?_ | refine aops_go ?_ | refine strip_go ?_ | refine draw_go ?_ | refine frames_go ?_); cbv)
  all_goals first
    | (refine fit_bool h ?_; clear h ; subst hJ; simp only [std, stdOps] at *; grind)
    | (clear h ; subst hJ; simp only [std, stdOps] at *; grind)
theorem isSrc_at {J : Jd} (hJ : J = std Try.prog 1) {k p f a s : Int} {es : List AV} {K E} (h : ∀ r', r' = (decide (k = 1) && decide (p = s)) → K (.bool r') [.var [.int .i64 s]]) : J.call 75 [.agg [.int .i64 k, .int .i64 p, .int .i64 f, .int .i64 a, .sl 2 es .no], .ptr 0 0] [.var [.int .i64 s]] K E := by
  subst hJ; exact isSrc_call k p f a s es K E (h _ rfl)

set_option maxHeartbeats 8000000 in
set_option maxRecDepth 100000 in
theorem indexSrc_call (s : Int) (l : List Gr.Op) (os : List AV) (hos : os = l.map Gr.Op.av) (L : Int) (hL : Ln L l) (hLL : L < 2 ^ 48) (K E) (h : ∀ r, SrcAt s l r → K (.int .i64 r) [.var [.int .i64 s]]) :
    CallA Try.prog 72 [.sl 5 os .no, .func 75 [.ptr 0 0]] [.var [.int .i64 s]] K E := by
  have hL0 : 0 ≤ L := by unfold Ln at hL; omega
  refine call_fn (n₀ := 1) tab_ok [] Try.func72 rfl rfl rfl rfl (by simp [rangeN, snoc]) ?_
  intro J hJ
  have hlos : J.o.len os = L := by subst hJ hos; unfold Ln at hL; simp [std, stdOps, hL]
  cbv
  refine loop_at (β := Int) hJ tab_ok (fun | q => ⟨[(8, .int .i64 q), (7, .int .i64 (J.o.len os)), (1, .func 75 [.ptr 0 0]), (0, .sl 5 os .no)], [.var [.int .i64 s]], 19⟩) (fun | q => (0 ≤ q) ∧ (q ≤ L) ∧ (∀ j : Int, 0 ≤ j → j < q → ∀ o, l[j.toNat]? = some o → ¬ IsSrc s o)) (fun | q => (L + 1 - q).toNat) 0 ?_ ?_ ?_ ?_
  · exact ⟨Int.le_refl _, hL0, fun j h1 h2 => by omega⟩
  · refine ⟨?_, ?_, rfl, rfl⟩
    · cbv
      try exact ⟨rfl, trivial⟩
    · cbv
  · rintro q; exact Nat.le_of_ble_eq_true rfl
  rintro q hinv Nx Nxh
  obtain ⟨q0, qL, hq⟩ : (0 ≤ q) ∧ (q ≤ L) ∧ (∀ j : Int, 0 ≤ j → j < q → ∀ o, l[j.toNat]? = some o → ¬ IsSrc s o) := hinv
  obtain ⟨q1, hq1⟩ : ∃ q1 : Int, q1 = q + 1 := ⟨_, rfl⟩
  have hN : ∀ env (q' : Int) v, (0 ≤ q') ∧ (q' ≤ L) ∧ (∀ j : Int, 0 ≤ j → j < q' → ∀ o, l[j.toNat]? = some o → ¬ IsSrc s o) → (L + 1 - q').toNat < (L + 1 - q).toNat → wkEnv env [(8, .int .i64 q'), (7, .int .i64 (J.o.len os)), (1, .func 75 [.ptr 0 0]), (0, .sl 5 os .no)] → Nx ⟨env, [.var [.int .i64 s]] ++ v, 19⟩ := fun env q' v h1 h2 h3 => Nxh _ q' h1 h2 ⟨h3, by cbv, rfl, rfl⟩
  clear Nxh
  all_goals cbv
  repeat' (first
    | with_reducible exact id
    | exact trivial
    | (with_reducible refine isSrc_at hJ ?_; intros)
    | (with_reducible refine op_is hJ hos ho hoes ?_; cbv)
    | (with_reducible refine op_in hJ hos ?_; intro ok op of oa oes oil hoes hop; cbv)
    | (with_reducible refine ed_in hJ hes ?_; intro xf xp hed; cbv)
    | (with_reducible refine ed_in hJ hoes ?_; intro xf xp hed; cbv)
    | intro hh
    | with_reducible refine And.intro ?_ ?_
    | (with_reducible first | refine awp_go ?_ | refine aops_go ?_ | refine strip_go ?_ | refine draw_go ?_ | refine frames_go ?_); cbv)
  all_goals first
    | (refine hN _ q1 _ ⟨?_, ?_, src_next hq1 q0 hop (by clear h hN; subst hJ; simp only [std, stdOps] at *; grind) hq⟩ ?_ ?_ <;> first | (with_reducible refine wkEnv_go' ?_; cbv; clear h hN; subst hJ; simp only [std, stdOps] at *; grind [wrap64]) | (clear h hN; subst hJ; simp only [std, stdOps] at *; grind [wrap64]))
    | (refine h _ (.inr ⟨q0, ⟨_, hop, by unfold IsSrc; clear h hN; subst hJ; simp only [std, stdOps] at *; grind⟩, hq⟩))
    | (refine h _ (src_no hL (by clear h hN; subst hJ; simp only [std, stdOps] at *; grind) hq))
    | (clear h hN; subst hJ; simp only [std, stdOps] at *; grind)

set_option maxHeartbeats 8000000 in
set_option maxRecDepth 100000 in
theorem source_call (n s : Int) (l : List Gr.Op) (os : List AV) (hos : os = l.map Gr.Op.av) (L : Int) (hL : Ln L l) (hLL : L < 2 ^ 48) (K E) (h : ∀ r r2 b, SrcAt s l r → r2 = (if r < 0 then 0 else r) → b = decide (0 ≤ r) → K (.tup [.int .i64 r2, .bool b]) []) :
    CallA Try.prog 34 [.agg [.int .i64 n, .sl 5 os .no], .int .i64 s] [] K E := by
  refine call_fn (n₀ := 0) tab_ok [] Try.func34 rfl rfl rfl rfl (by decide) ?_
  intro J hJ
  cbv
  repeat' (first
    | with_reducible exact id
    | exact trivial
    | (refine call_in hJ [1] (by decide) rfl rfl rfl (indexSrc_call s l os hos L hL hLL _ _ ?_); intro r hr; cbv)
    | (with_reducible refine op_is hJ hos ho hoes ?_; cbv)
    | (with_reducible refine op_in hJ hos ?_; intro ok op of oa oes oil hoes hop; cbv)
    | (with_reducible refine ed_in hJ hes ?_; intro xf xp hed; cbv)
    | (with_reducible refine ed_in hJ hoes ?_; intro xf xp hed; cbv)
    | intro hh
    | with_reducible refine And.intro ?_ ?_
    | (with_reducible first | refine awp_go ?_ | refine aops_go ?_ | refine strip_go ?_ | refine draw_go ?_ | refine frames_go ?_); cbv)
  refine h r _ _ hr ?_ ?_
  · clear h; subst hJ; simp only [std, stdOps]
  · clear h; subst hJ; simp only [std, stdOps]

set_option maxHeartbeats 8000000 in
set_option maxRecDepth 100000 in
theorem source'_call (n s : Int) (l : List Gr.Op) (os : List AV) (hos : os = l.map Gr.Op.av) (L : Int) (hL : Ln L l) (hLL : L < 2 ^ 48) (K E) (h : ∀ r r2 b, SrcAt s l r → r2 = (if r < 0 then 0 else r) → b = decide (0 ≤ r) → K (.tup [.int .i64 r2, .bool b]) []) :
    CallA Try.prog 35 [.agg [.int .i64 n, .sl 5 os .no], .int .i64 s] [] K E := by
  have hL0 : 0 ≤ L := by unfold Ln at hL; omega
  refine call_fn (n₀ := 0) tab_ok [] Try.func35 rfl rfl rfl rfl (by decide) ?_
  intro J hJ
  have hlos : J.o.len os = L := by subst hJ hos; unfold Ln at hL; simp [std, stdOps, hL]
  cbv
  refine loop_at (β := Int) hJ tab_ok (fun | q => ⟨[(6, .int .i64 q), (2, .ptr 0 0), (1, .int .i64 s)], [.var [.int .i64 n, .sl 5 os .no]], 32⟩) (fun | q => (0 ≤ q) ∧ (q ≤ L) ∧ (∀ j : Int, 0 ≤ j → j < q → ∀ o, l[j.toNat]? = some o → ¬ IsSrc s o)) (fun | q => (L + 1 - q).toNat) 0 ?_ ?_ ?_ ?_
  · exact ⟨Int.le_refl _, hL0, fun j h1 h2 => by omega⟩
  · refine ⟨?_, ?_, rfl, rfl⟩
    · cbv
      try exact ⟨rfl, trivial⟩
    · cbv
  · rintro q; exact Nat.le_of_ble_eq_true rfl
  rintro q hinv Nx Nxh
  obtain ⟨q0, qL, hq⟩ : (0 ≤ q) ∧ (q ≤ L) ∧ (∀ j : Int, 0 ≤ j → j < q → ∀ o, l[j.toNat]? = some o → ¬ IsSrc s o) := hinv
  obtain ⟨q1, hq1⟩ : ∃ q1 : Int, q1 = q + 1 := ⟨_, rfl⟩
  have hN : ∀ env (q' : Int) v, (0 ≤ q') ∧ (q' ≤ L) ∧ (∀ j : Int, 0 ≤ j → j < q' → ∀ o, l[j.toNat]? = some o → ¬ IsSrc s o) → (L + 1 - q').toNat < (L + 1 - q).toNat → wkEnv env [(6, .int .i64 q'), (2, .ptr 0 0), (1, .int .i64 s)] → Nx ⟨env, [.var [.int .i64 n, .sl 5 os .no]] ++ v, 32⟩ := fun env q' v h1 h2 h3 => Nxh _ q' h1 h2 ⟨h3, by cbv, rfl, rfl⟩
  clear Nxh
  all_goals cbv
  repeat' (first
    | with_reducible exact id
    | exact trivial
    | (with_reducible refine op_is hJ hos ho hoes ?_; cbv)
    | (obtain ⟨⟨ok, op, of, oa, oil⟩, ho⟩ : ∃ o, l[q.toNat]? = some o := at_of hL q0 (by clear h hN; subst hJ; simp only [std, stdOps] at *; grind)
       obtain ⟨oes, hoes⟩ : ∃ es, es = oil.map Ed.av := ⟨_, rfl⟩
       with_reducible refine op_is hJ hos ho hoes ?_; cbv)
    | (with_reducible refine op_is hJ hos ho hoes ?_; cbv)
    | (with_reducible refine op_in hJ hos ?_; intro ok op of oa oes oil hoes hop; cbv)
    | (with_reducible refine ed_in hJ hes ?_; intro xf xp hed; cbv)
    | (with_reducible refine ed_in hJ hoes ?_; intro xf xp hed; cbv)
    | intro hh
    | with_reducible refine And.intro ?_ ?_
    | (with_reducible first | refine awp_go ?_ | refine aops_go ?_ | refine strip_go ?_ | refine draw_go ?_ | refine frames_go ?_); cbv)
  all_goals first
    | (refine hN _ q1 _ ⟨?_, ?_, src_next hq1 q0 ho (by clear h hN; subst hJ; simp only [std, stdOps] at *; grind) hq⟩ ?_ ?_ <;> first | (with_reducible refine wkEnv_go' ?_; cbv; clear h hN; subst hJ; simp only [std, stdOps] at *; grind [wrap64]) | (clear h hN; subst hJ; simp only [std, stdOps] at *; grind [wrap64]))
    | (refine h q _ _ (.inr ⟨q0, ⟨_, ho, by unfold IsSrc; clear h hN; subst hJ; simp only [std, stdOps] at *; grind⟩, hq⟩) (by clear h hN; subst hJ; simp only [std, stdOps] at *; grind) (by clear h hN; subst hJ; simp only [std, stdOps] at *; grind))
    | (refine h (-1) _ _ (src_no hL (by clear h hN; subst hJ; simp only [std, stdOps] at *; grind) hq) rfl rfl)
    | (clear h hN; subst hJ; simp only [std, stdOps] at *; grind)

set_option maxHeartbeats 8000000 in
set_option maxRecDepth 100000 in
theorem sink'_call (n : Int) (l : List Gr.Op) (os : List AV) (hos : os = l.map Gr.Op.av) (L : Int) (hL : Ln L l) (hLL : L < 2 ^ 48) (K E) (h : ∀ r r2 b, SinkAt l r → r2 = (if r < 0 then 0 else r) → b = decide (0 ≤ r) → K (.tup [.int .i64 r2, .bool b]) []) :
    CallA Try.prog 36 [.agg [.int .i64 n, .sl 5 os .no]] [] K E := by
  have hL0 : 0 ≤ L := by unfold Ln at hL; omega
  refine call_fn (n₀ := 0) tab_ok [] Try.func36 rfl rfl rfl rfl (by decide) ?_
  intro J hJ
  have hlos : J.o.len os = L := by subst hJ hos; unfold Ln at hL; simp [std, stdOps, hL]
  cbv
  refine loop_at (β := Int) hJ tab_ok (fun | q => ⟨[(4, .int .i64 q), (1, .ptr 0 0)], [.var [.int .i64 n, .sl 5 os .no]], 20⟩) (fun | q => (0 ≤ q) ∧ (q ≤ L) ∧ (∀ j : Int, 0 ≤ j → j < q → ∀ o, l[j.toNat]? = some o → o.k ≠ 9)) (fun | q => (L + 1 - q).toNat) 0 ?_ ?_ ?_ ?_
  · exact ⟨Int.le_refl _, hL0, fun j h1 h2 => by omega⟩
  · refine ⟨?_, ?_, rfl, rfl⟩
    · cbv
      try exact ⟨rfl, trivial⟩
    · cbv
  · rintro q; exact Nat.le_of_ble_eq_true rfl
  rintro q hinv Nx Nxh
  obtain ⟨q0, qL, hq⟩ : (0 ≤ q) ∧ (q ≤ L) ∧ (∀ j : Int, 0 ≤ j → j < q → ∀ o, l[j.toNat]? = some o → o.k ≠ 9) := hinv
  obtain ⟨q1, hq1⟩ : ∃ q1 : Int, q1 = q + 1 := ⟨_, rfl⟩
  have hN : ∀ env (q' : Int) v, (0 ≤ q') ∧ (q' ≤ L) ∧ (∀ j : Int, 0 ≤ j → j < q' → ∀ o, l[j.toNat]? = some o → o.k ≠ 9) → (L + 1 - q').toNat < (L + 1 - q).toNat → wkEnv env [(4, .int .i64 q'), (1, .ptr 0 0)] → Nx ⟨env, [.var [.int .i64 n, .sl 5 os .no]] ++ v, 20⟩ := fun env q' v h1 h2 h3 => Nxh _ q' h1 h2 ⟨h3, by cbv, rfl, rfl⟩
  clear Nxh
  all_goals cbv
  repeat' (first
    | with_reducible exact id
    | exact trivial
    | (with_reducible refine op_is hJ hos ho hoes ?_; cbv)
    | (obtain ⟨⟨ok, op, of, oa, oil⟩, ho⟩ : ∃ o, l[q.toNat]? = some o := at_of hL q0 (by clear h hN; subst hJ; simp only [std, stdOps] at *; grind)
       obtain ⟨oes, hoes⟩ : ∃ es, es = oil.map Ed.av := ⟨_, rfl⟩
       with_reducible refine op_is hJ hos ho hoes ?_; cbv)
    | (with_reducible refine op_is hJ hos ho hoes ?_; cbv)
    | (with_reducible refine op_in hJ hos ?_; intro ok op of oa oes oil hoes hop; cbv)
    | (with_reducible refine ed_in hJ hes ?_; intro xf xp hed; cbv)
    | (with_reducible refine ed_in hJ hoes ?_; intro xf xp hed; cbv)
    | intro hh
    | with_reducible refine And.intro ?_ ?_
    | (with_reducible first | refine awp_go ?_ | refine aops_go ?_ | refine strip_go ?_ | refine draw_go ?_ | refine frames_go ?_); cbv)
  all_goals first
    | (refine hN _ q1 _ ⟨?_, ?_, sink_next hq1 q0 ho (by clear h hN; subst hJ; simp only [std, stdOps] at *; grind) hq⟩ ?_ ?_ <;> first | (with_reducible refine wkEnv_go' ?_; cbv; clear h hN; subst hJ; simp only [std, stdOps] at *; grind [wrap64]) | (clear h hN; subst hJ; simp only [std, stdOps] at *; grind [wrap64]))
    | (refine h q _ _ (.inr ⟨q0, ⟨_, ho, by clear h hN; subst hJ; simp only [std, stdOps] at *; grind⟩, hq⟩) (by clear h hN; subst hJ; simp only [std, stdOps] at *; grind) (by clear h hN; subst hJ; simp only [std, stdOps] at *; grind))
    | (refine h (-1) _ _ (sink_no hL (by clear h hN; subst hJ; simp only [std, stdOps] at *; grind) hq) rfl rfl)
    | (clear h hN; subst hJ; simp only [std, stdOps] at *; grind)

end Go.Proofs.Ytilffanmaicakaa.A
