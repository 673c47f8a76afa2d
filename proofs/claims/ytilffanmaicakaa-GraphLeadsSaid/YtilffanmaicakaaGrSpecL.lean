/- Where a port leads: To. -/
import Derived.Test.YtilffanmaicakaaGrSpecK
namespace Go.Proofs.Ytilffanmaicakaa.A
open Go Go.Pt Go.Gr

/-- No input ahead of an operator is the edge. -/
def ToNot (l : List Gr.Op) (e : Ed) (q : Int) : Prop := ∀ m : Int, 0 ≤ m → m < q → ∀ o, l[m.toNat]? = some o → e ∉ o.i
/-- The first input that is the edge. -/
def ToAt (l : List Gr.Op) (e : Ed) (n i : Int) (b : Bool) : Prop :=
  (b = false ∧ n = 0 ∧ i = 0 ∧ ∀ o ∈ l, e ∉ o.i) ∨ (b = true ∧ 0 ≤ n ∧ ToNot l e n ∧ ∃ o, l[n.toNat]? = some o ∧ 0 ≤ i ∧ o.i[i.toNat]? = some e ∧ ∀ j : Int, 0 ≤ j → j < i → o.i[j.toNat]? ≠ some e)
/-- Each operator's inputs are few. -/
def LnIn (l : List Gr.Op) : Prop := ∀ o ∈ l, (o.i.length : Int) < 2 ^ 48
theorem lnIn {l : List Gr.Op} (h : LnIn l) {q : Nat} {o : Gr.Op} (ho : l[q]? = some o) : ∃ M, Ln M o.i ∧ M < 2 ^ 48 := ⟨_, rfl, h o (List.mem_of_getElem? ho)⟩
theorem toNot_zero {l : List Gr.Op} {e : Ed} : ToNot l e 0 := fun m h1 h2 => by omega
theorem toNot_next {l : List Gr.Op} {e : Ed} {q q1 : Int} {o : Gr.Op} (hq1 : q1 = q + 1) (q0 : 0 ≤ q) (ho : l[q.toNat]? = some o) (hn : e ∉ o.i) (h : ToNot l e q) : ToNot l e q1 := by
  intro m h1 h2 o' hm
  by_cases hlt : m < q
  · exact h m h1 hlt o' hm
  · rw [show m = q by omega, ho] at hm
    obtain rfl := Option.some.inj hm
    exact hn
theorem toAt_no {l : List Gr.Op} {e : Ed} {L q : Int} (hL : Ln L l) (hq : q = L) (h : ToNot l e q) : ToAt l e 0 0 false := by
  refine .inl ⟨rfl, rfl, rfl, fun o ho => ?_⟩
  obtain ⟨i, hi⟩ := List.mem_iff_getElem?.1 ho
  have := lt_of_get hi
  unfold Ln at hL
  exact h i (by omega) (by omega) o (by simpa using hi)
theorem idx_neg {l : List Ed} {e : Ed} {r : Int} (h : IdxIs l e r) (hr : r < 0) : e ∉ l := by
  rcases h with h | h
  · exact h.2
  · omega
theorem toAt_is {l : List Gr.Op} {e : Ed} {q r : Int} {o : Gr.Op} (q0 : 0 ≤ q) (ho : l[q.toNat]? = some o) (hr : IdxIs o.i e r) (r0 : 0 ≤ r) (h : ToNot l e q) : ToAt l e q r true := by
  rcases hr with hr | hr
  · omega
  · exact .inr ⟨rfl, q0, h, o, ho, hr⟩
theorem ToAt.same {l : List Gr.Op} {e : Ed} {n i n' i' : Int} {b b' : Bool} (h : ToAt l e n i b) (h' : ToAt l e n' i' b') : n = n' ∧ i = i' ∧ b = b' := by
  rcases h with ⟨rfl, rfl, rfl, h⟩ | ⟨rfl, n0, hn, o, ho, i0, hi, hm⟩ <;> rcases h' with ⟨rfl, rfl, rfl, h'⟩ | ⟨rfl, n0', hn', o', ho', i0', hi', hm'⟩
  · simp
  · exact absurd (List.mem_of_getElem? hi') (h o' (List.mem_of_getElem? ho'))
  · exact absurd (List.mem_of_getElem? hi) (h' o (List.mem_of_getElem? ho))
  · have : n = n' := by
      rcases Int.lt_trichotomy n n' with hlt | heq | hlt
      · exact absurd (List.mem_of_getElem? hi) (hn' n n0 hlt o ho)
      · exact heq
      · exact absurd (List.mem_of_getElem? hi') (hn n' n0' hlt o' ho')
    subst this
    rw [ho] at ho'
    obtain rfl := Option.some.inj ho'
    refine ⟨rfl, ?_, rfl⟩
    rcases Int.lt_trichotomy i i' with hlt | heq | hlt
    · exact absurd hi (hm' i i0 hlt)
    · exact heq
    · exact absurd hi' (hm i' i0' hlt)
set_option maxHeartbeats 8000000 in
set_option maxRecDepth 100000 in
theorem to_call (n ef ep : Int) (l : List Gr.Op) (os : List AV) (hos : os = l.map Gr.Op.av) (L : Int) (hL : Ln L l) (hLL : L < 2 ^ 48) (hI : LnIn l) (K E) (h : ∀ a b c, ToAt l ⟨ef, ep⟩ a b c → K (.tup [.int .i64 a, .int .i64 b, .bool c]) []) :
    CallA Try.prog 32 [.agg [.int .i64 n, .sl 5 os .no], .int .i64 ef, .int .i64 ep] [] K E := by
  have hL0 : 0 ≤ L := by unfold Ln at hL; omega
  refine call_fn (n₀ := 0) tab_ok [] Try.func32 rfl rfl rfl rfl (by decide) ?_
  intro J hJ
  have hlos : J.o.len os = L := by subst hJ hos; unfold Ln at hL; simp [std, stdOps, hL]
  cbv
  refine loop_at (β := Int) hJ tab_ok (fun | q => ⟨[(15, .int .i64 q), (14, .int .i64 (J.o.len os)), (13, .sl 5 os .no), (2, .int .i64 ep), (1, .int .i64 ef)], [.var [.int .i64 n, .sl 5 os .no]], 31⟩) (fun | q => (0 ≤ q) ∧ (q ≤ L) ∧ (ToNot l ⟨ef, ep⟩ q)) (fun | q => (L + 1 - q).toNat) 0 ?_ ?_ ?_ ?_
  · exact ⟨Int.le_refl _, hL0, toNot_zero⟩
  · refine ⟨?_, ?_, rfl, rfl⟩
    · cbv
      try exact ⟨rfl, trivial⟩
    · cbv
  · rintro q; exact Nat.le_of_ble_eq_true rfl
  rintro q hinv Nx Nxh
  obtain ⟨q0, qL, hq⟩ : (0 ≤ q) ∧ (q ≤ L) ∧ (ToNot l ⟨ef, ep⟩ q) := hinv
  obtain ⟨q1, hq1⟩ : ∃ q1 : Int, q1 = q + 1 := ⟨_, rfl⟩
  have hN : ∀ env (q' : Int) v, (0 ≤ q') ∧ (q' ≤ L) ∧ (ToNot l ⟨ef, ep⟩ q') → (L + 1 - q').toNat < (L + 1 - q).toNat → wkEnv env [(15, .int .i64 q'), (14, .int .i64 (J.o.len os)), (13, .sl 5 os .no), (2, .int .i64 ep), (1, .int .i64 ef)] → Nx ⟨env, [.var [.int .i64 n, .sl 5 os .no]] ++ v, 31⟩ := fun env q' v h1 h2 h3 => Nxh _ q' h1 h2 ⟨h3, by cbv, rfl, rfl⟩
  clear Nxh
  all_goals cbv
  repeat' (first
    | with_reducible exact id
    | exact trivial
    | (obtain ⟨M, hM, hMM⟩ := lnIn hI hop; with_reducible refine index_ed_at hJ hoes hM hMM ?_; intro r hr; cbv)
    | (with_reducible refine op_is hJ hos ho hoes ?_; cbv)
    | (with_reducible refine op_in hJ hos ?_; intro ok op of oa oes oil hoes hop; cbv)
    | (with_reducible refine ed_in hJ hes ?_; intro xf xp hed; cbv)
    | (with_reducible refine ed_in hJ hoes ?_; intro xf xp hed; cbv)
    | intro hh
    | with_reducible refine And.intro ?_ ?_
    | (with_reducible first | refine awp_go ?_ | refine aops_go ?_ | refine strip_go ?_ | refine draw_go ?_ | refine frames_go ?_); cbv)
  all_goals first
    | (refine hN _ q1 _ ⟨?_, ?_, toNot_next hq1 q0 hop (idx_neg hr (by clear h hN; subst hJ; simp only [std, stdOps] at *; grind)) hq⟩ ?_ ?_ <;> first | (with_reducible refine wkEnv_go' ?_; cbv; clear h hN; subst hJ; simp only [std, stdOps] at *; grind [wrap64]) | (clear h hN; subst hJ; simp only [std, stdOps] at *; grind [wrap64]))
    | (refine h _ _ _ (toAt_is q0 hop hr (by clear h hN; subst hJ; simp only [std, stdOps] at *; grind) hq))
    | (refine h _ _ _ (toAt_no hL (by clear h hN; subst hJ; simp only [std, stdOps] at *; grind) hq))
    | (clear h hN; subst hJ; simp only [std, stdOps] at *; grind)

end Go.Proofs.Ytilffanmaicakaa.A
