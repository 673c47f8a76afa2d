/- Where a port leads. -/
import Derived.Test.YtilffanmaicakaaMgC
import Derived.Test.YtilffanmaicakaaMaD

namespace Go.Proofs.Ytilffanmaicakaa.A
open Go Go.Pt Go.Gr

/-- Where an edge is first in a list; -1: nowhere. -/
def IdxIs (l : List Ed) (e : Ed) (r : Int) : Prop := (r = -1 ∧ e ∉ l) ∨ (0 ≤ r ∧ l[r.toNat]? = some e ∧ ∀ j : Int, 0 ≤ j → j < r → l[j.toNat]? ≠ some e)
theorem ne_next {l : List Ed} {e x : Ed} {j j1 : Int} (j0 : 0 ≤ j) (hj1 : j1 = j + 1) (h : ∀ r : Int, 0 ≤ r → r < j → l[r.toNat]? ≠ some e) (hx : l[j.toNat]? = some x) (hne : x ≠ e) : ∀ r : Int, 0 ≤ r → r < j1 → l[r.toNat]? ≠ some e := by
  intro r h1 h2
  by_cases hr : r < j
  · exact h r h1 hr
  · rw [show r = j by omega, hx]; simpa using hne
theorem ne_all {l : List Ed} {e : Ed} {j M : Int} (hM : Ln M l) (hj : j = M) (h : ∀ r : Int, 0 ≤ r → r < j → l[r.toNat]? ≠ some e) : e ∉ l := by
  intro he
  obtain ⟨i, hi⟩ := List.mem_iff_getElem?.1 he
  have := lt_of_get hi
  unfold Ln at hM
  exact h i (by omega) (by omega) (by simpa using hi)
set_option maxHeartbeats 8000000 in
set_option maxRecDepth 100000 in
theorem index_ed_call (ef ep : Int) (l : List Ed) (es : List AV) (hes : es = l.map Ed.av) (M : Int) (hM : Ln M l) (hMM : M < 2 ^ 48) (K E) (h : ∀ r, IdxIs l ⟨ef, ep⟩ r → K (.int .i64 r) []) :
    CallA Try.prog 74 [.sl 2 es .no, .agg [.int .i64 ef, .int .i64 ep]] [] K E := by
  have hM0 : 0 ≤ M := by unfold Ln at hM; omega
  refine call_fn (n₀ := 0) tab_ok [] Try.func74 rfl rfl rfl rfl (by decide) ?_
  intro J hJ
  have hlo : J.o.len es = M := by subst hJ hes; unfold Ln at hM; simp [std, stdOps, hM]
  cbv
  refine loop_at (β := Int) hJ tab_ok (fun | j => ⟨[(8, .int .i64 j), (7, .int .i64 (J.o.len es)), (3, .ptr 0 0), (0, .sl 2 es .no)], [.var [.int .i64 ef, .int .i64 ep]], 19⟩) (fun | j => (0 ≤ j) ∧ (j ≤ M) ∧ (∀ r : Int, 0 ≤ r → r < j → l[r.toNat]? ≠ some ⟨ef, ep⟩)) (fun | j => (M + 1 - j).toNat) 0 ?_ ?_ ?_ ?_
  · exact ⟨Int.le_refl _, hM0, fun r h1 h2 => by omega⟩
  · refine ⟨?_, ?_, rfl, rfl⟩
    · cbv
      try exact ⟨rfl, trivial⟩
    · cbv
  · rintro j; exact Nat.le_of_ble_eq_true rfl
  rintro j hinv Nx Nxh
  obtain ⟨j0, jM, hj⟩ : (0 ≤ j) ∧ (j ≤ M) ∧ (∀ r : Int, 0 ≤ r → r < j → l[r.toNat]? ≠ some ⟨ef, ep⟩) := hinv
  obtain ⟨j1, hj1⟩ : ∃ j1 : Int, j1 = j + 1 := ⟨_, rfl⟩
  have hN : ∀ env (j' : Int) v, (0 ≤ j') ∧ (j' ≤ M) ∧ (∀ r : Int, 0 ≤ r → r < j' → l[r.toNat]? ≠ some ⟨ef, ep⟩) → (M + 1 - j').toNat < (M + 1 - j).toNat → wkEnv env [(8, .int .i64 j'), (7, .int .i64 (J.o.len es)), (3, .ptr 0 0), (0, .sl 2 es .no)] → Nx ⟨env, [.var [.int .i64 ef, .int .i64 ep]] ++ v, 19⟩ := fun env j' v h1 h2 h3 => Nxh _ j' h1 h2 ⟨h3, by cbv, rfl, rfl⟩
  clear Nxh
  all_goals cbv
  repeat' (first
    | with_reducible exact id
    | exact trivial
    | (with_reducible refine op_is hJ hos ho hoes ?_; cbv)
    | (with_reducible refine op_in hJ hos ?_; intro ok op of oa oes oil hoes hop; cbv)
    | (with_reducible refine ed_in hJ hes ?_; intro xf xp hed; cbv)
    | (with_reducible refine ed_in hJ hoes ?_; intro xf xp hed; cbv)
    | intro hh
    | with_reducible refine And.intro ?_ ?_
    | (with_reducible first | refine awp_go ?_ | refine aops_go ?_ | refine strip_go ?_ | refine draw_go ?_ | refine frames_go ?_); cbv)
  all_goals first
    | (refine hN _ j1 _ ⟨?_, ?_, ne_next j0 hj1 hj hed (by clear h hN; subst hJ; simp only [std, stdOps] at *; grind)⟩ ?_ ?_ <;> first | (with_reducible refine wkEnv_go' ?_; cbv; clear h hN; subst hJ; simp only [std, stdOps] at *; grind [wrap64]) | (clear h hN; subst hJ; simp only [std, stdOps] at *; grind) | (clear h hN; subst hJ; simp only [std, stdOps] at *; grind [wrap64]))
    | (refine h _ (.inr ⟨j0, hed.trans (by clear h hN; subst hJ; simp only [std, stdOps] at *; grind), hj⟩))
    | (refine h _ (.inl ⟨rfl, ne_all hM (by clear h hN; subst hJ; simp only [std, stdOps] at *; grind) hj⟩))
    | (clear h hN; subst hJ; simp only [std, stdOps] at *; grind)
theorem index_ed_at {J : Jd} {n₀ : Nat} (hJ : J = std Try.prog n₀) {ef ep : Int} {l : List Ed} {es : List AV} (hes : es = l.map Ed.av) {M : Int} (hM : Ln M l) (hMM : M < 2 ^ 48) {σ K E} (h : ∀ r, IdxIs l ⟨ef, ep⟩ r → K (.int .i64 r) σ) :
    J.call 74 [.sl 2 es .no, .agg [.int .i64 ef, .int .i64 ep]] σ K E := by
  subst hJ
  refine call_in (J := std Try.prog n₀) rfl [] (by simp) (by simp) (args' := [.sl 2 es .no, .agg [.int .i64 ef, .int .i64 ep]]) (σ' := []) rfl rfl ?_
  refine index_ed_call ef ep l es hes M hM hMM _ _ fun r hr => ?_
  rw [back_nil]; exact h r hr

end Go.Proofs.Ytilffanmaicakaa.A

/- Where a port leads: To. -/
namespace Go.Proofs.Ytilffanmaicakaa.A
open Go Go.Pt Go.Gr

/-- No input ahead of an operator is the edge. -/
def ToNot (l : List Gr.Op) (e : Ed) (q : Int) : Prop := ∀ m : Int, 0 ≤ m → m < q → ∀ o, l[m.toNat]? = some o → e ∉ o.i
/-- The first input that is the edge. -/
def ToAt (l : List Gr.Op) (e : Ed) (n i : Int) (b : Bool) : Prop :=
  (b = false ∧ n = 0 ∧ i = 0 ∧ ∀ o ∈ l, e ∉ o.i) ∨ (b = true ∧ 0 ≤ n ∧ ToNot l e n ∧ ∃ o, l[n.toNat]? = some o ∧ 0 ≤ i ∧ o.i[i.toNat]? = some e ∧ ∀ j : Int, 0 ≤ j → j < i → o.i[j.toNat]? ≠ some e)
/-- Each operator's inputs are few. -/
def LnIn (l : List Gr.Op) : Prop := ∀ o ∈ l, (o.i.length : Int) < 2 ^ 48
theorem lnIn {l : List Gr.Op} (h : LnIn l) {q : Nat} {o : Gr.Op} (ho : l[q]? = some o) : ∃ M, Ln M o.i ∧ M < 2 ^ 48 := ⟨_, rfl, h o (List.mem_of_getElem? ho)⟩
theorem toNot_zero {l : List Gr.Op} {e : Ed} : ToNot l e 0 := fun m h1 h2 => by omega
theorem toNot_next {l : List Gr.Op} {e : Ed} {q q1 : Int} {o : Gr.Op} (hq1 : q1 = q + 1) (q0 : 0 ≤ q) (ho : l[q.toNat]? = some o) (hn : e ∉ o.i) (h : ToNot l e q) : ToNot l e q1 := by
  intro m h1 h2 o' hm
  by_cases hlt : m < q
  · exact h m h1 hlt o' hm
  · rw [show m = q by omega, ho] at hm
    obtain rfl := Option.some.inj hm
    exact hn
theorem toAt_no {l : List Gr.Op} {e : Ed} {L q : Int} (hL : Ln L l) (hq : q = L) (h : ToNot l e q) : ToAt l e 0 0 false := by
  refine .inl ⟨rfl, rfl, rfl, fun o ho => ?_⟩
  obtain ⟨i, hi⟩ := List.mem_iff_getElem?.1 ho
  have := lt_of_get hi
  unfold Ln at hL
  exact h i (by omega) (by omega) o (by simpa using hi)
theorem idx_neg {l : List Ed} {e : Ed} {r : Int} (h : IdxIs l e r) (hr : r < 0) : e ∉ l := by
  rcases h with h | h
  · exact h.2
  · omega
theorem toAt_is {l : List Gr.Op} {e : Ed} {q r : Int} {o : Gr.Op} (q0 : 0 ≤ q) (ho : l[q.toNat]? = some o) (hr : IdxIs o.i e r) (r0 : 0 ≤ r) (h : ToNot l e q) : ToAt l e q r true := by
  rcases hr with hr | hr
  · omega
  · exact .inr ⟨rfl, q0, h, o, ho, hr⟩
theorem ToAt.same {l : List Gr.Op} {e : Ed} {n i n' i' : Int} {b b' : Bool} (h : ToAt l e n i b) (h' : ToAt l e n' i' b') : n = n' ∧ i = i' ∧ b = b' := by
  rcases h with ⟨rfl, rfl, rfl, h⟩ | ⟨rfl, n0, hn, o, ho, i0, hi, hm⟩ <;> rcases h' with ⟨rfl, rfl, rfl, h'⟩ | ⟨rfl, n0', hn', o', ho', i0', hi', hm'⟩
  · simp
  · exact absurd (List.mem_of_getElem? hi') (h o' (List.mem_of_getElem? ho'))
  · exact absurd (List.mem_of_getElem? hi) (h' o (List.mem_of_getElem? ho))
  · have : n = n' := by
      rcases Int.lt_trichotomy n n' with hlt | heq | hlt
      · exact absurd (List.mem_of_getElem? hi) (hn' n n0 hlt o ho)
      · exact heq
      · exact absurd (List.mem_of_getElem? hi') (hn n' n0' hlt o' ho')
    subst this
    rw [ho] at ho'
    obtain rfl := Option.some.inj ho'
    refine ⟨rfl, ?_, rfl⟩
    rcases Int.lt_trichotomy i i' with hlt | heq | hlt
    · exact absurd hi (hm' i i0 hlt)
    · exact heq
    · exact absurd hi' (hm i' i0' hlt)
set_option maxHeartbeats 8000000 in
set_option maxRecDepth 100000 in
theorem to_call (n ef ep : Int) (l : List Gr.Op) (os : List AV) (hos : os = l.map Gr.Op.av) (L : Int) (hL : Ln L l) (hLL : L < 2 ^ 48) (hI : LnIn l) (K E) (h : ∀ a b c, ToAt l ⟨ef, ep⟩ a b c → K (.tup [.int .i64 a, .int .i64 b, .bool c]) []) :
    CallA Try.prog 32 [.agg [.int .i64 n, .sl 5 os .no], .int .i64 ef, .int .i64 ep] [] K E := by
  have hL0 : 0 ≤ L := by unfold Ln at hL; omega
  refine call_fn (n₀ := 0) tab_ok [] Try.func32 rfl rfl rfl rfl (by decide) ?_
  intro J hJ
  have hlos : J.o.len os = L := by subst hJ hos; unfold Ln at hL; simp [std, stdOps, hL]
  cbv
  refine loop_at (β := Int) hJ tab_ok (fun | q => ⟨[(15, .int .i64 q), (14, .int .i64 (J.o.len os)), (13, .sl 5 os .no), (2, .int .i64 ep), (1, .int .i64 ef)], [.var [.int .i64 n, .sl 5 os .no]], 31⟩) (fun | q => (0 ≤ q) ∧ (q ≤ L) ∧ (ToNot l ⟨ef, ep⟩ q)) (fun | q => (L + 1 - q).toNat) 0 ?_ ?_ ?_ ?_
  · exact ⟨Int.le_refl _, hL0, toNot_zero⟩
  · refine ⟨?_, ?_, rfl, rfl⟩
    · cbv
      try exact ⟨rfl, trivial⟩
    · cbv
  · rintro q; exact Nat.le_of_ble_eq_true rfl
  rintro q hinv Nx Nxh
  obtain ⟨q0, qL, hq⟩ : (0 ≤ q) ∧ (q ≤ L) ∧ (ToNot l ⟨ef, ep⟩ q) := hinv
  obtain ⟨q1, hq1⟩ : ∃ q1 : Int, q1 = q + 1 := ⟨_, rfl⟩
  have hN : ∀ env (q' : Int) v, (0 ≤ q') ∧ (q' ≤ L) ∧ (ToNot l ⟨ef, ep⟩ q') → (L + 1 - q').toNat < (L + 1 - q).toNat → wkEnv env [(15, .int .i64 q'), (14, .int .i64 (J.o.len os)), (13, .sl 5 os .no), (2, .int .i64 ep), (1, .int .i64 ef)] → Nx ⟨env, [.var [.int .i64 n, .sl 5 os .no]] ++ v, 31⟩ := fun env q' v h1 h2 h3 => Nxh _ q' h1 h2 ⟨h3, by cbv, rfl, rfl⟩
  clear Nxh
  all_goals cbv
  repeat' (first
    | with_reducible exact id
    | exact trivial
    | (obtain ⟨M, hM, hMM⟩ := lnIn hI hop; with_reducible refine index_ed_at hJ hoes hM hMM ?_; intro r hr; cbv)
    | (with_reducible refine op_is hJ hos ho hoes ?_; cbv)
    | (with_reducible refine op_in hJ hos ?_; intro ok op of oa oes oil hoes hop; cbv)
    | (with_reducible refine ed_in hJ hes ?_; intro xf xp hed; cbv)
    | (with_reducible refine ed_in hJ hoes ?_; intro xf xp hed; cbv)
    | intro hh
    | with_reducible refine And.intro ?_ ?_
    | (with_reducible first | refine awp_go ?_ | refine aops_go ?_ | refine strip_go ?_ | refine draw_go ?_ | refine frames_go ?_); cbv)
  all_goals first
    | (refine hN _ q1 _ ⟨?_, ?_, toNot_next hq1 q0 hop (idx_neg hr (by clear h hN; subst hJ; simp only [std, stdOps] at *; grind)) hq⟩ ?_ ?_ <;> first | (with_reducible refine wkEnv_go' ?_; cbv; clear h hN; subst hJ; simp only [std, stdOps] at *; grind [wrap64]) | (clear h hN; subst hJ; simp only [std, stdOps] at *; grind [wrap64]))
    | (refine h _ _ _ (toAt_is q0 hop hr (by clear h hN; subst hJ; simp only [std, stdOps] at *; grind) hq))
    | (refine h _ _ _ (toAt_no hL (by clear h hN; subst hJ; simp only [std, stdOps] at *; grind) hq))
    | (clear h hN; subst hJ; simp only [std, stdOps] at *; grind)

end Go.Proofs.Ytilffanmaicakaa.A

/- Where a port leads: the document's To. -/
namespace Go.Proofs.Ytilffanmaicakaa.A
open Go Go.Pt Go.Gr

set_option maxHeartbeats 8000000 in
set_option maxRecDepth 100000 in
theorem to'_call (n ef ep : Int) (l : List Gr.Op) (os : List AV) (hos : os = l.map Gr.Op.av) (L : Int) (hL : Ln L l) (hLL : L < 2 ^ 48) (hI : LnIn l) (K E) (h : ∀ a b c, ToAt l ⟨ef, ep⟩ a b c → K (.tup [.int .i64 a, .int .i64 b, .bool c]) []) :
    CallA Try.prog 33 [.agg [.int .i64 n, .sl 5 os .no], .int .i64 ef, .int .i64 ep] [] K E := by
  have hL0 : 0 ≤ L := by unfold Ln at hL; omega
  refine call_fn (n₀ := 0) tab_ok [] Try.func33 rfl rfl rfl rfl (by decide) ?_
  intro J hJ
  have hlos : J.o.len os = L := by subst hJ hos; unfold Ln at hL; simp [std, stdOps, hL]
  cbv
  refine loop_at (β := Int) hJ tab_ok (fun | q => ⟨[(9, .int .i64 q), (3, .ptr 0 0), (2, .int .i64 ep), (1, .int .i64 ef)], [.var [.int .i64 n, .sl 5 os .no]], 57⟩) (fun | q => (0 ≤ q) ∧ (q ≤ L) ∧ (ToNot l ⟨ef, ep⟩ q)) (fun | q => (L + 1 - q).toNat) 0 ?_ ?_ ?_ ?_
  · exact ⟨Int.le_refl _, hL0, toNot_zero⟩
  · refine ⟨?_, ?_, rfl, rfl⟩
    · cbv
      try exact ⟨rfl, trivial⟩
    · cbv
  · rintro q; exact Nat.le_of_ble_eq_true rfl
  rintro q hinv Nx Nxh
  obtain ⟨q0, qL, hq⟩ : (0 ≤ q) ∧ (q ≤ L) ∧ (ToNot l ⟨ef, ep⟩ q) := hinv
  obtain ⟨q1, hq1⟩ : ∃ q1 : Int, q1 = q + 1 := ⟨_, rfl⟩
  have hN : ∀ env (q' : Int) v, (0 ≤ q') ∧ (q' ≤ L) ∧ (ToNot l ⟨ef, ep⟩ q') → (L + 1 - q').toNat < (L + 1 - q).toNat → wkEnv env [(9, .int .i64 q'), (3, .ptr 0 0), (2, .int .i64 ep), (1, .int .i64 ef)] → Nx ⟨env, [.var [.int .i64 n, .sl 5 os .no]] ++ v, 57⟩ := fun env q' v h1 h2 h3 => Nxh _ q' h1 h2 ⟨h3, by cbv, rfl, rfl⟩
  clear Nxh
  all_goals cbv
  repeat' (first
    | with_reducible exact id
    | exact trivial
    | (with_reducible refine op_is hJ hos ho hoes ?_; cbv)
    | (with_reducible refine op_in hJ hos ?_; intro ok op of oa oes oil hoes hop; cbv)
    | (with_reducible refine ed_in hJ hes ?_; intro xf xp hed; cbv)
    | (with_reducible refine ed_in hJ hoes ?_; intro xf xp hed; cbv)
    | intro hh
    | with_reducible refine And.intro ?_ ?_
    | (with_reducible first | refine awp_go ?_ | refine aops_go ?_ | refine strip_go ?_ | refine draw_go ?_ | refine frames_go ?_); cbv)
  all_goals first
    | (refine h _ _ _ (toAt_no hL (by clear h hN; subst hJ; simp only [std, stdOps] at *; grind) hq))
    | (clear h hN; subst hJ; simp only [std, stdOps] at *; grind)
    | skip
  all_goals try
    (have hqL : q < L := by clear h hN; subst hJ; simp only [std, stdOps] at *; grind
     obtain ⟨⟨ok, op, of, oa, oil⟩, ho⟩ : ∃ o, l[q.toNat]? = some o := at_of hL q0 hqL
     obtain ⟨oes, hoes⟩ : ∃ es, es = oil.map Ed.av := ⟨_, rfl⟩
     obtain ⟨M, hM, hMM⟩ := lnIn hI ho
     replace hM : Ln M oil := hM
     have hM0 : 0 ≤ M := by unfold Ln at hM; omega
     have hlo : J.o.len oes = M := by subst hJ hoes; unfold Ln at hM; simp [std, stdOps, hM])
  all_goals first
    | (refine loop_at (β := Int) hJ tab_ok (fun | j => ⟨[(10, .int .i64 j), (9, .int .i64 q), (3, .ptr 0 0), (2, .int .i64 ep), (1, .int .i64 ef)], [.var [.int .i64 n, .sl 5 os .no]], 57⟩) (fun | j => (0 ≤ j) ∧ (j ≤ M) ∧ (∀ r : Int, 0 ≤ r → r < j → oil[r.toNat]? ≠ some ⟨ef, ep⟩)) (fun | j => (M + 1 - j).toNat) 0 ?_ ?_ ?_ ?_
       · exact ⟨Int.le_refl _, hM0, fun r h1 h2 => by omega⟩
       · refine ⟨?_, ?_, rfl, rfl⟩
         · cbv
           try exact ⟨rfl, trivial⟩
         · cbv
       · rintro j; exact Nat.le_of_ble_eq_true rfl
       rintro j hinv2 Ny Nyh
       obtain ⟨j0, jM, hj⟩ : (0 ≤ j) ∧ (j ≤ M) ∧ (∀ r : Int, 0 ≤ r → r < j → oil[r.toNat]? ≠ some ⟨ef, ep⟩) := hinv2
       obtain ⟨j1, hj1⟩ : ∃ j1 : Int, j1 = j + 1 := ⟨_, rfl⟩
       have hM2 : ∀ env (j' : Int) v, (0 ≤ j') ∧ (j' ≤ M) ∧ (∀ r : Int, 0 ≤ r → r < j' → oil[r.toNat]? ≠ some ⟨ef, ep⟩) → (M + 1 - j').toNat < (M + 1 - j).toNat → wkEnv env [(10, .int .i64 j'), (9, .int .i64 q), (3, .ptr 0 0), (2, .int .i64 ep), (1, .int .i64 ef)] → Ny ⟨env, [.var [.int .i64 n, .sl 5 os .no]] ++ v, 57⟩ := fun env j' v h1 h2 h3 => Nyh _ j' h1 h2 ⟨h3, by cbv, rfl, rfl⟩
       clear Nyh
       all_goals cbv
       repeat' (first
         | with_reducible exact id
         | exact trivial
         | (with_reducible refine op_is hJ hos ho hoes ?_; cbv)
         | (with_reducible refine op_in hJ hos ?_; intro ok op of oa oes oil hoes hop; cbv)
         | (with_reducible refine ed_in hJ hes ?_; intro xf xp hed; cbv)
         | (with_reducible refine ed_in hJ hoes ?_; intro xf xp hed; cbv)
         | intro hh
         | with_reducible refine And.intro ?_ ?_
         | (with_reducible first | refine awp_go ?_ | refine aops_go ?_ | refine strip_go ?_ | refine draw_go ?_ | refine frames_go ?_); cbv)
       all_goals first
         | (refine hM2 _ j1 _ ⟨?_, ?_, ne_next j0 hj1 hj hed (by clear h hN hM2; subst hJ; simp only [std, stdOps] at *; grind)⟩ ?_ ?_ <;> first | (with_reducible refine wkEnv_go' ?_; cbv; clear h hN hM2; subst hJ; simp only [std, stdOps] at *; grind [wrap64]) | (clear h hN hM2; subst hJ; simp only [std, stdOps] at *; grind [wrap64]))
         | (refine hN _ q1 _ ⟨?_, ?_, toNot_next hq1 q0 ho (ne_all hM (by clear h hN hM2; subst hJ; simp only [std, stdOps] at *; grind) hj) hq⟩ ?_ ?_ <;> first | (with_reducible refine wkEnv_go' ?_; cbv; clear h hN hM2; subst hJ; simp only [std, stdOps] at *; grind [wrap64]) | (clear h hN hM2; subst hJ; simp only [std, stdOps] at *; grind [wrap64]))
         | (refine h _ _ _ (toAt_is (r := j) q0 ho (.inr ⟨j0, hed.trans (by clear h hN hM2; subst hJ; simp only [std, stdOps] at *; grind), hj⟩) j0 hq))
         | (clear h hN hM2; subst hJ; simp only [std, stdOps] at *; grind))
    | skip
  

end Go.Proofs.Ytilffanmaicakaa.A

/- Where a source is. -/
namespace Go.Proofs.Ytilffanmaicakaa.A
open Go Go.Pt Go.Gr

/-- A part's source. -/
def IsSrc (s : Int) (o : Gr.Op) : Prop := o.k = 1 ∧ o.p = s
/-- Where a part's source is. -/
def SrcAt (s : Int) (l : List Gr.Op) (r : Int) : Prop := (r = -1 ∧ ∀ o ∈ l, ¬ IsSrc s o) ∨ (0 ≤ r ∧ (∃ o, l[r.toNat]? = some o ∧ IsSrc s o) ∧ ∀ j : Int, 0 ≤ j → j < r → ∀ o, l[j.toNat]? = some o → ¬ IsSrc s o)
theorem src_no {s : Int} {l : List Gr.Op} {L q : Int} (hL : Ln L l) (hq : q = L) (h : ∀ j : Int, 0 ≤ j → j < q → ∀ o, l[j.toNat]? = some o → ¬ IsSrc s o) : SrcAt s l (-1) := by
  refine .inl ⟨rfl, fun o ho => ?_⟩
  obtain ⟨i, hi⟩ := List.mem_iff_getElem?.1 ho
  have := lt_of_get hi
  unfold Ln at hL
  exact h i (by omega) (by omega) o (by simpa using hi)
theorem src_next {s : Int} {l : List Gr.Op} {q q1 k p f a : Int} {il : List Ed} (hq1 : q1 = q + 1) (q0 : 0 ≤ q) (ho : l[q.toNat]? = some ⟨k, p, f, a, il⟩) (hk : ¬ (k = 1 ∧ p = s)) (h : ∀ j : Int, 0 ≤ j → j < q → ∀ o, l[j.toNat]? = some o → ¬ IsSrc s o) : ∀ j : Int, 0 ≤ j → j < q1 → ∀ o, l[j.toNat]? = some o → ¬ IsSrc s o := by
  intro j h1 h2 o hj
  by_cases hlt : j < q
  · exact h j h1 hlt o hj
  · rw [show j = q by omega, ho] at hj
    obtain rfl := Option.some.inj hj
    exact hk
theorem SrcAt.same {s : Int} {l : List Gr.Op} {r r' : Int} (h : SrcAt s l r) (h' : SrcAt s l r') : r = r' := by
  rcases h with ⟨rfl, h⟩ | ⟨r0, ⟨o, ho, hk⟩, hm⟩ <;> rcases h' with ⟨rfl, h'⟩ | ⟨r0', ⟨o', ho', hk'⟩, hm'⟩
  · rfl
  · exact absurd hk' (h o' (List.mem_of_getElem? ho'))
  · exact absurd hk (h' o (List.mem_of_getElem? ho))
  · rcases Int.lt_trichotomy r r' with hlt | heq | hlt
    · exact absurd hk (hm' r r0 hlt o ho)
    · exact heq
    · exact absurd hk' (hm r' r0' hlt o' ho')
theorem SinkAt.same {l : List Gr.Op} {r r' : Int} (h : SinkAt l r) (h' : SinkAt l r') : r = r' := by
  rcases h with ⟨rfl, h⟩ | ⟨r0, ⟨o, ho, hk⟩, hm⟩ <;> rcases h' with ⟨rfl, h'⟩ | ⟨r0', ⟨o', ho', hk'⟩, hm'⟩
  · rfl
  · exact absurd hk' (h o' (List.mem_of_getElem? ho'))
  · exact absurd hk (h' o (List.mem_of_getElem? ho))
  · rcases Int.lt_trichotomy r r' with hlt | heq | hlt
    · exact absurd hk (hm' r r0 hlt o ho)
    · exact heq
    · exact absurd hk' (hm r' r0' hlt o' ho')

set_option maxHeartbeats 8000000 in
set_option maxRecDepth 100000 in
theorem isSrc_call (k p f a s : Int) (es : List AV) (K E) (h : K (.bool (decide (k = 1) && decide (p = s))) [.var [.int .i64 s]]) : CallA Try.prog 75 [.agg [.int .i64 k, .int .i64 p, .int .i64 f, .int .i64 a, .sl 2 es .no], .ptr 0 0] [.var [.int .i64 s]] K E := by
  refine call_fn (n₀ := 1) tab_ok [] Try.func75 rfl rfl rfl rfl (by simp [rangeN, snoc]) ?_
  intro J hJ
  cbv
  repeat' (first
    | with_reducible exact id
    | exact trivial
    | (with_reducible refine op_is hJ hos ho hoes ?_; cbv)
    | (with_reducible refine op_in hJ hos ?_; intro ok op of oa oes oil hoes hop; cbv)
    | (with_reducible refine ed_in hJ hes ?_; intro xf xp hed; cbv)
    | (with_reducible refine ed_in hJ hoes ?_; intro xf xp hed; cbv)
    | intro hh
    | with_reducible refine And.intro ?_ ?_
    | (with_reducible first | refine awp_go ?_ | refine aops_go ?_ | refine strip_go ?_ | refine draw_go ?_ | refine frames_go ?_); cbv)
  all_goals first
    | (refine fit_bool h ?_; clear h ; subst hJ; simp only [std, stdOps] at *; grind)
    | (clear h ; subst hJ; simp only [std, stdOps] at *; grind)
theorem isSrc_at {J : Jd} (hJ : J = std Try.prog 1) {k p f a s : Int} {es : List AV} {K E} (h : ∀ r', r' = (decide (k = 1) && decide (p = s)) → K (.bool r') [.var [.int .i64 s]]) : J.call 75 [.agg [.int .i64 k, .int .i64 p, .int .i64 f, .int .i64 a, .sl 2 es .no], .ptr 0 0] [.var [.int .i64 s]] K E := by
  subst hJ; exact isSrc_call k p f a s es K E (h _ rfl)

set_option maxHeartbeats 8000000 in
set_option maxRecDepth 100000 in
theorem indexSrc_call (s : Int) (l : List Gr.Op) (os : List AV) (hos : os = l.map Gr.Op.av) (L : Int) (hL : Ln L l) (hLL : L < 2 ^ 48) (K E) (h : ∀ r, SrcAt s l r → K (.int .i64 r) [.var [.int .i64 s]]) :
    CallA Try.prog 72 [.sl 5 os .no, .func 75 [.ptr 0 0]] [.var [.int .i64 s]] K E := by
  have hL0 : 0 ≤ L := by unfold Ln at hL; omega
  refine call_fn (n₀ := 1) tab_ok [] Try.func72 rfl rfl rfl rfl (by simp [rangeN, snoc]) ?_
  intro J hJ
  have hlos : J.o.len os = L := by subst hJ hos; unfold Ln at hL; simp [std, stdOps, hL]
  cbv
  refine loop_at (β := Int) hJ tab_ok (fun | q => ⟨[(8, .int .i64 q), (7, .int .i64 (J.o.len os)), (1, .func 75 [.ptr 0 0]), (0, .sl 5 os .no)], [.var [.int .i64 s]], 19⟩) (fun | q => (0 ≤ q) ∧ (q ≤ L) ∧ (∀ j : Int, 0 ≤ j → j < q → ∀ o, l[j.toNat]? = some o → ¬ IsSrc s o)) (fun | q => (L + 1 - q).toNat) 0 ?_ ?_ ?_ ?_
  · exact ⟨Int.le_refl _, hL0, fun j h1 h2 => by omega⟩
  · refine ⟨?_, ?_, rfl, rfl⟩
    · cbv
      try exact ⟨rfl, trivial⟩
    · cbv
  · rintro q; exact Nat.le_of_ble_eq_true rfl
  rintro q hinv Nx Nxh
  obtain ⟨q0, qL, hq⟩ : (0 ≤ q) ∧ (q ≤ L) ∧ (∀ j : Int, 0 ≤ j → j < q → ∀ o, l[j.toNat]? = some o → ¬ IsSrc s o) := hinv
  obtain ⟨q1, hq1⟩ : ∃ q1 : Int, q1 = q + 1 := ⟨_, rfl⟩
  have hN : ∀ env (q' : Int) v, (0 ≤ q') ∧ (q' ≤ L) ∧ (∀ j : Int, 0 ≤ j → j < q' → ∀ o, l[j.toNat]? = some o → ¬ IsSrc s o) → (L + 1 - q').toNat < (L + 1 - q).toNat → wkEnv env [(8, .int .i64 q'), (7, .int .i64 (J.o.len os)), (1, .func 75 [.ptr 0 0]), (0, .sl 5 os .no)] → Nx ⟨env, [.var [.int .i64 s]] ++ v, 19⟩ := fun env q' v h1 h2 h3 => Nxh _ q' h1 h2 ⟨h3, by cbv, rfl, rfl⟩
  clear Nxh
  all_goals cbv
  repeat' (first
    | with_reducible exact id
    | exact trivial
    | (with_reducible refine isSrc_at hJ ?_; intros)
    | (with_reducible refine op_is hJ hos ho hoes ?_; cbv)
    | (with_reducible refine op_in hJ hos ?_; intro ok op of oa oes oil hoes hop; cbv)
    | (with_reducible refine ed_in hJ hes ?_; intro xf xp hed; cbv)
    | (with_reducible refine ed_in hJ hoes ?_; intro xf xp hed; cbv)
    | intro hh
    | with_reducible refine And.intro ?_ ?_
    | (with_reducible first | refine awp_go ?_ | refine aops_go ?_ | refine strip_go ?_ | refine draw_go ?_ | refine frames_go ?_); cbv)
  all_goals first
    | (refine hN _ q1 _ ⟨?_, ?_, src_next hq1 q0 hop (by clear h hN; subst hJ; simp only [std, stdOps] at *; grind) hq⟩ ?_ ?_ <;> first | (with_reducible refine wkEnv_go' ?_; cbv; clear h hN; subst hJ; simp only [std, stdOps] at *; grind [wrap64]) | (clear h hN; subst hJ; simp only [std, stdOps] at *; grind [wrap64]))
    | (refine h _ (.inr ⟨q0, ⟨_, hop, by unfold IsSrc; clear h hN; subst hJ; simp only [std, stdOps] at *; grind⟩, hq⟩))
    | (refine h _ (src_no hL (by clear h hN; subst hJ; simp only [std, stdOps] at *; grind) hq))
    | (clear h hN; subst hJ; simp only [std, stdOps] at *; grind)

set_option maxHeartbeats 8000000 in
set_option maxRecDepth 100000 in
theorem source_call (n s : Int) (l : List Gr.Op) (os : List AV) (hos : os = l.map Gr.Op.av) (L : Int) (hL : Ln L l) (hLL : L < 2 ^ 48) (K E) (h : ∀ r r2 b, SrcAt s l r → r2 = (if r < 0 then 0 else r) → b = decide (0 ≤ r) → K (.tup [.int .i64 r2, .bool b]) []) :
    CallA Try.prog 34 [.agg [.int .i64 n, .sl 5 os .no], .int .i64 s] [] K E := by
  refine call_fn (n₀ := 0) tab_ok [] Try.func34 rfl rfl rfl rfl (by decide) ?_
  intro J hJ
  cbv
  repeat' (first
    | with_reducible exact id
    | exact trivial
    | (refine call_in hJ [1] (by decide) rfl rfl rfl (indexSrc_call s l os hos L hL hLL _ _ ?_); intro r hr; cbv)
    | (with_reducible refine op_is hJ hos ho hoes ?_; cbv)
    | (with_reducible refine op_in hJ hos ?_; intro ok op of oa oes oil hoes hop; cbv)
    | (with_reducible refine ed_in hJ hes ?_; intro xf xp hed; cbv)
    | (with_reducible refine ed_in hJ hoes ?_; intro xf xp hed; cbv)
    | intro hh
    | with_reducible refine And.intro ?_ ?_
    | (with_reducible first | refine awp_go ?_ | refine aops_go ?_ | refine strip_go ?_ | refine draw_go ?_ | refine frames_go ?_); cbv)
  refine h r _ _ hr ?_ ?_
  · clear h; subst hJ; simp only [std, stdOps]
  · clear h; subst hJ; simp only [std, stdOps]

set_option maxHeartbeats 8000000 in
set_option maxRecDepth 100000 in
theorem source'_call (n s : Int) (l : List Gr.Op) (os : List AV) (hos : os = l.map Gr.Op.av) (L : Int) (hL : Ln L l) (hLL : L < 2 ^ 48) (K E) (h : ∀ r r2 b, SrcAt s l r → r2 = (if r < 0 then 0 else r) → b = decide (0 ≤ r) → K (.tup [.int .i64 r2, .bool b]) []) :
    CallA Try.prog 35 [.agg [.int .i64 n, .sl 5 os .no], .int .i64 s] [] K E := by
  have hL0 : 0 ≤ L := by unfold Ln at hL; omega
  refine call_fn (n₀ := 0) tab_ok [] Try.func35 rfl rfl rfl rfl (by decide) ?_
  intro J hJ
  have hlos : J.o.len os = L := by subst hJ hos; unfold Ln at hL; simp [std, stdOps, hL]
  cbv
  refine loop_at (β := Int) hJ tab_ok (fun | q => ⟨[(6, .int .i64 q), (2, .ptr 0 0), (1, .int .i64 s)], [.var [.int .i64 n, .sl 5 os .no]], 32⟩) (fun | q => (0 ≤ q) ∧ (q ≤ L) ∧ (∀ j : Int, 0 ≤ j → j < q → ∀ o, l[j.toNat]? = some o → ¬ IsSrc s o)) (fun | q => (L + 1 - q).toNat) 0 ?_ ?_ ?_ ?_
  · exact ⟨Int.le_refl _, hL0, fun j h1 h2 => by omega⟩
  · refine ⟨?_, ?_, rfl, rfl⟩
    · cbv
      try exact ⟨rfl, trivial⟩
    · cbv
  · rintro q; exact Nat.le_of_ble_eq_true rfl
  rintro q hinv Nx Nxh
  obtain ⟨q0, qL, hq⟩ : (0 ≤ q) ∧ (q ≤ L) ∧ (∀ j : Int, 0 ≤ j → j < q → ∀ o, l[j.toNat]? = some o → ¬ IsSrc s o) := hinv
  obtain ⟨q1, hq1⟩ : ∃ q1 : Int, q1 = q + 1 := ⟨_, rfl⟩
  have hN : ∀ env (q' : Int) v, (0 ≤ q') ∧ (q' ≤ L) ∧ (∀ j : Int, 0 ≤ j → j < q' → ∀ o, l[j.toNat]? = some o → ¬ IsSrc s o) → (L + 1 - q').toNat < (L + 1 - q).toNat → wkEnv env [(6, .int .i64 q'), (2, .ptr 0 0), (1, .int .i64 s)] → Nx ⟨env, [.var [.int .i64 n, .sl 5 os .no]] ++ v, 32⟩ := fun env q' v h1 h2 h3 => Nxh _ q' h1 h2 ⟨h3, by cbv, rfl, rfl⟩
  clear Nxh
  all_goals cbv
  repeat' (first
    | with_reducible exact id
    | exact trivial
    | (with_reducible refine op_is hJ hos ho hoes ?_; cbv)
    | (obtain ⟨⟨ok, op, of, oa, oil⟩, ho⟩ : ∃ o, l[q.toNat]? = some o := at_of hL q0 (by clear h hN; subst hJ; simp only [std, stdOps] at *; grind)
       obtain ⟨oes, hoes⟩ : ∃ es, es = oil.map Ed.av := ⟨_, rfl⟩
       with_reducible refine op_is hJ hos ho hoes ?_; cbv)
    | (with_reducible refine op_is hJ hos ho hoes ?_; cbv)
    | (with_reducible refine op_in hJ hos ?_; intro ok op of oa oes oil hoes hop; cbv)
    | (with_reducible refine ed_in hJ hes ?_; intro xf xp hed; cbv)
    | (with_reducible refine ed_in hJ hoes ?_; intro xf xp hed; cbv)
    | intro hh
    | with_reducible refine And.intro ?_ ?_
    | (with_reducible first | refine awp_go ?_ | refine aops_go ?_ | refine strip_go ?_ | refine draw_go ?_ | refine frames_go ?_); cbv)
  all_goals first
    | (refine hN _ q1 _ ⟨?_, ?_, src_next hq1 q0 ho (by clear h hN; subst hJ; simp only [std, stdOps] at *; grind) hq⟩ ?_ ?_ <;> first | (with_reducible refine wkEnv_go' ?_; cbv; clear h hN; subst hJ; simp only [std, stdOps] at *; grind [wrap64]) | (clear h hN; subst hJ; simp only [std, stdOps] at *; grind [wrap64]))
    | (refine h q _ _ (.inr ⟨q0, ⟨_, ho, by unfold IsSrc; clear h hN; subst hJ; simp only [std, stdOps] at *; grind⟩, hq⟩) (by clear h hN; subst hJ; simp only [std, stdOps] at *; grind) (by clear h hN; subst hJ; simp only [std, stdOps] at *; grind))
    | (refine h (-1) _ _ (src_no hL (by clear h hN; subst hJ; simp only [std, stdOps] at *; grind) hq) rfl rfl)
    | (clear h hN; subst hJ; simp only [std, stdOps] at *; grind)

set_option maxHeartbeats 8000000 in
set_option maxRecDepth 100000 in
theorem sink'_call (n : Int) (l : List Gr.Op) (os : List AV) (hos : os = l.map Gr.Op.av) (L : Int) (hL : Ln L l) (hLL : L < 2 ^ 48) (K E) (h : ∀ r r2 b, SinkAt l r → r2 = (if r < 0 then 0 else r) → b = decide (0 ≤ r) → K (.tup [.int .i64 r2, .bool b]) []) :
    CallA Try.prog 36 [.agg [.int .i64 n, .sl 5 os .no]] [] K E := by
  have hL0 : 0 ≤ L := by unfold Ln at hL; omega
  refine call_fn (n₀ := 0) tab_ok [] Try.func36 rfl rfl rfl rfl (by decide) ?_
  intro J hJ
  have hlos : J.o.len os = L := by subst hJ hos; unfold Ln at hL; simp [std, stdOps, hL]
  cbv
  refine loop_at (β := Int) hJ tab_ok (fun | q => ⟨[(4, .int .i64 q), (1, .ptr 0 0)], [.var [.int .i64 n, .sl 5 os .no]], 20⟩) (fun | q => (0 ≤ q) ∧ (q ≤ L) ∧ (∀ j : Int, 0 ≤ j → j < q → ∀ o, l[j.toNat]? = some o → o.k ≠ 9)) (fun | q => (L + 1 - q).toNat) 0 ?_ ?_ ?_ ?_
  · exact ⟨Int.le_refl _, hL0, fun j h1 h2 => by omega⟩
  · refine ⟨?_, ?_, rfl, rfl⟩
    · cbv
      try exact ⟨rfl, trivial⟩
    · cbv
  · rintro q; exact Nat.le_of_ble_eq_true rfl
  rintro q hinv Nx Nxh
  obtain ⟨q0, qL, hq⟩ : (0 ≤ q) ∧ (q ≤ L) ∧ (∀ j : Int, 0 ≤ j → j < q → ∀ o, l[j.toNat]? = some o → o.k ≠ 9) := hinv
  obtain ⟨q1, hq1⟩ : ∃ q1 : Int, q1 = q + 1 := ⟨_, rfl⟩
  have hN : ∀ env (q' : Int) v, (0 ≤ q') ∧ (q' ≤ L) ∧ (∀ j : Int, 0 ≤ j → j < q' → ∀ o, l[j.toNat]? = some o → o.k ≠ 9) → (L + 1 - q').toNat < (L + 1 - q).toNat → wkEnv env [(4, .int .i64 q'), (1, .ptr 0 0)] → Nx ⟨env, [.var [.int .i64 n, .sl 5 os .no]] ++ v, 20⟩ := fun env q' v h1 h2 h3 => Nxh _ q' h1 h2 ⟨h3, by cbv, rfl, rfl⟩
  clear Nxh
  all_goals cbv
  repeat' (first
    | with_reducible exact id
    | exact trivial
    | (with_reducible refine op_is hJ hos ho hoes ?_; cbv)
    | (obtain ⟨⟨ok, op, of, oa, oil⟩, ho⟩ : ∃ o, l[q.toNat]? = some o := at_of hL q0 (by clear h hN; subst hJ; simp only [std, stdOps] at *; grind)
       obtain ⟨oes, hoes⟩ : ∃ es, es = oil.map Ed.av := ⟨_, rfl⟩
       with_reducible refine op_is hJ hos ho hoes ?_; cbv)
    | (with_reducible refine op_is hJ hos ho hoes ?_; cbv)
    | (with_reducible refine op_in hJ hos ?_; intro ok op of oa oes oil hoes hop; cbv)
    | (with_reducible refine ed_in hJ hes ?_; intro xf xp hed; cbv)
    | (with_reducible refine ed_in hJ hoes ?_; intro xf xp hed; cbv)
    | intro hh
    | with_reducible refine And.intro ?_ ?_
    | (with_reducible first | refine awp_go ?_ | refine aops_go ?_ | refine strip_go ?_ | refine draw_go ?_ | refine frames_go ?_); cbv)
  all_goals first
    | (refine hN _ q1 _ ⟨?_, ?_, sink_next hq1 q0 ho (by clear h hN; subst hJ; simp only [std, stdOps] at *; grind) hq⟩ ?_ ?_ <;> first | (with_reducible refine wkEnv_go' ?_; cbv; clear h hN; subst hJ; simp only [std, stdOps] at *; grind [wrap64]) | (clear h hN; subst hJ; simp only [std, stdOps] at *; grind [wrap64]))
    | (refine h q _ _ (.inr ⟨q0, ⟨_, ho, by clear h hN; subst hJ; simp only [std, stdOps] at *; grind⟩, hq⟩) (by clear h hN; subst hJ; simp only [std, stdOps] at *; grind) (by clear h hN; subst hJ; simp only [std, stdOps] at *; grind))
    | (refine h (-1) _ _ (sink_no hL (by clear h hN; subst hJ; simp only [std, stdOps] at *; grind) hq) rfl rfl)
    | (clear h hN; subst hJ; simp only [std, stdOps] at *; grind)

end Go.Proofs.Ytilffanmaicakaa.A

/- Going through all inputs. -/
namespace Go.Proofs.Ytilffanmaicakaa.A
open Go Go.Pt Go.Gr

/-- A loop over a function: the record's texts are variables. -/
theorem range_vars {P : Program} {n₀ : Nat} {J : Jd} (hJ : J = std P n₀) {g : Operand} {ps : Array Tmp} {asg body : Code} {Q : Ex → St → Prop} {s : St} {f : FuncId} {caps : List AV} (hg : s.ev g = .func f caps)
    (h : ∀ p a b e, p = ps.toList → a = asg → b = body → e = s.env → CallA P f (.yld (lenN s.hp) :: caps) (snoc s.hp (.lp p a b e s.n .ready none)) (rangeQ Q s (lenN s.hp)) (fun _ _ => False)) : J.code (.rangeFunc g ps asg body) Q s :=
  range_at hJ hg (h _ _ _ _ rfl rfl rfl rfl)
theorem yield_vars {P : Program} {n₀ : Nat} {tab : Nat → Ty} {σ : List Ent} {J : Jd} (hJ : J = std P n₀) (ht : TabOk P tab) {i : Nat} {args : List AV} {K : AV → List Ent → Prop} {ps ps' : List Nat} {asg asg' body body' : Code} {env env' : List (Nat × AV)} {n : Nat} {pe : Option Code}
    (hi : nth σ i = some (.lp ps asg body env n .ready pe)) (h1 : ps = ps') (h2 : asg = asg') (h3 : body = body') (h4 : env = env') (hl : Nat.beq (lenN ps') (lenN args) = true) (hp : allLt ps' n = true)
    (h : ∀ J, J = std P (lenN σ) → awp J tab asg' (asgQ J tab i body' K) ⟨zipEnv ps' args env', σ, n⟩) : J.yld i args σ K := by
  subst h1 h2 h3 h4
  exact yield_at hJ ht hi hl hp h
/-- The operators' numbers, once for each input. -/
def ats (l : List Gr.Op) : Nat → List Int
  | 0 => []
  | n + 1 => ats l n ++ (match l[n]? with | some o => List.replicate o.i.length (n : Int) | none => [])
/-- The inputs ahead of an operator. -/
def EdsIs (l : List Gr.Op) (q : Int) (xs ys : List AV) : Prop := xs = (ats l q.toNat).map (AV.int .i64) ∧ ys = (flat l q.toNat).map Ed.av
/-- There are not too many inputs. -/
def Tot (l : List Gr.Op) (L : Int) : Prop := (flat l L.toNat).length < 2 ^ 40
theorem edsIs_zero {l : List Gr.Op} : EdsIs l 0 [] [] := ⟨rfl, by simp [flat]⟩
theorem flat_none {l : List Gr.Op} {n : Nat} (h : l[n]? = none) : flat l (n + 1) = flat l n := by
  have := List.getElem?_eq_none_iff.1 h
  unfold flat; rw [List.take_of_length_le (by omega), List.take_of_length_le (by omega)]
theorem ats_len {l : List Gr.Op} : ∀ n, (ats l n).length = (flat l n).length
  | 0 => by simp [ats, flat]
  | n + 1 => by
    cases h : l[n]? with
    | none => rw [flat_none h]; simp [ats, h, ats_len n]
    | some o => obtain ⟨k, p, f, a, il⟩ := o; rw [flat_succ h]; simp [ats, h, ats_len n]
theorem eds_room {l : List Gr.Op} {L q j k p f a : Int} {il : List Ed} {xs ys xs2 ys2 : List AV} (hT : Tot l L) (q0 : 0 ≤ q) (hq : q < L) (ho : l[q.toNat]? = some ⟨k, p, f, a, il⟩) (hE : EdsIs l q xs ys) (j0 : 0 ≤ j) (hj : j ≤ il.length)
    (hx : xs2 = xs ++ List.replicate j.toNat (.int .i64 q)) (hy : ys2 = ys ++ (il.take j.toNat).map Ed.av) : xs2.length < 2 ^ 40 ∧ ys2.length < 2 ^ 40 := by
  have h2 := flat_le l (n := q.toNat + 1) (m := L.toNat) (by omega)
  rw [flat_succ ho] at h2
  obtain ⟨rfl, rfl⟩ := hE
  unfold Tot at hT
  have := ats_len (l := l) q.toNat
  simp only [List.length_append] at h2
  subst hx hy
  simp only [List.length_append, List.length_map, List.length_replicate, List.length_take]
  omega
theorem eds_more {oil : List Ed} {q j j1 xf xp : Int} {xs ys xs2 ys2 : List AV} (hj1 : j1 = j + 1) (j0 : 0 ≤ j) (hed : oil[j.toNat]? = some ⟨xf, xp⟩)
    (hx : xs2 = xs ++ List.replicate j.toNat (.int .i64 q)) (hy : ys2 = ys ++ (oil.take j.toNat).map Ed.av) :
    j1 ≤ oil.length ∧ xs2 ++ [.int .i64 q] = xs ++ List.replicate j1.toNat (.int .i64 q) ∧ ys2 ++ [.agg [.int .i64 xf, .int .i64 xp]] = ys ++ (oil.take j1.toNat).map Ed.av := by
  have := lt_of_get hed
  have e : j1.toNat = j.toNat + 1 := by omega
  refine ⟨by omega, ?_, ?_⟩
  · rw [hx, e, List.replicate_succ', List.append_assoc]
  · rw [hy, e, List.take_add_one, hed]; simp [Ed.av]
theorem eds_next {l : List Gr.Op} {q q1 j k p f a : Int} {il : List Ed} {xs ys xs2 ys2 : List AV} (hq1 : q1 = q + 1) (q0 : 0 ≤ q) (ho : l[q.toNat]? = some ⟨k, p, f, a, il⟩) (hE : EdsIs l q xs ys) (hj : j = il.length)
    (hx : xs2 = xs ++ List.replicate j.toNat (.int .i64 q)) (hy : ys2 = ys ++ (il.take j.toNat).map Ed.av) : EdsIs l q1 xs2 ys2 := by
  obtain ⟨rfl, rfl⟩ := hE
  have e : q1.toNat = q.toNat + 1 := by omega
  unfold EdsIs
  rw [e, flat_succ ho, hx, hy]
  refine ⟨?_, ?_⟩
  · simp [ats, ho, hj]; omega
  · simp [hj]

set_option maxHeartbeats 8000000 in
set_option maxRecDepth 100000 in
theorem all_call (es : List AV) (K E) (h : K (.func 123 [.ptr 0 0]) [.var [.sl 2 es .no]]) : CallA Try.prog 104 [.sl 2 es .no] [] K E := by
  refine call_fn (n₀ := 0) tab_ok [0] Try.func104 rfl rfl rfl rfl (by decide) ?_
  intro J hJ
  cbv
  repeat' (first
    | with_reducible exact id
    | exact trivial
    | (with_reducible refine op_is hJ hos ho hoes ?_; cbv)
    | (with_reducible refine op_in hJ hos ?_; intro ok op of oa oes oil hoes hop; cbv)
    | (with_reducible refine ed_in hJ hes ?_; intro xf xp hed; cbv)
    | (with_reducible refine ed_in hJ hoes ?_; intro xf xp hed; cbv)
    | intro hh
    | with_reducible refine And.intro ?_ ?_
    | (with_reducible first | refine awp_go ?_ | refine aops_go ?_ | refine strip_go ?_ | refine draw_go ?_ | refine frames_go ?_); cbv)
  all_goals first | exact h | skip
set_option maxHeartbeats 8000000 in
set_option maxRecDepth 100000 in
theorem seq_call (n : Int) (os : List AV) (K E) (h : K (.func 103 [.ptr 0 0]) [.var [.int .i64 n, .sl 5 os .no]]) : CallA Try.prog 71 [.agg [.int .i64 n, .sl 5 os .no]] [] K E := by
  refine call_fn (n₀ := 0) tab_ok [0] Try.func71 rfl rfl rfl rfl (by decide) ?_
  intro J hJ
  cbv
  repeat' (first
    | with_reducible exact id
    | exact trivial
    | (with_reducible refine op_is hJ hos ho hoes ?_; cbv)
    | (with_reducible refine op_in hJ hos ?_; intro ok op of oa oes oil hoes hop; cbv)
    | (with_reducible refine ed_in hJ hes ?_; intro xf xp hed; cbv)
    | (with_reducible refine ed_in hJ hoes ?_; intro xf xp hed; cbv)
    | intro hh
    | with_reducible refine And.intro ?_ ?_
    | (with_reducible first | refine awp_go ?_ | refine aops_go ?_ | refine strip_go ?_ | refine draw_go ?_ | refine frames_go ?_); cbv)
  all_goals first | exact h | skip
set_option maxHeartbeats 8000000 in
set_option maxRecDepth 100000 in
theorem edges05_call (n : Int) (l : List Gr.Op) (os : List AV) (hos : os = l.map Gr.Op.av) (L : Int) (hL : Ln L l) (hLL : L < 2 ^ 48) (hT : Tot l L) (K : AV → List Ent → Prop) (E) (h : ∀ xs ys, EdsIs l L xs ys → K (.tup [.sl 1 xs .no, .sl 2 ys .no]) []) : CallA Try.prog 30 [.agg [.int .i64 n, .sl 5 os .no]] [] K E := by
  have hL0 : 0 ≤ L := by unfold Ln at hL; omega
  refine call_fn (n₀ := 0) tab_ok [] Try.func30 rfl rfl rfl rfl (by decide) ?_
  intro J hJ
  have hlos : J.o.len os = L := by subst hJ hos; unfold Ln at hL; simp [std, stdOps, hL]
  cbv
  repeat' (first
    | with_reducible exact id
    | exact trivial
    | (refine call_in hJ [] (by decide) rfl rfl rfl (seq_call n os _ _ ?_); cbv)
    | (with_reducible refine op_is hJ hos ho hoes ?_; cbv)
    | (with_reducible refine op_in hJ hos ?_; intro ok op of oa oes oil hoes hop; cbv)
    | (with_reducible refine ed_in hJ hes ?_; intro xf xp hed; cbv)
    | (with_reducible refine ed_in hJ hoes ?_; intro xf xp hed; cbv)
    | intro hh
    | with_reducible refine And.intro ?_ ?_
    | (with_reducible first | refine awp_go ?_ | refine aops_go ?_ | refine strip_go ?_ | refine draw_go ?_ | refine frames_go ?_); cbv)
  refine range_vars hJ rfl ?_
  intro p1 a1 b1 e1 hp1 ha1 hb1 he1
  refine call_keep (n₀ := 5) tab_ok Try.func103 rfl rfl rfl rfl ?_
  intro J2 hJ2
  have hlos2 : J2.o.len os = L := by subst hJ2 hos; unfold Ln at hL; simp [std, stdOps, hL]
  cbv
  repeat' (first
    | with_reducible exact id
    | exact trivial
    | (with_reducible refine op_is hJ2 hos ho hoes ?_; cbv)
    | (with_reducible refine op_in hJ2 hos ?_; intro ok op of oa oes oil hoes hop; cbv)
    | (with_reducible refine ed_in hJ2 hes ?_; intro xf xp hed; cbv)
    | (with_reducible refine ed_in hJ2 hoes ?_; intro xf xp hed; cbv)
    | intro hh
    | with_reducible refine And.intro ?_ ?_
    | (with_reducible first | refine awp_go ?_ | refine aops_go ?_ | refine strip_go ?_ | refine draw_go ?_ | refine frames_go ?_); cbv)
  refine loop_turn_at (β := Int × List AV × List AV × Nat × Nat) hJ2 tab_ok (fun | (q, xs, ys, pa, pl) => ⟨[(10, .int .i64 q), (9, .int .i64 (J2.o.len os)), (8, .sl 5 os .no), (2, .ptr 5 0), (1, .ptr 3 0)], [.var [.int .i64 n, .sl 5 os .no], .var [.sl 1 xs (.tip 6 pa)], .var [.sl 2 ys (.tip 7 pl)], .var [.int .i64 n, .sl 5 os .no], .lp p1 a1 b1 e1 22 .ready none, .var [.yld 4], .tip pa, .tip pl], 26⟩) (fun | (q, xs, ys, _, _) => 0 ≤ q ∧ q ≤ L ∧ EdsIs l q xs ys) (fun | (q, _, _, _, _) => (L + 1 - q).toNat) (0, [], [], 0, 0) ?_ ?_ ?_ ?_
  · exact ⟨Int.le_refl _, hL0, edsIs_zero⟩
  · refine Turn.trans (turn_tip 1 0 1 rfl rfl (Nat.le_of_ble_eq_true rfl)) (Turn.trans (turn_tip 2 0 2 rfl rfl (Nat.le_of_ble_eq_true rfl)) (Turn.le ⟨?_, ?_, by subst he1; rfl, rfl⟩ (Nat.le_of_ble_eq_true rfl)))
    · cbv
    · cbv
      exact ⟨⟨rfl, trivial⟩, ⟨rfl, trivial⟩, trivial⟩
  · rintro ⟨q, xs, ys, pa, pl⟩; exact Nat.le_of_ble_eq_true rfl
  rintro ⟨q, xs, ys, pa, pl⟩ ⟨q0, qL, hE⟩ Nx Nxh
  obtain ⟨q1, hq1⟩ : ∃ q1 : Int, q1 = q + 1 := ⟨_, rfl⟩
  cbv
  repeat' (first
    | with_reducible exact id
    | exact trivial
    | (refine call_in hJ2 [] (by decide) rfl rfl rfl (all_call oes _ _ ?_); cbv)
    | (with_reducible refine op_is hJ2 hos ho hoes ?_; cbv)
    | (with_reducible refine op_in hJ2 hos ?_; intro ok op of oa oes oil hoes hop; cbv)
    | (with_reducible refine ed_in hJ2 hes ?_; intro xf xp hed; cbv)
    | (with_reducible refine ed_in hJ2 hoes ?_; intro xf xp hed; cbv)
    | intro hh
    | with_reducible refine And.intro ?_ ?_
    | (with_reducible first | refine awp_go ?_ | refine aops_go ?_ | refine strip_go ?_ | refine draw_go ?_ | refine frames_go ?_); cbv)
  all_goals try
    (refine range_vars hJ2 rfl ?_
     intro p2 a2 b2 e2 hp2 ha2 hb2 he2
     refine call_keep (n₀ := 12) tab_ok Try.func123 rfl rfl rfl rfl ?_
     intro J3 hJ3
     cbv
     repeat' (first
       | with_reducible exact id
       | exact trivial
       | (with_reducible refine op_is hJ3 hos ho hoes ?_; cbv)
       | (with_reducible refine op_in hJ3 hos ?_; intro ok op of oa oes oil hoes hop; cbv)
       | (with_reducible refine ed_in hJ3 hes ?_; intro xf xp hed; cbv)
       | (with_reducible refine ed_in hJ3 hoes ?_; intro xf xp hed; cbv)
       | intro hh
       | with_reducible refine And.intro ?_ ?_
       | (with_reducible first | refine awp_go ?_ | refine aops_go ?_ | refine strip_go ?_ | refine draw_go ?_ | refine frames_go ?_); cbv)
     refine loop_turn_at (β := Int × List AV × List AV × Nat × Nat) hJ3 tab_ok (fun | (j, xs2, ys2, pa2, pl2) => ⟨[(7, .int .i64 j), (6, .int .i64 (J3.o.len oes)), (5, .sl 2 oes .no), (0, .yld 11)], [.var [.int .i64 n, .sl 5 os .no], .var [.sl 1 xs2 (.tip 6 pa2)], .var [.sl 2 ys2 (.tip 7 pl2)], .var [.int .i64 n, .sl 5 os .no], .lp p1 a1 b1 e1 22 .ready none, .var [.yld 4], .tip pa2, .tip pl2, .var [.int .i64 q], .var [.int .i64 ok, .int .i64 op, .int .i64 of, .int .i64 oa, .sl 2 oes .no], .var [.sl 2 oes .no], .lp p2 a2 b2 e2 26 .ready none], 18⟩) (fun | (j, xs2, ys2, _, _) => 0 ≤ j ∧ j ≤ oil.length ∧ xs2 = xs ++ List.replicate j.toNat (.int .i64 q) ∧ ys2 = ys ++ (oil.take j.toNat).map Ed.av) (fun | (j, _, _, _, _) => (oil.length + 1 - j).toNat) (0, xs, ys, pa, pl) ?_ ?_ ?_ ?_
     · exact ⟨Int.le_refl _, Int.natCast_nonneg _, by simp, by simp⟩
     · refine Turn.le ⟨?_, ?_, by subst he1 he2; rfl, rfl⟩ (Nat.le_of_ble_eq_true rfl)
       · cbv
       · cbv
         exact ⟨⟨rfl, trivial⟩, ⟨rfl, trivial⟩, trivial⟩
     · rintro ⟨j, xs2, ys2, pa2, pl2⟩; exact Nat.le_of_ble_eq_true rfl
     rintro ⟨j, xs2, ys2, pa2, pl2⟩ ⟨j0, jM, hx2, hy2⟩ Ny Nyh
     obtain ⟨j1, hj1⟩ : ∃ j1 : Int, j1 = j + 1 := ⟨_, rfl⟩
     have hqL : q < L := by subst hJ2; simp only [std, stdOps] at *; grind
     have hroom := eds_room hT q0 hqL hop hE j0 jM hx2 hy2
     cbv
     repeat' (first
       | with_reducible exact id
       | exact trivial
       | (refine yield_vars (by assumption) tab_ok rfl hp2 ha2 hb2 he2 rfl rfl ?_; intro J4 hJ4; cbv)
       | (refine yield_vars (by assumption) tab_ok rfl hp1 ha1 hb1 he1 rfl rfl ?_; intro J5 hJ5; cbv)
       | (with_reducible refine op_is hJ3 hos ho hoes ?_; cbv)
       | (with_reducible refine op_in hJ3 hos ?_; intro ok op of oa oes oil hoes hop; cbv)
       | (with_reducible refine ed_in hJ3 hes ?_; intro xf xp hed; cbv)
       | (with_reducible refine ed_in hJ3 hoes ?_; intro xf xp hed; cbv)
       | intro hh
       | with_reducible refine And.intro ?_ ?_
       | (with_reducible first | refine awp_go ?_ | refine aops_go ?_ | refine strip_go ?_ | refine draw_go ?_ | refine frames_go ?_); cbv)
     all_goals first
       | (have hm := eds_more hj1 j0 hed hx2 hy2
          refine Nyh _ (j1, J5.o.apnd xs2 [.int .i64 q], J5.o.apnd ys2 [.agg [.int .i64 xf, .int .i64 xp]], J5.o.padd pa2 [.int .i64 q], J5.o.padd pl2 [.agg [.int .i64 xf, .int .i64 xp]]) ⟨?_, ?_, ?_, ?_⟩ ?_ (Turn.le ⟨?_, ?_, by subst he1 he2; rfl, rfl⟩ (Nat.le_of_ble_eq_true rfl))
          · omega
          · exact hm.1
          · subst hJ5; exact hm.2.1
          · subst hJ5; exact hm.2.2
          · show (oil.length + 1 - j1).toNat < (oil.length + 1 - j).toNat; omega
          · refine wkEnv_go' ?_; cbv; subst hJ3; simp only [std, stdOps] at *; grind [wrap64]
          · cbv; repeat' (first | exact trivial | exact rfl | apply And.intro))
       | (subst hJ5; simp only [std, stdOps]; simp only [List.length_cons, List.length_nil]; omega)
       | (subst hJ3; simp only [std, stdOps] at *; grind)
       | (have hjM : j = oil.length := by subst hJ3; simp only [std, stdOps] at *; grind
          subst he1
          refine KeepQ.mk [] (by decide) ?_
          cbv
          repeat' (first
            | with_reducible exact id
            | exact trivial
            | (with_reducible refine op_is hJ2 hos ho hoes ?_; cbv)
            | (with_reducible refine op_in hJ2 hos ?_; intro ok op of oa oes oil hoes hop; cbv)
            | (with_reducible refine ed_in hJ2 hes ?_; intro xf xp hed; cbv)
            | (with_reducible refine ed_in hJ2 hoes ?_; intro xf xp hed; cbv)
            | intro hh
            | with_reducible refine And.intro ?_ ?_
            | (with_reducible first | refine awp_go ?_ | refine aops_go ?_ | refine strip_go ?_ | refine draw_go ?_ | refine frames_go ?_); cbv)
          all_goals first
            | (refine Nxh _ (q1, xs2, ys2, pa2, pl2) ⟨?_, ?_, eds_next hq1 q0 hop hE hjM hx2 hy2⟩ ?_ (Turn.le ⟨?_, ?_, rfl, rfl⟩ (Nat.le_of_ble_eq_true rfl))
               · omega
               · omega
               · show (L + 1 - q1).toNat < (L + 1 - q).toNat; omega
               · refine wkEnv_go' ?_; cbv; subst hJ2; simp only [std, stdOps] at *; grind [wrap64]
               · cbv; repeat' (first | exact trivial | exact rfl | apply And.intro)))
       | skip)
  all_goals first
    | (subst hJ2; simp only [std, stdOps] at *; grind)
    | (have hqL : q = L := by subst hJ2; simp only [std, stdOps] at *; grind
       subst he1
       refine KeepQ.mk [6, 7] (by decide) ?_
       cbv
       repeat' (first
         | with_reducible exact id
         | exact trivial
         | (with_reducible refine op_is hJ hos ho hoes ?_; cbv)
         | (with_reducible refine op_in hJ hos ?_; intro ok op of oa oes oil hoes hop; cbv)
         | (with_reducible refine ed_in hJ hes ?_; intro xf xp hed; cbv)
         | (with_reducible refine ed_in hJ hoes ?_; intro xf xp hed; cbv)
         | intro hh
         | with_reducible refine And.intro ?_ ?_
         | (with_reducible first | refine awp_go ?_ | refine aops_go ?_ | refine strip_go ?_ | refine draw_go ?_ | refine frames_go ?_); cbv)
       exact h xs ys (hqL ▸ hE))

end Go.Proofs.Ytilffanmaicakaa.A

/- The law GraphFinds. -/
namespace Go.Proofs.Ytilffanmaicakaa.A
open Go Go.Pt Go.Gr

theorem to_at {J : Jd} {n₀ : Nat} (hJ : J = std Try.prog n₀) {n : Int} {l : List Gr.Op} {os : List AV} (hos : os = l.map Gr.Op.av) {L : Int} (hL : Ln L l) (hLL : L < 2 ^ 48) (hI : LnIn l) {ef ep : Int} {σ K E} (h : ∀ a b c, ToAt l ⟨ef, ep⟩ a b c → K (.tup [.int .i64 a, .int .i64 b, .bool c]) σ) : J.call 32 [.agg [.int .i64 n, .sl 5 os .no], .int .i64 ef, .int .i64 ep] σ K E := by
  subst hJ
  refine call_in (J := std Try.prog n₀) rfl [] (by simp) (by simp) (args' := [.agg [.int .i64 n, .sl 5 os .no], .int .i64 ef, .int .i64 ep]) (σ' := []) rfl rfl ?_
  refine to_call n ef ep l os hos L hL hLL hI _ _ fun a b c hc => ?_
  rw [back_nil]; exact h a b c hc

theorem to'_at {J : Jd} {n₀ : Nat} (hJ : J = std Try.prog n₀) {n : Int} {l : List Gr.Op} {os : List AV} (hos : os = l.map Gr.Op.av) {L : Int} (hL : Ln L l) (hLL : L < 2 ^ 48) (hI : LnIn l) {ef ep : Int} {σ K E} (h : ∀ a b c, ToAt l ⟨ef, ep⟩ a b c → K (.tup [.int .i64 a, .int .i64 b, .bool c]) σ) : J.call 33 [.agg [.int .i64 n, .sl 5 os .no], .int .i64 ef, .int .i64 ep] σ K E := by
  subst hJ
  refine call_in (J := std Try.prog n₀) rfl [] (by simp) (by simp) (args' := [.agg [.int .i64 n, .sl 5 os .no], .int .i64 ef, .int .i64 ep]) (σ' := []) rfl rfl ?_
  refine to'_call n ef ep l os hos L hL hLL hI _ _ fun a b c hc => ?_
  rw [back_nil]; exact h a b c hc

theorem source_at {J : Jd} {n₀ : Nat} (hJ : J = std Try.prog n₀) {n : Int} {l : List Gr.Op} {os : List AV} (hos : os = l.map Gr.Op.av) {L : Int} (hL : Ln L l) (hLL : L < 2 ^ 48) {s : Int} {σ K E} (h : ∀ r r2 b, SrcAt s l r → r2 = (if r < 0 then 0 else r) → b = decide (0 ≤ r) → K (.tup [.int .i64 r2, .bool b]) σ) : J.call 34 [.agg [.int .i64 n, .sl 5 os .no], .int .i64 s] σ K E := by
  subst hJ
  refine call_in (J := std Try.prog n₀) rfl [] (by simp) (by simp) (args' := [.agg [.int .i64 n, .sl 5 os .no], .int .i64 s]) (σ' := []) rfl rfl ?_
  refine source_call n s l os hos L hL hLL _ _ fun r r2 b h1 h2 h3 => ?_
  rw [back_nil]; exact h r r2 b h1 h2 h3

theorem source'_at {J : Jd} {n₀ : Nat} (hJ : J = std Try.prog n₀) {n : Int} {l : List Gr.Op} {os : List AV} (hos : os = l.map Gr.Op.av) {L : Int} (hL : Ln L l) (hLL : L < 2 ^ 48) {s : Int} {σ K E} (h : ∀ r r2 b, SrcAt s l r → r2 = (if r < 0 then 0 else r) → b = decide (0 ≤ r) → K (.tup [.int .i64 r2, .bool b]) σ) : J.call 35 [.agg [.int .i64 n, .sl 5 os .no], .int .i64 s] σ K E := by
  subst hJ
  refine call_in (J := std Try.prog n₀) rfl [] (by simp) (by simp) (args' := [.agg [.int .i64 n, .sl 5 os .no], .int .i64 s]) (σ' := []) rfl rfl ?_
  refine source'_call n s l os hos L hL hLL _ _ fun r r2 b h1 h2 h3 => ?_
  rw [back_nil]; exact h r r2 b h1 h2 h3

theorem sink'_at {J : Jd} {n₀ : Nat} (hJ : J = std Try.prog n₀) {n : Int} {l : List Gr.Op} {os : List AV} (hos : os = l.map Gr.Op.av) {L : Int} (hL : Ln L l) (hLL : L < 2 ^ 48) {σ K E} (h : ∀ r r2 b, SinkAt l r → r2 = (if r < 0 then 0 else r) → b = decide (0 ≤ r) → K (.tup [.int .i64 r2, .bool b]) σ) : J.call 36 [.agg [.int .i64 n, .sl 5 os .no]] σ K E := by
  subst hJ
  refine call_in (J := std Try.prog n₀) rfl [] (by simp) (by simp) (args' := [.agg [.int .i64 n, .sl 5 os .no]]) (σ' := []) rfl rfl ?_
  refine sink'_call n l os hos L hL hLL _ _ fun r r2 b h1 h2 h3 => ?_
  rw [back_nil]; exact h r r2 b h1 h2 h3

theorem edges05_at {J : Jd} {n₀ : Nat} (hJ : J = std Try.prog n₀) {n : Int} {l : List Gr.Op} {os : List AV} (hos : os = l.map Gr.Op.av) {L : Int} (hL : Ln L l) (hLL : L < 2 ^ 48) (hT : Tot l L) {σ K E} (h : ∀ xs ys, EdsIs l L xs ys → K (.tup [.sl 1 xs .no, .sl 2 ys .no]) σ) : J.call 30 [.agg [.int .i64 n, .sl 5 os .no]] σ K E := by
  subst hJ
  refine call_in (J := std Try.prog n₀) rfl [] (by simp) (by simp) (args' := [.agg [.int .i64 n, .sl 5 os .no]]) (σ' := []) rfl rfl ?_
  refine edges05_call n l os hos L hL hLL hT _ _ fun xs ys hE => ?_
  rw [back_nil]; exact h xs ys hE

theorem flat_split {l : List Gr.Op} {q : Nat} {o : Gr.Op} (ho : l[q]? = some o) : ∀ d, ∃ rest, flat l (q + 1 + d) = flat l q ++ o.i ++ rest
  | 0 => ⟨[], by rw [Nat.add_zero, flat_succ ho]; simp⟩
  | d + 1 => by
    obtain ⟨r, hr⟩ := flat_split ho d
    cases h : l[q + 1 + d]? with
    | none => exact ⟨r, by rw [← Nat.add_assoc, flat_none h, hr]⟩
    | some o' => exact ⟨r ++ o'.i, by rw [← Nat.add_assoc, flat_succ h, hr]; simp⟩
theorem ats_split {l : List Gr.Op} {q : Nat} {o : Gr.Op} (ho : l[q]? = some o) : ∀ d, ∃ rest, ats l (q + 1 + d) = ats l q ++ List.replicate o.i.length (q : Int) ++ rest
  | 0 => ⟨[], by simp [ats, ho]⟩
  | d + 1 => by
    obtain ⟨r, hr⟩ := ats_split ho d
    cases h : l[q + 1 + d]? with
    | none => exact ⟨r, by rw [← Nat.add_assoc]; simp [ats, h, hr]⟩
    | some o' => exact ⟨r ++ List.replicate o'.i.length ((q + 1 + d : Nat) : Int), by rw [← Nat.add_assoc]; simp [ats, h, hr]⟩
/-- What stands at a place of the two lists. -/
theorem flat_at {l : List Gr.Op} {L q j kk k p f a : Int} {oil : List Ed} (q0 : 0 ≤ q) (hq : q < L) (ho : l[q.toNat]? = some ⟨k, p, f, a, oil⟩) (j0 : 0 ≤ j) (hj : j < oil.length) (hk : kk = (flat l q.toNat).length + j) :
    (flat l L.toNat)[kk.toNat]? = oil[j.toNat]? ∧ (ats l L.toNat)[kk.toNat]? = some q := by
  obtain ⟨d, hd⟩ : ∃ d, L.toNat = q.toNat + 1 + d := ⟨L.toNat - (q.toNat + 1), by omega⟩
  obtain ⟨r, hr⟩ := flat_split ho d
  obtain ⟨r', hr'⟩ := ats_split ho d
  have e : kk.toNat = (flat l q.toNat).length + j.toNat := by omega
  rw [hd, hr, hr', e]
  refine ⟨?_, ?_⟩
  · rw [List.append_assoc, List.getElem?_append_right (by omega), List.getElem?_append_left (by simp only [Nat.add_sub_cancel_left]; omega), Nat.add_sub_cancel_left]
  · rw [List.append_assoc, List.getElem?_append_right (by rw [ats_len]; omega), ats_len, Nat.add_sub_cancel_left, List.getElem?_append_left (by simp; omega), List.getElem?_replicate, if_pos (by simp only; omega)]
    exact congrArg some (by omega)
theorem flat_lt {l : List Gr.Op} {L q k p f a : Int} {oil : List Ed} (q0 : 0 ≤ q) (hq : q < L) (ho : l[q.toNat]? = some ⟨k, p, f, a, oil⟩) : (flat l q.toNat).length + oil.length ≤ (flat l L.toNat).length := by
  have h2 := flat_le l (n := q.toNat + 1) (m := L.toNat) (by omega)
  rw [flat_succ ho] at h2
  simpa using h2
theorem int_in {J : Jd} {n₀ : Nat} (hJ : J = std Try.prog n₀) {is : List Int} {xs : List AV} (hxs : xs = is.map (AV.int .i64)) {i : Int} {K : AV → Prop} (h : ∀ v, is[i.toNat]? = some v → K (.int .i64 v)) : ∀ e, J.o.get xs i = some e → K e := by
  subst hJ hxs
  intro e he
  simp only [std, stdOps] at he
  rw [List.getElem?_map] at he
  obtain ⟨v, hv, rfl⟩ := Option.map_eq_some_iff.1 he
  exact h v hv

/-- How many inputs are ahead. -/
def KAt (l : List Gr.Op) (q j k : Int) : Prop := k = ((flat l q.toNat).length : Int) + j
theorem flat_next {l : List Gr.Op} {q q1 k p f a : Int} {oil : List Ed} (hq1 : q1 = q + 1) (q0 : 0 ≤ q) (ho : l[q.toNat]? = some ⟨k, p, f, a, oil⟩) : ((flat l q1.toNat).length : Int) = (flat l q.toNat).length + oil.length := by
  rw [hq1, show (q + 1).toNat = q.toNat + 1 by omega, flat_succ ho]; simp
theorem at_is {l : List Gr.Op} {L q j kk k p f a F v : Int} {oil : List Ed} {is : List Int} (his : is = ats l L.toNat) (hv : is[kk.toNat]? = some v) (q0 : 0 ≤ q) (hq : q < L) (ho : l[q.toNat]? = some ⟨k, p, f, a, oil⟩) (j0 : 0 ≤ j) (hF : Ln F (flat l q.toNat)) (hk : kk = F + j) (hj : j < oil.length) : v = q := by
  unfold Ln at hF
  have := (flat_at q0 hq ho j0 hj (by omega : kk = (flat l q.toNat).length + j)).2
  rw [← his, hv] at this
  exact Option.some.inj this
theorem fl_is {l : List Gr.Op} {L q j kk k p f a F yf yp xf xp : Int} {oil fl : List Ed} (hfl : fl = flat l L.toNat) (hv : fl[kk.toNat]? = some ⟨yf, yp⟩) (hed : oil[j.toNat]? = some ⟨xf, xp⟩) (q0 : 0 ≤ q) (hq : q < L) (ho : l[q.toNat]? = some ⟨k, p, f, a, oil⟩) (j0 : 0 ≤ j) (hF : Ln F (flat l q.toNat)) (hk : kk = F + j) (hj : j < oil.length) : yf = xf ∧ yp = xp := by
  unfold Ln at hF
  have := (flat_at q0 hq ho j0 hj (by omega : kk = (flat l q.toNat).length + j)).1
  rw [← hfl, hv, hed] at this
  injection this with this
  injection this with h1 h2
  exact ⟨h1, h2⟩
theorem kat_next {l : List Gr.Op} {q q1 j kk k p f a F M : Int} {oil : List Ed} (hq1 : q1 = q + 1) (q0 : 0 ≤ q) (ho : l[q.toNat]? = some ⟨k, p, f, a, oil⟩) (hF : Ln F (flat l q.toNat)) (hM : Ln M oil) (hk : kk = F + j) (hj : j = M) : KAt l q1 0 kk := by
  unfold Ln at hF hM
  unfold KAt
  rw [flat_next hq1 q0 ho]; omega
theorem kat_end {l : List Gr.Op} {q L k T : Int} {fl : List Ed} (hk : KAt l q 0 k) (hfl : fl = flat l L.toNat) (hT : Ln T fl) (hq : q = L) : k = T := by
  unfold KAt at hk; unfold Ln at hT; rw [hT, hfl, hk, hq]; omega
theorem flat_L {l : List Gr.Op} {L : Int} {xs ys : List AV} (hE : EdsIs l L xs ys) : ∃ (is : List Int) (fl : List Ed), xs = is.map (AV.int .i64) ∧ ys = fl.map Ed.av ∧ is = ats l L.toNat ∧ fl = flat l L.toNat := ⟨_, _, hE.1, hE.2, rfl, rfl⟩
set_option maxHeartbeats 8000000 in
set_option maxRecDepth 100000 in
theorem graphFinds_call (n ef ep : Int) (l : List Gr.Op) (os : List AV) (hos : os = l.map Gr.Op.av) (L : Int) (hL : Ln L l) (hLL : L < 2 ^ 48) (hI : LnIn l) (hT : Tot l L) (K E) (h : K (.bool true) []) : CallA Try.prog 8 [.agg [.int .i64 n, .sl 5 os .no], .int .i64 ef, .int .i64 ep] [] K E := by
  have hL0 : 0 ≤ L := by unfold Ln at hL; omega
  refine call_fn (n₀ := 0) tab_ok [] Try.func8 rfl rfl rfl rfl (by decide) ?_
  intro J hJ
  have hlos : J.o.len os = L := by subst hJ hos; unfold Ln at hL; simp [std, stdOps, hL]
  cbv
  repeat' (first
    | with_reducible exact id
    | exact trivial
    | with_reducible refine fit_bool h ?_
    | (with_reducible refine live_at hJ ?_; cbv)
    | (with_reducible refine to_at hJ hos hL hLL hI ?_; intro a1 b1 c1 ht1; cbv)
    | (with_reducible refine to'_at hJ hos hL hLL hI ?_; intro a2 b2 c2 ht2; obtain ⟨hta, htb, htc⟩ := ht2.same ht1; subst hta htb htc; cbv)
    | (with_reducible refine source_at hJ hos hL hLL ?_; intro r1 p1 f1 hs1 hp1 hf1; cbv)
    | (with_reducible refine source'_at hJ hos hL hLL ?_; intro r2 p2 f2 hs2 hp2 hf2; obtain rfl := hs2.same hs1; obtain rfl := hp2.trans hp1.symm; obtain rfl := hf2.trans hf1.symm; clear hp1 hp2 hf1 hf2; cbv)
    | (with_reducible refine sink_at hJ hos hL hLL ?_; intro r3 p3 f3 hs3 hp3 hf3; cbv)
    | (with_reducible refine sink'_at hJ hos hL hLL ?_; intro r4 p4 f4 hs4 hp4 hf4; obtain rfl := hs4.same hs3; obtain rfl := hp4.trans hp3.symm; obtain rfl := hf4.trans hf3.symm; clear hp3 hp4 hf3 hf4; cbv)
    | (with_reducible refine edges05_at hJ hos hL hLL hT ?_; intro xs ys hE; cbv)
    | (with_reducible refine op_is hJ hos ho hoes ?_; cbv)
    | (with_reducible refine op_in hJ hos ?_; intro ok op of oa oes oil hoes hop; cbv)
    | (with_reducible refine ed_in hJ hes ?_; intro xf xp hed; cbv)
    | (with_reducible refine ed_in hJ hoes ?_; intro xf xp hed; cbv)
    | intro hh
    | with_reducible refine And.intro ?_ ?_
    | (with_reducible first | refine awp_go ?_ | refine aops_go ?_ | refine strip_go ?_ | refine draw_go ?_ | refine frames_go ?_); cbv)
  all_goals try (clear h ; subst hJ; simp only [std, stdOps] at *; grind)
  obtain ⟨is, fl, hxs, hys, his, hfl⟩ := flat_L hE
  obtain ⟨T, hTt⟩ : ∃ T, Ln T fl := ⟨_, rfl⟩
  have hTT : 0 ≤ T ∧ T < 2 ^ 40 := by unfold Tot at hT; unfold Ln at hTt; subst hfl; omega
  have hlx : J.o.len xs = T := by subst hJ hxs his; unfold Ln at hTt; simp [std, stdOps, ats_len, hTt, hfl]
  have hly : J.o.len ys = T := by subst hJ hys; unfold Ln at hTt; simp [std, stdOps, hTt]
  refine loop_at (β := Int × Int) hJ tab_ok (fun | (q, k) => ⟨[(109, .int .i64 q), (108, .int .i64 (J.o.len os)), (107, .sl 5 os .no), (23, .int .i64 k), (22, .sl 2 ys .no), (21, .sl 1 xs .no), (3, .ptr 0 0)], [.var [.int .i64 n, .sl 5 os .no]], 155⟩) (fun | (q, k) => (0 ≤ q) ∧ (q ≤ L) ∧ (KAt l q 0 k)) (fun | (q, k) => (L + 1 - q).toNat) (0, 0) ?_ ?_ ?_ ?_
  · exact ⟨Int.le_refl _, hL0, by simp [KAt, flat]⟩
  · refine ⟨?_, ?_, rfl, rfl⟩
    · cbv
      try exact ⟨rfl, trivial⟩
    · cbv
  · rintro ⟨q, k⟩; exact Nat.le_of_ble_eq_true rfl
  rintro ⟨q, k⟩ hinv Nx Nxh
  obtain ⟨q0, qL, hk⟩ : (0 ≤ q) ∧ (q ≤ L) ∧ (KAt l q 0 k) := hinv
  obtain ⟨q1, hq1⟩ : ∃ q1 : Int, q1 = q + 1 := ⟨_, rfl⟩
  have hN : ∀ env (q' : Int) (k' : Int) v, (0 ≤ q') ∧ (q' ≤ L) ∧ (KAt l q' 0 k') → (L + 1 - q').toNat < (L + 1 - q).toNat → wkEnv env [(109, .int .i64 q'), (108, .int .i64 (J.o.len os)), (107, .sl 5 os .no), (23, .int .i64 k'), (22, .sl 2 ys .no), (21, .sl 1 xs .no), (3, .ptr 0 0)] → Nx ⟨env, [.var [.int .i64 n, .sl 5 os .no]] ++ v, 155⟩ := fun env q' k' v h1 h2 h3 => Nxh _ (q', k') h1 h2 ⟨h3, by cbv, rfl, rfl⟩
  clear Nxh
  all_goals cbv
  repeat' (first
    | with_reducible exact id
    | exact trivial
    | (obtain ⟨⟨ok, op, of, oa, oil⟩, ho⟩ : ∃ o, l[q.toNat]? = some o := at_of hL q0 (by clear h hN; subst hJ; simp only [std, stdOps] at *; grind)
       obtain ⟨oes, hoes⟩ : ∃ es, es = oil.map Ed.av := ⟨_, rfl⟩
       with_reducible refine op_is hJ hos ho hoes ?_; cbv)
    | (with_reducible refine op_is hJ hos ho hoes ?_; cbv)
    | (with_reducible refine op_in hJ hos ?_; intro ok op of oa oes oil hoes hop; cbv)
    | (with_reducible refine ed_in hJ hes ?_; intro xf xp hed; cbv)
    | (with_reducible refine ed_in hJ hoes ?_; intro xf xp hed; cbv)
    | intro hh
    | with_reducible refine And.intro ?_ ?_
    | (with_reducible first | refine awp_go ?_ | refine aops_go ?_ | refine strip_go ?_ | refine draw_go ?_ | refine frames_go ?_); cbv)
  all_goals first
    | skip
  all_goals first
    | (refine fit_bool h ?_; have hqL : q = L := (by clear h hN; subst hJ; simp only [std, stdOps] at *; grind); have hkT := kat_end hk hfl hTt hqL; clear h hN; subst hJ; simp only [std, stdOps] at *; grind)
    | (clear h hN; subst hJ; simp only [std, stdOps] at *; grind)
    | skip
  all_goals
    have hqL : q < L := by clear h hN; subst hJ; simp only [std, stdOps] at *; grind
    obtain ⟨M, hM, hMM⟩ := lnIn hI ho
    replace hM : Ln M oil := hM
    have hM0 : 0 ≤ M := by unfold Ln at hM; omega
    have hlo : J.o.len oes = M := by subst hJ hoes; unfold Ln at hM; simp [std, stdOps, hM]
    obtain ⟨F, hF⟩ : ∃ F, Ln F (flat l q.toNat) := ⟨_, rfl⟩
    have hkF : k = F := by unfold KAt at hk; unfold Ln at hF; omega
    have hTle : F + M ≤ T := by have := flat_lt q0 hqL ho; rw [← hfl] at this; unfold Ln at hF hM hTt; omega
    have hF0 : 0 ≤ F := by unfold Ln at hF; omega
    refine loop_at (β := Int × Int) hJ tab_ok (fun | (j, k) => ⟨[(117, .int .i64 j), (116, .int .i64 (J.o.len oes)), (115, .sl 2 oes .no), (24, .int .i64 q), (109, .int .i64 q), (108, .int .i64 (J.o.len os)), (107, .sl 5 os .no), (23, .int .i64 k), (22, .sl 2 ys .no), (21, .sl 1 xs .no), (3, .ptr 0 0)], [.var [.int .i64 n, .sl 5 os .no]], 155⟩) (fun | (j, k) => (0 ≤ j) ∧ (j ≤ M) ∧ (k = F + j)) (fun | (j, k) => (M + 1 - j).toNat) (0, k) ?_ ?_ ?_ ?_
    · exact ⟨Int.le_refl _, hM0, by omega⟩
    · refine ⟨?_, ?_, rfl, rfl⟩
      · cbv
        try exact ⟨rfl, trivial⟩
      · cbv
    · rintro ⟨j, k⟩; exact Nat.le_of_ble_eq_true rfl
    rintro ⟨j, k⟩ hinv2 Ny Nyh
    obtain ⟨j0, jM, hkj⟩ : (0 ≤ j) ∧ (j ≤ M) ∧ (k = F + j) := hinv2
    obtain ⟨j1, hj1⟩ : ∃ j1 : Int, j1 = j + 1 := ⟨_, rfl⟩
    have hM2 : ∀ env (j' : Int) (k' : Int) v, (0 ≤ j') ∧ (j' ≤ M) ∧ (k' = F + j') → (M + 1 - j').toNat < (M + 1 - j).toNat → wkEnv env [(117, .int .i64 j'), (116, .int .i64 (J.o.len oes)), (115, .sl 2 oes .no), (24, .int .i64 q), (109, .int .i64 q), (108, .int .i64 (J.o.len os)), (107, .sl 5 os .no), (23, .int .i64 k'), (22, .sl 2 ys .no), (21, .sl 1 xs .no), (3, .ptr 0 0)] → Ny ⟨env, [.var [.int .i64 n, .sl 5 os .no]] ++ v, 155⟩ := fun env j' k' v h1 h2 h3 => Nyh _ (j', k') h1 h2 ⟨h3, by cbv, rfl, rfl⟩
    clear Nyh
    all_goals cbv
    repeat' (first
      | with_reducible exact id
      | exact trivial
      | (with_reducible refine int_in hJ hxs ?_; intro vn hvn; have hv := at_is his hvn q0 hqL ho j0 hF hkj (by clear h hN hM2; subst hJ; simp only [std, stdOps] at *; grind); cbv)
      | (with_reducible refine ed_in hJ hys ?_; intro yf yp hye; have hy := fl_is hfl hye hed q0 hqL ho j0 hF hkj (by clear h hN hM2; subst hJ; simp only [std, stdOps] at *; grind); cbv)
      | (with_reducible refine op_is hJ hos ho hoes ?_; cbv)
      | (with_reducible refine op_in hJ hos ?_; intro ok op of oa oes oil hoes hop; cbv)
      | (with_reducible refine ed_in hJ hes ?_; intro xf xp hed; cbv)
      | (with_reducible refine ed_in hJ hoes ?_; intro xf xp hed; cbv)
      | intro hh
      | with_reducible refine And.intro ?_ ?_
      | (with_reducible first | refine awp_go ?_ | refine aops_go ?_ | refine strip_go ?_ | refine draw_go ?_ | refine frames_go ?_); cbv)
    all_goals first
      | (refine hM2 _ j1 (J.o.ar .add .i64 k 1) _ ⟨?_, ?_, ?_⟩ ?_ ?_ <;> first | (with_reducible refine wkEnv_go' ?_; cbv; clear h hN hM2; subst hJ; simp only [std, stdOps] at *; grind [wrap64]) | (clear h hN hM2; subst hJ; simp only [std, stdOps] at *; grind [wrap64]))
      | (refine hN _ q1 k _ ⟨?_, ?_, kat_next hq1 q0 ho hF hM hkj (by clear h hN hM2; subst hJ; simp only [std, stdOps] at *; grind)⟩ ?_ ?_ <;> first | (with_reducible refine wkEnv_go' ?_; cbv; clear h hN hM2; subst hJ; simp only [std, stdOps] at *; grind [wrap64]) | (clear h hN hM2; subst hJ; simp only [std, stdOps] at *; grind [wrap64]))
      | (clear h hN hM2; subst hJ; simp only [std, stdOps] at *; grind)
  

end Go.Proofs.Ytilffanmaicakaa.A

/- The law GraphLeads. -/
namespace Go.Proofs.Ytilffanmaicakaa.A
open Go Go.Pt Go.Gr

/-- A graph without faults. -/
structure Good (n : Int) (l : List Gr.Op) : Prop where
  len : l.length ≤ 24
  fault : ∀ j, j < l.length → Gr.fault ⟨n, l⟩ j = 0
  loose : ∀ j, ¬ Gr.loose ⟨n, l⟩ j
  sink : sinks l = 1
theorem good_of {n r : Int} {l : List Gr.Op} (h : Chk ⟨n, l⟩ r 0) : Good n l := by
  generalize he : (0 : Int) = e at h
  cases h with
  | arg => omega
  | long => omega
  | fault h0 h1 m hj h2 h3 => exact absurd he.symm h3
  | loose => omega
  | part => omega
  | sink => omega
  | ok h0 h1 hf hl hs h => exact ⟨h1, hf, hl, h⟩
theorem Good.in {n : Int} {l : List Gr.Op} (h : Good n l) {q : Nat} {o : Gr.Op} (ho : l[q]? = some o) : (1 ≤ o.k ∧ o.k ≤ 9) ∧ fieldsOk o.k o.p o.f o.a n = true ∧ insOk l q o.k o.i = true :=
  have h1 := fault_ok (g := ⟨n, l⟩) ho (h.fault q (lt_of_get ho))
  ⟨h1.1, h1.2.1, h1.2.2.1⟩
theorem Good.few {n : Int} {l : List Gr.Op} (h : Good n l) : LnIn l := fun o ho => by
  obtain ⟨i, hi⟩ := List.mem_iff_getElem?.1 ho
  have := ins_le (h.in hi).2.2
  omega
theorem Good.tot {n L : Int} {l : List Gr.Op} (h : Good n l) (hL : Ln L l) : Tot l L := by
  have h1 := flat_len (g := ⟨n, l⟩) (n := l.length) (Nat.le_refl _) h.fault
  have h2 := h.len
  unfold Ln at hL
  unfold Tot
  rw [hL, Int.toNat_natCast]
  simp only at h1
  omega
theorem mem_flat {l : List Gr.Op} {e : Ed} : e ∈ flat l l.length ↔ ∃ (q : Nat) (o : Gr.Op), l[q]? = some o ∧ e ∈ o.i := by
  unfold flat
  rw [List.take_length, List.mem_flatMap]
  constructor
  · rintro ⟨o, ho, he⟩
    obtain ⟨i, hi⟩ := List.mem_iff_getElem?.1 ho
    exact ⟨i, o, hi, he⟩
  · rintro ⟨q, o, ho, he⟩
    exact ⟨o, List.mem_of_getElem? ho, he⟩
theorem Good.edge {n : Int} {l : List Gr.Op} (h : Good n l) {q : Nat} {o : Gr.Op} (ho : l[q]? = some o) {e : Ed} (he : e ∈ o.i) : 0 ≤ e.f ∧ e.f < q ∧ 0 ≤ e.p ∧ ∃ o', l[e.f.toNat]? = some o' ∧ e.p < ports o'.k o'.a := by
  have h1 := (h.in ho).2.2
  simp only [insOk, Bool.and_eq_true, List.all_eq_true] at h1
  have h2 := h1.2 e he
  simp only [edgeOk, Bool.and_eq_true, decide_eq_true_eq] at h2
  refine ⟨h2.1.1.1, h2.1.1.2, h2.1.2, ?_⟩
  have h3 := h2.2
  cases hz : l[e.f.toNat]? with
  | none => rw [hz] at h3; simp at h3
  | some o' => rw [hz] at h3; exact ⟨o', rfl, by simpa using h3⟩
theorem Good.port {n : Int} {l : List Gr.Op} (h : Good n l) {q : Nat} {o : Gr.Op} (ho : l[q]? = some o) {p : Int} (p0 : 0 ≤ p) (hp : p < ports o.k o.a) : (⟨q, p⟩ : Ed) ∈ flat l l.length := by
  have := h.loose q
  unfold Gr.loose at this
  by_cases hm : (⟨q, p⟩ : Ed) ∈ flat l l.length
  · exact hm
  · exact absurd ⟨o, ho, p, p0, hp, hm⟩ this
theorem leads_at {n L q p a b ok op of oa : Int} {c : Bool} {l : List Gr.Op} {oil : List Ed} (hG : Good n l) (hL : Ln L l) (q0 : 0 ≤ q) (ho : l[q.toNat]? = some ⟨ok, op, of, oa, oil⟩) (p0 : 0 ≤ p) (hp : p < ports ok oa) (ht : ToAt l ⟨q, p⟩ a b c) :
    c = true ∧ q < a ∧ a < L ∧ 0 ≤ b ∧ ∀ k p f x (il : List Ed), l[a.toNat]? = some ⟨k, p, f, x, il⟩ → b < il.length := by
  have hm := hG.port ho p0 hp
  rw [show ((q.toNat : Nat) : Int) = q by omega] at hm
  obtain ⟨q', o', ho', he'⟩ := mem_flat.1 hm
  rcases ht with ⟨_, _, _, h⟩ | ⟨hc, a0, _, o, hoa, b0, hob, _⟩
  · exact absurd he' (h o' (List.mem_of_getElem? ho'))
  · have h1 := hG.edge hoa (List.mem_of_getElem? hob)
    have h2 := lt_of_get hoa
    have h3 := lt_of_get hob
    unfold Ln at hL
    simp only at h1
    refine ⟨hc, by omega, by omega, b0, fun k p f x il hx => ?_⟩
    rw [hoa] at hx
    obtain rfl := Option.some.inj hx
    simp only at h3
    omega

/-- All ports of the first operators. -/
def prs (l : List Gr.Op) : Nat → List Ed
  | 0 => []
  | n + 1 => prs l n ++ (match l[n]? with | some o => (List.range (ports o.k o.a).toNat).map (fun r : Nat => (⟨n, (r : Int)⟩ : Ed)) | none => [])
theorem mem_prs {l : List Gr.Op} {e : Ed} : ∀ {n : Nat}, e ∈ prs l n ↔ ∃ (q : Nat) (o : Gr.Op), q < n ∧ l[q]? = some o ∧ e.f = q ∧ 0 ≤ e.p ∧ e.p < ports o.k o.a
  | 0 => by simp [prs]
  | n + 1 => by
    rw [prs, List.mem_append, mem_prs]
    constructor
    · rintro (⟨q, o, h1, h2⟩ | h)
      · exact ⟨q, o, by omega, h2⟩
      · cases hz : l[n]? with
        | none => rw [hz] at h; simp at h
        | some o =>
          rw [hz] at h
          simp only [List.mem_map, List.mem_range] at h
          obtain ⟨r, hr, rfl⟩ := h
          exact ⟨n, o, by omega, hz, rfl, by simp only; omega, by simp only; omega⟩
    · rintro ⟨q, o, h1, h2, h3, h4, h5⟩
      by_cases hq : q < n
      · exact .inl ⟨q, o, hq, h2, h3, h4, h5⟩
      · obtain rfl : q = n := by omega
        refine .inr ?_
        rw [h2]
        simp only [List.mem_map, List.mem_range]
        refine ⟨e.p.toNat, by omega, ?_⟩
        obtain ⟨ef, ep⟩ := e
        simp only at h3 h4 ⊢
        rw [h3, show ((ep.toNat : Nat) : Int) = ep by omega]
theorem nodup_prs {l : List Gr.Op} : ∀ n : Nat, (prs l n).Nodup
  | 0 => by simp [prs]
  | n + 1 => by
    rw [prs, List.nodup_append]
    refine ⟨nodup_prs n, ?_, ?_⟩
    · cases l[n]? with
      | none => simp
      | some o =>
        rw [List.nodup_iff_pairwise_ne, List.pairwise_map]
        refine List.Pairwise.imp (fun hxy e => hxy ?_) (List.nodup_iff_pairwise_ne.1 List.nodup_range)
        injection e with _ h
        omega
    · intro x hx y hy hxy
      subst hxy
      obtain ⟨q, o, hq, _, hf, _⟩ := mem_prs.1 hx
      cases hz : l[n]? with
      | none => rw [hz] at hy; simp at hy
      | some o' =>
        rw [hz] at hy
        simp only [List.mem_map, List.mem_range] at hy
        obtain ⟨r, _, rfl⟩ := hy
        simp only at hf
        omega
theorem nodup_le : ∀ {l m : List Ed}, l.Nodup → (∀ x ∈ l, x ∈ m) → l.length ≤ m.length
  | [], _, _, _ => by simp
  | x :: l, m, hn, h => by
    rw [List.nodup_cons] at hn
    have hx := h x List.mem_cons_self
    have := nodup_le (m := m.erase x) hn.2 fun y hy => (List.mem_erase_of_ne (fun e : y = x => hn.1 (e ▸ hy))).2 (h y (List.mem_cons_of_mem _ hy))
    rw [List.length_erase_of_mem hx] at this
    have hp := List.length_pos_of_mem hx
    simp only [List.length_cons]
    omega
theorem Good.count {n : Int} {l : List Gr.Op} (h : Good n l) : (prs l l.length).length = (flat l l.length).length := by
  refine Nat.le_antisymm (nodup_le (nodup_prs _) fun e he => ?_) (nodup_le (flat_nodup (g := ⟨n, l⟩) (Nat.le_refl _) h.fault) fun e he => ?_)
  · obtain ⟨q, o, hq, ho, hf, p0, hp⟩ := mem_prs.1 he
    have := h.port ho p0 hp
    rw [← hf] at this
    exact this
  · obtain ⟨q, o, ho, hm⟩ := mem_flat.1 he
    obtain ⟨h1, h2, h3, o', ho', h4⟩ := h.edge ho hm
    exact mem_prs.2 ⟨e.f.toNat, o', lt_of_get ho', ho', by omega, h3, h4⟩
/-- How many ports are ahead. -/
def PAt (l : List Gr.Op) (q c : Int) : Prop := c = ((prs l q.toNat).length : Int)
theorem pAt_zero {l : List Gr.Op} : PAt l 0 0 := rfl
theorem pAt_next {l : List Gr.Op} {q q1 c c2 p P ok op of oa : Int} {oil : List Ed} (hq1 : q1 = q + 1) (q0 : 0 ≤ q) (ho : l[q.toNat]? = some ⟨ok, op, of, oa, oil⟩) (hc : PAt l q c) (hP : P = ports ok oa) (hp : p = P) (h2 : c2 = c + p) : PAt l q1 c2 := by
  unfold PAt at *
  rw [hq1, show (q + 1).toNat = q.toNat + 1 by omega, prs, ho]
  have := ports_le ok oa
  simp only [List.length_append, List.length_map, List.length_range]
  omega
theorem pAt_end {l : List Gr.Op} {n L q c : Int} {xs ys : List AV} (hG : Good n l) (hL : Ln L l) (hE : EdsIs l L xs ys) (hq : q = L) (hc : PAt l q c) : c = ys.length := by
  unfold Ln at hL
  unfold PAt at hc
  rw [hc, hE.2, hq, hL, List.length_map, Int.toNat_natCast, hG.count]
theorem pAt_small {l : List Gr.Op} {n L q c : Int} (hG : Good n l) (hL : Ln L l) (hq : q ≤ L) (hc : PAt l q c) : 0 ≤ c ∧ c ≤ 1000 := by
  unfold Ln at hL
  unfold PAt at hc
  have h1 : (prs l q.toNat).length ≤ (prs l l.length).length := nodup_le (nodup_prs _) fun e he => by
    obtain ⟨q', o, h1, h2⟩ := mem_prs.1 he
    exact mem_prs.2 ⟨q', o, by omega, h2⟩
  have h2 := flat_len (g := ⟨n, l⟩) (n := l.length) (Nat.le_refl _) hG.fault
  have h3 := hG.count
  have h4 := hG.len
  simp only at h2
  omega
theorem one_of {l : List Gr.Op} {p : Gr.Op → Bool} {i j : Nat} {x y : Gr.Op} (h : l.countP p = 1) (hi : l[i]? = some x) (hj : l[j]? = some y) (hx : p x = true) (hy : p y = true) (hlt : i < j) : False := by
  have e : l = l.take (i + 1) ++ l.drop (i + 1) := (List.take_append_drop _ _).symm
  rw [e, List.countP_append] at h
  have h1 : 0 < (l.take (i + 1)).countP p := List.countP_pos_iff.2 ⟨x, List.mem_of_getElem? (i := i) (by rw [List.getElem?_take_of_lt (by omega)]; exact hi), hx⟩
  have h2 : 0 < (l.drop (i + 1)).countP p := List.countP_pos_iff.2 ⟨y, List.mem_of_getElem? (i := j - (i + 1)) (by rw [List.getElem?_drop, show i + 1 + (j - (i + 1)) = j by omega]; exact hj), hy⟩
  omega
theorem sink_is {l : List Gr.Op} {n L s : Int} (hG : Good n l) (hL : Ln L l) (hs : SinkAt l s) : 0 ≤ s ∧ s < L := by
  unfold Ln at hL
  rcases hs with ⟨_, h⟩ | ⟨h0, ⟨o, ho, _⟩, _⟩
  · have := hG.sink
    unfold sinks at this
    rw [List.countP_eq_zero.2 (fun o ho => by simpa using h o ho)] at this
    simp at this
  · have := lt_of_get ho
    exact ⟨h0, by omega⟩
/-- An operator that is not the sink has a port. -/
theorem has_port {l : List Gr.Op} {n s q ok op of oa : Int} {oil : List Ed} (hG : Good n l) (hs : SinkAt l s) (s0 : 0 ≤ s) (q0 : 0 ≤ q) (ho : l[q.toNat]? = some ⟨ok, op, of, oa, oil⟩) (hne : q ≠ s) : 0 < ports ok oa := by
  have h9 : ok ≠ 9 := by
    intro h9
    rcases hs with ⟨h, _⟩ | ⟨_, ⟨o, hos, hk⟩, _⟩
    · omega
    · have h1 := hG.sink
      unfold sinks at h1
      rcases Int.lt_trichotomy q s with h | h | h
      · exact one_of h1 ho hos (by simp [h9]) (by simp [hk]) (by omega)
      · exact hne h
      · exact one_of h1 hos ho (by simp [hk]) (by simp [h9]) (by omega)
  have h1 := hG.in ho
  simp only at h1
  unfold ports
  split
  · rename_i h7
    have h2 := h1.2.1
    simp only [fieldsOk, h7] at h2
    simp only [show ¬ ((7 : Int) = 1) by decide, show ¬ ((7 : Int) = 2) by decide, show ¬ ((7 : Int) = 3) by decide, show ¬ ((7 : Int) = 4) by decide, show ¬ ((7 : Int) = 5) by decide, show ¬ ((7 : Int) = 6) by decide, if_false, if_true] at h2
    split at h2
    · simp at h2
    · simp only [Bool.and_eq_true, decide_eq_true_eq] at h2
      rw [if_pos ⟨h2.1.2, h2.2⟩]; omega
  · rw [if_pos (by omega)]; omega

set_option maxHeartbeats 8000000 in
set_option maxRecDepth 100000 in
theorem graphLeads_call (n : Int) (l : List Gr.Op) (os : List AV) (hos : os = l.map Gr.Op.av) (L : Int) (hL : Ln L l) (hLL : L < 2 ^ 48) (K E) (h : K (.bool true) []) : CallA Try.prog 7 [.agg [.int .i64 n, .sl 5 os .no]] [] K E := by
  have hL0 : 0 ≤ L := by unfold Ln at hL; omega
  refine call_fn (n₀ := 0) tab_ok [] Try.func7 rfl rfl rfl rfl (by decide) ?_
  intro J hJ
  have hlos : J.o.len os = L := by subst hJ hos; unfold Ln at hL; simp [std, stdOps, hL]
  cbv
  repeat' (first
    | with_reducible exact id
    | exact trivial
    | with_reducible exact h
    | with_reducible refine fit_bool h ?_
    | (with_reducible refine live_at hJ ?_; cbv)
    | (with_reducible refine check_at hJ hos hL hLL ?_; intro r e hc1; cbv)
    | (have he0 : e = 0 := (by clear h ; subst hJ; simp only [std, stdOps] at *; grind); subst he0; have hG := good_of hc1; have hI := hG.few; have hT := hG.tot hL; with_reducible refine edges05_at hJ hos hL hLL hT ?_; intro xs ys hE; cbv)
    | (with_reducible refine sink_at hJ hos hL hLL ?_; intro r3 p3 f3 hs3 hp3 hf3; cbv)
    | (with_reducible refine op_is hJ hos ho hoes ?_; cbv)
    | (with_reducible refine op_in hJ hos ?_; intro ok op of oa oes oil hoes hop; cbv)
    | (with_reducible refine ed_in hJ hes ?_; intro xf xp hed; cbv)
    | (with_reducible refine ed_in hJ hoes ?_; intro xf xp hed; cbv)
    | intro hh
    | with_reducible refine And.intro ?_ ?_
    | (with_reducible first | refine awp_go ?_ | refine aops_go ?_ | refine strip_go ?_ | refine draw_go ?_ | refine frames_go ?_); cbv)
  all_goals try (clear h ; subst hJ; simp only [std, stdOps] at *; grind)
  obtain ⟨hs0, hsL⟩ := sink_is hG hL hs3
  have hp3' : p3 = r3 := by rw [hp3, if_neg (by omega)]
  have hf3' : f3 = true := by rw [hf3]; simp; omega
  clear hp3 hf3
  subst hp3' hf3'
  obtain ⟨T, hTt⟩ : ∃ T, Ln T ys := ⟨_, rfl⟩
  have hly : J.o.len ys = T := by subst hJ; unfold Ln at hTt; simp [std, stdOps, hTt]
  refine loop_at (β := Int × Int) hJ tab_ok (fun | (q, c0) => ⟨[(42, .int .i64 q), (41, .int .i64 (J.o.len os)), (40, .sl 5 os .no), (5, .int .i64 c0), (9, .bool true), (8, .int .i64 p3), (7, .sl 2 ys .no), (1, .ptr 0 0)], [.var [.int .i64 n, .sl 5 os .no]], 112⟩) (fun | (q, c0) => (0 ≤ q) ∧ (q ≤ L) ∧ (PAt l q c0)) (fun | (q, c0) => (L + 1 - q).toNat) (0, 0) ?_ ?_ ?_ ?_
  · exact ⟨Int.le_refl _, hL0, pAt_zero⟩
  · refine ⟨?_, ?_, rfl, rfl⟩
    · cbv
      try exact ⟨rfl, trivial⟩
    · cbv
  · rintro ⟨q, c0⟩; exact Nat.le_of_ble_eq_true rfl
  rintro ⟨q, c0⟩ hinv Nx Nxh
  obtain ⟨q0, qL, hc⟩ : (0 ≤ q) ∧ (q ≤ L) ∧ (PAt l q c0) := hinv
  obtain ⟨q1, hq1⟩ : ∃ q1 : Int, q1 = q + 1 := ⟨_, rfl⟩
  have hN : ∀ env (q' : Int) (c0' : Int) v, (0 ≤ q') ∧ (q' ≤ L) ∧ (PAt l q' c0') → (L + 1 - q').toNat < (L + 1 - q).toNat → wkEnv env [(42, .int .i64 q'), (41, .int .i64 (J.o.len os)), (40, .sl 5 os .no), (5, .int .i64 c0'), (9, .bool true), (8, .int .i64 p3), (7, .sl 2 ys .no), (1, .ptr 0 0)] → Nx ⟨env, [.var [.int .i64 n, .sl 5 os .no]] ++ v, 112⟩ := fun env q' c0' v h1 h2 h3 => Nxh _ (q', c0') h1 h2 ⟨h3, by cbv, rfl, rfl⟩
  clear Nxh
  all_goals cbv
  repeat' (first
    | with_reducible exact id
    | exact trivial
    | (have hqL : q < L := (by clear h hN; subst hJ; simp only [std, stdOps] at *; grind)
       obtain ⟨⟨ok, op, of, oa, oil⟩, ho⟩ : ∃ o, l[q.toNat]? = some o := at_of hL q0 hqL
       obtain ⟨oes, hoes⟩ : ∃ es, es = oil.map Ed.av := ⟨_, rfl⟩
       with_reducible refine op_is hJ hos ho hoes ?_; cbv)
    | (with_reducible refine ports_at hJ ?_; intro P hP; cbv)
    | (with_reducible refine op_is hJ hos ho hoes ?_; cbv)
    | (with_reducible refine op_in hJ hos ?_; intro ok op of oa oes oil hoes hop; cbv)
    | (with_reducible refine ed_in hJ hes ?_; intro xf xp hed; cbv)
    | (with_reducible refine ed_in hJ hoes ?_; intro xf xp hed; cbv)
    | intro hh
    | with_reducible refine And.intro ?_ ?_
    | (with_reducible first | refine awp_go ?_ | refine aops_go ?_ | refine strip_go ?_ | refine draw_go ?_ | refine frames_go ?_); cbv)
  all_goals first
    | (refine fit_bool h ?_; have hcT := pAt_end hG hL hE (by clear h hN; subst hJ; simp only [std, stdOps] at *; grind) hc; unfold Ln at hTt; clear h hN; subst hJ; simp only [std, stdOps] at *; grind)
    | (clear h hN; subst hJ; simp only [std, stdOps] at *; grind)
    | skip
  all_goals
    have hcs := pAt_small hG hL qL hc
    have hP4 := ports_le ok oa
    have hP0 : 0 ≤ P := by omega
    refine loop_at (β := Int × Int) hJ tab_ok (fun | (p, c) => ⟨[(49, .int .i64 p), (48, .int .i64 P), (11, .ptr 1 0), (10, .int .i64 q), (42, .int .i64 q), (41, .int .i64 (J.o.len os)), (40, .sl 5 os .no), (5, .int .i64 c), (9, .bool true), (8, .int .i64 p3), (7, .sl 2 ys .no), (1, .ptr 0 0)], [.var [.int .i64 n, .sl 5 os .no], .var [.int .i64 ok, .int .i64 op, .int .i64 of, .int .i64 oa, .sl 2 oes .no]], 112⟩) (fun | (p, c) => (0 ≤ p) ∧ (p ≤ P) ∧ (c = c0 + p)) (fun | (p, c) => (P + 1 - p).toNat) (0, c0) ?_ ?_ ?_ ?_
    · exact ⟨Int.le_refl _, hP0, by omega⟩
    · refine ⟨?_, ?_, rfl, rfl⟩
      · cbv
        try exact ⟨rfl, trivial⟩
      · cbv
    · rintro ⟨p, c⟩; exact Nat.le_of_ble_eq_true rfl
    rintro ⟨p, c⟩ hinv2 Ny Nyh
    obtain ⟨p0, pM, hcc⟩ : (0 ≤ p) ∧ (p ≤ P) ∧ (c = c0 + p) := hinv2
    obtain ⟨p1, hp1⟩ : ∃ p1 : Int, p1 = p + 1 := ⟨_, rfl⟩
    have hM2 : ∀ env (p' : Int) (c' : Int) v, (0 ≤ p') ∧ (p' ≤ P) ∧ (c' = c0 + p') → (P + 1 - p').toNat < (P + 1 - p).toNat → wkEnv env [(49, .int .i64 p'), (48, .int .i64 P), (11, .ptr 1 0), (10, .int .i64 q), (42, .int .i64 q), (41, .int .i64 (J.o.len os)), (40, .sl 5 os .no), (5, .int .i64 c'), (9, .bool true), (8, .int .i64 p3), (7, .sl 2 ys .no), (1, .ptr 0 0)] → Ny ⟨env, [.var [.int .i64 n, .sl 5 os .no], .var [.int .i64 ok, .int .i64 op, .int .i64 of, .int .i64 oa, .sl 2 oes .no]] ++ v, 112⟩ := fun env p' c' v h1 h2 h3 => Nyh _ (p', c') h1 h2 ⟨h3, by cbv, rfl, rfl⟩
    clear Nyh
    all_goals cbv
    repeat' (first
      | with_reducible exact id
      | exact trivial
      | (with_reducible refine to_at hJ hos hL hLL hI ?_; intro a1 b1 c1 ht1; obtain ⟨hc1', hqa, haL, hb0, hbl⟩ := leads_at hG hL q0 ho p0 (by clear h hN hM2; subst hJ; simp only [std, stdOps] at *; grind) ht1; subst hc1'; cbv)
      | (with_reducible refine op_in hJ hos ?_; intro ok2 op2 of2 oa2 oes2 oil2 hoes2 hop2; have hbl2 := hbl _ _ _ _ _ hop2; cbv)
      | (with_reducible refine op_is hJ hos ho hoes ?_; cbv)
      | (with_reducible refine op_in hJ hos ?_; intro ok op of oa oes oil hoes hop; cbv)
      | (with_reducible refine ed_in hJ hes ?_; intro xf xp hed; cbv)
      | (with_reducible refine ed_in hJ hoes ?_; intro xf xp hed; cbv)
      | intro hh
      | with_reducible refine And.intro ?_ ?_
      | (with_reducible first | refine awp_go ?_ | refine aops_go ?_ | refine strip_go ?_ | refine draw_go ?_ | refine frames_go ?_); cbv)
    all_goals first
      | (refine hM2 _ p1 (J.o.ar .add .i64 c 1) _ ⟨?_, ?_, ?_⟩ ?_ ?_ <;> first | (with_reducible refine wkEnv_go' ?_; cbv; done) | (with_reducible refine wkEnv_go' ?_; cbv; clear h hN hM2; subst hJ; simp only [std, stdOps] at *; grind [wrap64]) | (clear h hN hM2; subst hJ; simp only [std, stdOps] at *; grind [wrap64]))
      | (clear h hN hM2; subst hJ; simp only [std, stdOps] at *; grind)
      | (have hpP : p = P := (by clear h hN hM2; subst hJ; simp only [std, stdOps] at *; grind)
         refine loop_at (β := Int) hJ tab_ok (fun | t => ⟨[(16, .int .i64 t), (10, .int .i64 q), (42, .int .i64 q), (41, .int .i64 (J.o.len os)), (40, .sl 5 os .no), (5, .int .i64 c), (9, .bool true), (8, .int .i64 p3), (7, .sl 2 ys .no), (1, .ptr 0 0)], [.var [.int .i64 n, .sl 5 os .no], .var [.int .i64 ok, .int .i64 op, .int .i64 of, .int .i64 oa, .sl 2 oes .no]], 112⟩) (fun | t => (0 ≤ t) ∧ (t < L)) (fun | t => (L - t).toNat) q ?_ ?_ ?_ ?_
         · exact ⟨q0, hqL⟩
         · refine ⟨?_, ?_, rfl, rfl⟩
           · cbv
             try exact ⟨rfl, trivial⟩
           · cbv
         · rintro t; exact Nat.le_of_ble_eq_true rfl
         rintro t hinv3 Nz Nzh
         obtain ⟨t0, tL⟩ : (0 ≤ t) ∧ (t < L) := hinv3
         have hM3 : ∀ env (t' : Int) v, (0 ≤ t') ∧ (t' < L) → (L - t').toNat < (L - t).toNat → wkEnv env [(16, .int .i64 t'), (10, .int .i64 q), (42, .int .i64 q), (41, .int .i64 (J.o.len os)), (40, .sl 5 os .no), (5, .int .i64 c), (9, .bool true), (8, .int .i64 p3), (7, .sl 2 ys .no), (1, .ptr 0 0)] → Nz ⟨env, [.var [.int .i64 n, .sl 5 os .no], .var [.int .i64 ok, .int .i64 op, .int .i64 of, .int .i64 oa, .sl 2 oes .no]] ++ v, 112⟩ := fun env t' v h1 h2 h3 => Nzh _ t' h1 h2 ⟨h3, by cbv, rfl, rfl⟩
         clear Nzh
         all_goals cbv
         repeat' (first
           | with_reducible exact id
           | exact trivial
           | (have htne : t ≠ p3 := (by clear h hN hM2 hM3; subst hJ; simp only [std, stdOps] at *; grind)
              obtain ⟨⟨tk, tp, tf, ta, til⟩, hto⟩ : ∃ o, l[t.toNat]? = some o := at_of hL t0 tL
              have hpt := has_port hG hs3 hs0 t0 hto htne
              with_reducible refine to_at hJ hos hL hLL hI ?_; intro a1 b1 c1 ht1; obtain ⟨hc1', hqa, haL, hb0, hbl⟩ := leads_at hG hL t0 hto (Int.le_refl 0) hpt ht1; subst hc1'; cbv)
           | (with_reducible refine op_is hJ hos ho hoes ?_; cbv)
           | (with_reducible refine op_in hJ hos ?_; intro ok op of oa oes oil hoes hop; cbv)
           | (with_reducible refine ed_in hJ hes ?_; intro xf xp hed; cbv)
           | (with_reducible refine ed_in hJ hoes ?_; intro xf xp hed; cbv)
           | intro hh
           | with_reducible refine And.intro ?_ ?_
           | (with_reducible first | refine awp_go ?_ | refine aops_go ?_ | refine strip_go ?_ | refine draw_go ?_ | refine frames_go ?_); cbv)
         all_goals first
           | (refine hM3 _ a1 _ ⟨?_, ?_⟩ ?_ ?_ <;> first | (with_reducible refine wkEnv_go' ?_; cbv; done) | (with_reducible refine wkEnv_go' ?_; cbv; clear h hN hM2 hM3; subst hJ; simp only [std, stdOps] at *; grind [wrap64]) | (clear h hN hM2 hM3; subst hJ; simp only [std, stdOps] at *; grind [wrap64]))
           | (refine hN _ q1 c _ ⟨?_, ?_, pAt_next hq1 q0 ho hc hP hpP hcc⟩ ?_ ?_ <;> first | (with_reducible refine wkEnv_go' ?_; cbv; done) | (with_reducible refine wkEnv_go' ?_; cbv; clear h hN hM2 hM3; subst hJ; simp only [std, stdOps] at *; grind [wrap64]) | (clear h hN hM2 hM3; subst hJ; simp only [std, stdOps] at *; grind [wrap64]))
           | (clear h hN hM2 hM3; subst hJ; simp only [std, stdOps] at *; grind))
  

end Go.Proofs.Ytilffanmaicakaa.A
