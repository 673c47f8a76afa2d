/- one. -/
import Derived.Test.YtilffanmaicakaaGrSpecD
namespace Go.Proofs.Ytilffanmaicakaa.A
open Go Go.Pt Go.Gr

/-- A map of edges that are taken. -/
def EncT (es : List (AV × AV)) (T : List Ed) : Prop := es.map (·.1) = T.map Ed.av ∧ ∀ x ∈ es, x.2 = .bool true ∨ x.2 = .bl true

theorem keq_ed (a b : Ed) : keq (Ed.av a) (Ed.av b) = decide (a = b) := by
  cases a; cases b
  simp only [keq, Ed.av, AV.cells, keqL, keqC, Ed.mk.injEq]
  rw [Bool.eq_iff_iff]; simp
theorem find_t {k : Ed} : ∀ {es : List (AV × AV)} {T : List Ed}, EncT es T → (k ∈ T → ∃ v, Pt.mfind es k.av = some v ∧ (v = .bool true ∨ v = .bl true)) ∧ (k ∉ T → Pt.mfind es k.av = none)
  | [], [], _ => ⟨fun h => by simp at h, fun _ => rfl⟩
  | [], _ :: _, h => by simp [EncT] at h
  | _ :: _, [], h => by simp [EncT] at h
  | x :: es, t :: T, h => by
    obtain ⟨h1, h2⟩ := h
    simp only [List.map_cons, List.cons.injEq] at h1
    have ih := find_t (k := k) (es := es) (T := T) ⟨h1.2, fun y hy => h2 y (List.mem_cons_of_mem _ hy)⟩
    simp only [Pt.mfind, h1.1, keq_ed]
    by_cases hk : k = t
    · simp only [hk, decide_true, if_true]
      exact ⟨fun _ => ⟨_, rfl, h2 x List.mem_cons_self⟩, fun hn => absurd List.mem_cons_self hn⟩
    · simp only [hk, decide_false, Bool.false_eq_true, if_false, List.mem_cons, false_or]
      exact ih
theorem put_none {k v : AV} : ∀ {es : List (AV × AV)}, Pt.mfind es k = none → Pt.mput es k v = es ++ [(k, v)]
  | [], _ => rfl
  | x :: es, h => by
    simp only [Pt.mfind] at h
    split at h
    · simp at h
    · rename_i hn; simp only [Pt.mput, hn]; simp [put_none h]
theorem look_t {J : Jd} {n₀ : Nat} (hJ : J = std Try.prog n₀) {es : List (AV × AV)} {T : List Ed} (hE : EncT es T) {xf xp : Int} {K : AV → Prop} (h1 : ⟨xf, xp⟩ ∈ T → K (.bool true)) (h2 : ⟨xf, xp⟩ ∈ T → K (.bl true)) : ∀ v, J.o.mfind es (.agg [.int .i64 xf, .int .i64 xp]) = some v → K v := by
  subst hJ
  intro v hv
  have hf := find_t (k := ⟨xf, xp⟩) hE
  by_cases hk : (⟨xf, xp⟩ : Ed) ∈ T
  · obtain ⟨w, hw, hw2⟩ := hf.1 hk
    have : v = w := Option.some.inj (hv.symm.trans hw)
    subst this
    rcases hw2 with rfl | rfl
    · exact h1 hk
    · exact h2 hk
  · have := hv.symm.trans (hf.2 hk); simp at this
theorem look_f {J : Jd} {n₀ : Nat} (hJ : J = std Try.prog n₀) {es : List (AV × AV)} {T : List Ed} (hE : EncT es T) {xf xp : Int} {K : Prop} (h : (⟨xf, xp⟩ : Ed) ∉ T → K) : J.o.mfind es (.agg [.int .i64 xf, .int .i64 xp]) = none → K := by
  subst hJ
  intro hv
  refine h fun hk => ?_
  obtain ⟨w, hw, _⟩ := (find_t (k := ⟨xf, xp⟩) hE).1 hk
  have := hv.symm.trans hw; simp at this
theorem put_t {J : Jd} {n₀ : Nat} (hJ : J = std Try.prog n₀) {es : List (AV × AV)} {T T' : List Ed} (hE : EncT es T) {xf xp : Int} (hn : (⟨xf, xp⟩ : Ed) ∉ T) (hT : T' = T ++ [⟨xf, xp⟩]) : EncT (J.o.mput es (.agg [.int .i64 xf, .int .i64 xp]) (.bl true)) T' := by
  subst hJ hT
  have : (std Try.prog n₀).o.mput es (.agg [.int .i64 xf, .int .i64 xp]) (.bl true) = es ++ [(Ed.av ⟨xf, xp⟩, .bl true)] := put_none ((find_t (k := ⟨xf, xp⟩) hE).2 hn)
  rw [this]
  refine ⟨by simp [hE.1], fun x hx => ?_⟩
  rcases List.mem_append.1 hx with hx | hx
  · exact hE.2 x hx
  · simp at hx; subst hx; exact .inr rfl
theorem dup_t {T T' : List Ed} {x : Ed} (hD : T.Nodup) (hn : x ∉ T) (hT : T' = T ++ [x]) : T'.Nodup := by
  subst hT; rw [List.nodup_append]; simp [hD]; intro a ha hc; subst hc; exact hn ha
theorem tk_succ {T l : List Ed} {j j1 : Int} {x : Ed} (j0 : 0 ≤ j) (hj1 : j1 = j + 1) (hx : l[j.toNat]? = some x) : T ++ l.take j1.toNat = (T ++ l.take j.toNat) ++ [x] := by
  rw [hj1, show (j + 1).toNat = j.toNat + 1 by omega, List.take_add_one, hx]; simp
theorem tk_all {T l : List Ed} {k M : Int} (hM : Ln M l) (hk : k = M) : T ++ l.take k.toNat = T ++ l := by
  unfold Ln at hM; subst hk hM; simp
theorem in_t {T l : List Ed} {j : Int} {x : Ed} (hin : x ∈ T ++ l.take j.toNat) (hx : l[j.toNat]? = some x) : ¬ (T ++ l).Nodup := by
  intro hn
  have h1 : l = l.take j.toNat ++ x :: l.drop (j.toNat + 1) := by
    obtain ⟨hlt, he⟩ := List.getElem?_eq_some_iff.1 hx
    rw [← he, List.getElem_cons_drop, List.take_append_drop]
  rw [h1, ← List.append_assoc, List.nodup_append] at hn
  exact hn.2.2 x hin x List.mem_cons_self rfl
theorem mok_t {es : List (AV × AV)} {T : List Ed} (hE : EncT es T) : ∀ x ∈ es, keyOk true [.int .i64, .int .i64] x.1 = true := by
  intro x hx
  have : x.1 ∈ es.map (·.1) := List.mem_map_of_mem hx
  rw [hE.1] at this
  obtain ⟨y, _, hy⟩ := List.mem_map.1 this
  rw [← hy]; rfl
theorem ren_t {g : Nat → Option Nat} {es : List (AV × AV)} {T : List Ed} (hE : EncT es T) : EncT (es.map fun x => (Pt.ren g 6 x.1, Pt.ren g 6 x.2)) T := by
  have key : EncT (es.map fun x => (Pt.ren g 6 x.1, Pt.ren g 6 x.2)) T := by
    refine ⟨?_, fun x hx => ?_⟩
    · rw [← hE.1, List.map_map]
      refine List.map_congr_left fun x hx => ?_
      have : x.1 ∈ es.map (·.1) := List.mem_map_of_mem hx
      rw [hE.1] at this
      obtain ⟨y, _, hy⟩ := List.mem_map.1 this
      simp only [Function.comp, ← hy]; rfl
    · obtain ⟨y, hy, rfl⟩ := List.mem_map.1 hx
      left
      rcases hE.2 y hy with h | h <;> simp only [h] <;> rfl
  exact key
theorem okS_t {env : List (Nat × AV)} {es : List (AV × AV)} {T : List Ed} {n : Nat} (hE : EncT es T) (h : okS ⟨env, [.mp []], n⟩ = true) : okS ⟨env, [.mp es], n⟩ = true := by
  simp only [okS, lenN, List.all_cons, List.all_nil, Bool.and_eq_true, Nat.reduceAdd] at h ⊢
  refine ⟨h.1, ?_, trivial⟩
  simp only [okE, List.all_eq_true, Bool.and_eq_true]
  intro x hx
  have : x.1 ∈ es.map (·.1) := List.mem_map_of_mem hx
  rw [hE.1] at this
  obtain ⟨y, _, hy⟩ := List.mem_map.1 this
  refine ⟨by rw [← hy]; rfl, ?_⟩
  rcases hE.2 x hx with h | h <;> rw [h] <;> rfl

set_option maxHeartbeats 8000000 in
set_option maxRecDepth 100000 in
theorem one_call (n i : Int) (l : List Gr.Op) (os : List AV) (hos : os = l.map Gr.Op.av) (L : Int) (hL : Ln L l) (hi : 0 ≤ i ∧ i < L) (hll : L < 1000) (ok op of oa : Int) (oil : List Ed) (oes : List AV) (hoes : oes = oil.map Ed.av) (ho : l[i.toNat]? = some ⟨ok, op, of, oa, oil⟩)
    (T : List Ed) (hT : T.Nodup) (es : List (AV × AV)) (hes0 : EncT es T) (K E)
    (h : ∀ r es', r = (if ok < 1 ∨ 9 < ok then 50 else if fieldsOk ok op of oa n = false then 51 else if insOk l i ok oil = false then 52 else if ¬ (T ++ oil).Nodup then 53 else 0) → (r = 0 → EncT es' (T ++ oil)) → K (.int .i64 r) [.mp es']) :
    CallA Try.prog 65 [.agg [.int .i64 n, .sl 5 os .no], .int .i64 i, .mp 0] [.mp es] K E := by
  obtain ⟨M, hM⟩ : ∃ M : Int, Ln M oil := ⟨_, rfl⟩
  have hM0 : 0 ≤ M := by unfold Ln at hM; omega
  refine call_fn (n₀ := 1) tab_ok [] Try.func65 rfl rfl rfl rfl (by simp [rangeN, snoc]) ?_
  intro J hJ
  have hlo : J.o.len oes = M := by subst hJ hoes; unfold Ln at hM; simp [std, stdOps, hM]
  have hlos : J.o.len os = L := by subst hJ hos; unfold Ln at hL; simp [std, stdOps, hL]
  cbv
  repeat' (first
    | with_reducible exact id
    | exact trivial
    | (with_reducible refine edges_at hJ hos hL hi hll hoes ho ?_; intros)
    | (with_reducible refine op_is hJ hos ho hoes ?_; cbv)
    | (with_reducible refine op_in hJ hos ?_; intro ok op of oa oes oil hoes hop; cbv)
    | (with_reducible refine ed_in hJ hes ?_; intro xf xp hed; cbv)
    | (with_reducible refine ed_in hJ hoes ?_; intro xf xp hed; cbv)
    | (with_reducible refine fields_at hJ ?_; intros)
    | intro hh
    | with_reducible refine And.intro ?_ ?_
    | (with_reducible first | refine awp_go ?_ | refine aops_go ?_ | refine strip_go ?_ | refine draw_go ?_ | refine frames_go ?_); cbv)
  all_goals first
    | (refine h 50 _ ?_ (fun hc => absurd hc (by decide)); clear h; subst hJ; simp only [std, stdOps] at *; grind)
    | (refine h 51 _ ?_ (fun hc => absurd hc (by decide)); clear h; subst hJ; simp only [std, stdOps] at *; grind)
    | (refine h 52 _ ?_ (fun hc => absurd hc (by decide)); clear h; subst hJ; simp only [std, stdOps] at *; grind)
    | (clear h; subst hJ; simp only [std, stdOps] at *; grind)
    | skip
  all_goals
    have hf0 : ¬ (ok < 1 ∨ 9 < ok) := by clear h; subst hJ; simp only [std, stdOps] at *; grind
    have hf1 : ¬ fieldsOk ok op of oa n = false := by clear h; subst hJ; simp only [std, stdOps] at *; grind
    have hf2 : ¬ insOk l i ok oil = false := by clear h; subst hJ; simp only [std, stdOps] at *; grind
    have hM4 : M ≤ 4 := by
      unfold Ln at hM
      have := ins_le (l := l) (n := i) (k := ok) (es := oil) (by simpa using hf2)
      omega
    refine loop_at (β := Int × List (AV × AV)) hJ tab_ok (fun | (j, et) => ⟨[(38, .int .i64 j), (37, .int .i64 (J.o.len oes)), (36, .sl 2 oes .no), (2, .mp 0)], [.mp et], 48⟩) (fun | (j, et) => (0 ≤ j) ∧ (j ≤ M) ∧ (EncT et (T ++ oil.take j.toNat)) ∧ ((T ++ oil.take j.toNat).Nodup)) (fun | (j, et) => (M + 1 - j).toNat) (0, es) ?_ ?_ ?_ ?_
    · exact ⟨Int.le_refl _, hM0, by simpa using hes0, by simpa using hT⟩
    · refine ⟨?_, ?_, okS_t hes0 rfl, rfl⟩
      · cbv
        try exact ⟨rfl, trivial⟩
      · cbv
    · rintro ⟨j, et⟩; exact Nat.le_of_ble_eq_true rfl
    rintro ⟨j, et⟩ hinv Nx Nxh
    obtain ⟨j0, jM, hE, hD⟩ : (0 ≤ j) ∧ (j ≤ M) ∧ (EncT et (T ++ oil.take j.toNat)) ∧ ((T ++ oil.take j.toNat).Nodup) := hinv
    obtain ⟨j1, hj1⟩ : ∃ j1 : Int, j1 = j + 1 := ⟨_, rfl⟩
    have hN : ∀ env (j' : Int) (et' : List (AV × AV)) v, (0 ≤ j') ∧ (j' ≤ M) ∧ (EncT et' (T ++ oil.take j'.toNat)) ∧ ((T ++ oil.take j'.toNat).Nodup) → (M + 1 - j').toNat < (M + 1 - j).toNat → wkEnv env [(38, .int .i64 j'), (37, .int .i64 (J.o.len oes)), (36, .sl 2 oes .no), (2, .mp 0)] → Nx ⟨env, [.mp et'] ++ v, 48⟩ := fun env j' et' v h1 h2 h3 => Nxh _ (j', et') h1 h2 ⟨h3, by cbv, okS_t h1.2.2.1 rfl, rfl⟩
    clear Nxh
    cbv
    repeat' (first
      | with_reducible exact id
      | exact trivial
      | (with_reducible refine look_t hJ hE ?_ ?_ <;> intro hin <;> cbv)
      | (with_reducible refine look_f hJ hE ?_; intro hin)
      | (with_reducible refine op_is hJ hos ho hoes ?_; cbv)
      | (with_reducible refine op_in hJ hos ?_; intro ok op of oa oes oil hoes hop; cbv)
      | (with_reducible refine ed_in hJ hes ?_; intro xf xp hed; cbv)
      | (with_reducible refine ed_in hJ hoes ?_; intro xf xp hed; cbv)
      | intro hh
      | with_reducible refine And.intro ?_ ?_
      | (with_reducible first | refine awp_go ?_ | refine aops_go ?_ | refine strip_go ?_ | refine draw_go ?_ | refine frames_go ?_); cbv)
    all_goals first
      | (refine hN _ j1 _ _ ⟨?_, ?_, put_t hJ hE hin (tk_succ j0 hj1 hed), dup_t hD hin (tk_succ j0 hj1 hed)⟩ ?_ ?_ <;> first | (with_reducible refine wkEnv_go' ?_; cbv; clear h hN; subst hJ; simp only [std, stdOps] at *; grind [wrap64]) | (clear h hN; subst hJ; simp only [std, stdOps] at *; grind [wrap64]))
      | (refine h 53 _ ?_ (fun hc => absurd hc (by decide)); rw [if_neg hf0, if_neg hf1, if_neg hf2, if_pos (in_t hin hed)])
      | (have e := tk_all (T := T) hM (k := j) (by clear h hN; subst hJ; simp only [std, stdOps] at *; grind); rw [e] at hE hD; refine h 0 _ (by rw [if_neg hf0, if_neg hf1, if_neg hf2, if_neg (fun hc => hc hD)]) (fun _ => ?_); have kk := ren_t (g := idx [0]) hE; revert kk; clear hE hN; cases et <;> exact id)
      | (clear h hN; subst hJ; simp only [std, stdOps] at *; exact mok_t hE)
      | (clear h hN; subst hJ; simp only [std, stdOps] at *; grind)

end Go.Proofs.Ytilffanmaicakaa.A
