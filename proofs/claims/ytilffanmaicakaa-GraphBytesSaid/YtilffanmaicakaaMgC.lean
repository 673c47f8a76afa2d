/- The document's Check. -/
import Derived.Test.YtilffanmaicakaaMgB
import Derived.Test.YtilffanmaicakaaMaD

namespace Go.Proofs.Ytilffanmaicakaa.A
open Go Go.Pt Go.Gr

theorem many_at {J : Jd} {n₀ : Nat} (hJ : J = std Try.prog n₀) {n u v ef ep L : Int} {l : List Gr.Op} {os : List AV} (hos : os = l.map Gr.Op.av) (hL : Ln L l) (hv : u = v + 1) (hv0 : 0 ≤ v) (hu : v < L ∧ J.o.ar .add .i64 v 1 = u) (hb : (flat l u.toNat).length < 2 ^ 60) (hll : L < 2 ^ 48) {σ K E} (h : ∀ c : Int, c = (flat l u.toNat).count ⟨ef, ep⟩ → K (.int .i64 c) σ) :
    J.call 70 [.agg [.int .i64 n, .sl 5 os .no], .int .i64 (J.o.ar .add .i64 v 1), .agg [.int .i64 ef, .int .i64 ep]] σ K E := by
  rw [hu.2]
  unfold Ln at hL
  exact call_pure hJ (many_call n u ef ep l os hos ⟨by omega, by omega⟩ hb (by omega)) (h _ rfl)
theorem many_all {J : Jd} {n₀ : Nat} (hJ : J = std Try.prog n₀) {n ef ep L : Int} {l : List Gr.Op} {os : List AV} (hos : os = l.map Gr.Op.av) (hL : Ln L l) (hb : (flat l L.toNat).length < 2 ^ 60) (hll : L < 2 ^ 48) {σ K E} (h : ∀ c : Int, c = (flat l L.toNat).count ⟨ef, ep⟩ → K (.int .i64 c) σ) :
    J.call 70 [.agg [.int .i64 n, .sl 5 os .no], .int .i64 (J.o.len os), .agg [.int .i64 ef, .int .i64 ep]] σ K E := by
  have hlos : J.o.len os = L := by subst hJ hos; unfold Ln at hL; simp [std, stdOps, hL]
  rw [hlos]
  unfold Ln at hL
  exact call_pure hJ (many_call n L ef ep l os hos ⟨by omega, by omega⟩ hb (by omega)) (h _ rfl)
def srcsI (l : List Gr.Op) (p : Int) : Int := (srcs l p : Nat)
def sinksI (l : List Gr.Op) : Int := (sinks l : Nat)
theorem srcs_le {l : List Gr.Op} {L m p : Int} (hL : Ln L l) (hL24 : L ≤ 24) (_m0 : 0 ≤ m) (_mL : m ≤ L) : 0 ≤ srcsI (l.take m.toNat) p ∧ srcsI (l.take m.toNat) p ≤ 24 := by
  unfold srcsI srcs Ln at *
  have h1 := List.countP_le_length (p := fun o : Gr.Op => decide (o.k = 1) && decide (o.p = p)) (l := l.take m.toNat)
  simp only [List.length_take] at h1
  omega
theorem sinks_le {l : List Gr.Op} {L m : Int} (hL : Ln L l) (hL24 : L ≤ 24) (_m0 : 0 ≤ m) (_mL : m ≤ L) : 0 ≤ sinksI (l.take m.toNat) ∧ sinksI (l.take m.toNat) ≤ 24 := by
  unfold sinksI sinks Ln at *
  have h1 := List.countP_le_length (p := fun o : Gr.Op => decide (o.k = 9)) (l := l.take m.toNat)
  simp only [List.length_take] at h1
  omega
theorem srcs_succ {l : List Gr.Op} {m m1 p k o f a c c' : Int} {il : List Ed} (hm1 : m1 = m + 1) (m0 : 0 ≤ m) (ho : l[m.toNat]? = some ⟨k, o, f, a, il⟩) (hc : c = srcsI (l.take m.toNat) p) (hc' : c' = c + if k = 1 ∧ o = p then 1 else 0) : c' = srcsI (l.take m1.toNat) p := by
  rw [hc', hc]; unfold srcsI srcs
  rw [take_succ' hm1 m0 ho, List.countP_append]
  by_cases h1 : k = 1 <;> by_cases h2 : o = p <;> simp [h1, h2]
theorem sinks_succ {l : List Gr.Op} {m m1 p k o f a s s' : Int} {il : List Ed} (hm1 : m1 = m + 1) (m0 : 0 ≤ m) (ho : l[m.toNat]? = some ⟨k, o, f, a, il⟩) (hs : (p = 0 → s = sinksI (l.take m.toNat)) ∧ (p ≠ 0 → s = sinksI l)) (hs' : s' = s + if p = 0 ∧ k = 9 then 1 else 0) : (p = 0 → s' = sinksI (l.take m1.toNat)) ∧ (p ≠ 0 → s' = sinksI l) := by
  refine ⟨fun hp => ?_, fun hp => ?_⟩
  · rw [hs', hs.1 hp]; unfold sinksI sinks
    rw [take_succ' hm1 m0 ho, List.countP_append]
    by_cases h1 : k = 9 <;> simp [h1, hp]
  · rw [hs', hs.2 hp]; simp [hp]
theorem srcs_ne {l : List Gr.Op} {L m p c : Int} (hL : Ln L l) (hm : m = L) (hc : c = srcsI (l.take m.toNat) p) (h : c ≠ 1) : srcs l p ≠ 1 := by
  rw [take_all hL hm] at hc; unfold srcsI at hc; omega
theorem srcs_is {l : List Gr.Op} {L m p c : Int} (hL : Ln L l) (hm : m = L) (hc : c = srcsI (l.take m.toNat) p) (h : c = 1) : srcs l p = 1 := by
  rw [take_all hL hm] at hc; unfold srcsI at hc; omega
theorem one_next {l : List Gr.Op} {p p1 : Int} (_p0 : 0 ≤ p) (hp1 : p1 = p + 1) (h : ∀ r : Int, 0 ≤ r → r < p → srcs l r = 1) (hp : srcs l p = 1) : ∀ r : Int, 0 ≤ r → r < p1 → srcs l r = 1 := by
  intro r h1 h2
  by_cases hr : r < p
  · exact h r h1 hr
  · rw [show r = p by omega]; exact hp
theorem sinks_end {l : List Gr.Op} {L m p s : Int} (hL : Ln L l) (hm : m = L) (hs : (p = 0 → s = sinksI (l.take m.toNat)) ∧ (p ≠ 0 → s = sinksI l)) : s = sinksI l := by
  rw [take_all hL hm] at hs
  by_cases hp : p = 0
  · exact hs.1 hp
  · exact hs.2 hp
theorem sinks_ne {l : List Gr.Op} {s : Int} (hs : s = sinksI l) (h : s ≠ 1) : sinks l ≠ 1 := by unfold sinksI at hs; omega
theorem sinks_is {l : List Gr.Op} {s : Int} (hs : s = sinksI l) (h : s = 1) : sinks l = 1 := by unfold sinksI at hs; omega
theorem in_of {T : List Ed} {c : Int} {e : Ed} (hc : c = (T.count e : Nat)) (h : c ≠ 0) : e ∈ T := by
  apply Classical.byContradiction; intro hn
  rw [List.count_eq_zero_of_not_mem hn] at hc; exact h hc
theorem out_of {T : List Ed} {c : Int} {e : Ed} (hc : c = (T.count e : Nat)) (h : c = 0) : e ∉ T := by
  intro hn
  have := List.count_pos_iff.2 hn
  omega
theorem one_more {l : List Ed} {P : Ed → Prop} {j j1 : Int} {x : Ed} (j0 : 0 ≤ j) (hj1 : j1 = j + 1) (hx : l[j.toNat]? = some x) (h : ∀ e, e ∈ l.take j.toNat → P e) (hp : P x) : ∀ e, e ∈ l.take j1.toNat → P e := by
  intro e he
  rw [hj1, show (j + 1).toNat = j.toNat + 1 by omega, List.take_add_one, hx] at he
  rcases List.mem_append.1 he with he | he
  · exact h e he
  · simp at he; subst he; exact hp
theorem all_one {l : List Ed} {P : Ed → Prop} {j M : Int} (hM : Ln M l) (hj : j = M) (h : ∀ e, e ∈ l.take j.toNat → P e) : ∀ e ∈ l, P e := by
  unfold Ln at hM; subst hj hM; simpa using h
theorem fault53 {l : List Gr.Op} {n i i1 j ok op of oa xf xp : Int} {oil : List Ed} (h0 : 0 ≤ i) (hi1 : i1 = i + 1) (ho : l[i.toNat]? = some ⟨ok, op, of, oa, oil⟩) (hf0 : ¬ (ok < 1 ∨ 9 < ok)) (hf1 : ¬ fieldsOk ok op of oa n = false) (hf2 : ¬ insOk l i ok oil = false)
    (_hx : oil[j.toNat]? = some ⟨xf, xp⟩) (hc : 1 < (flat l i1.toNat).count ⟨xf, xp⟩) : fault ⟨n, l⟩ i.toNat = 53 := by
  rw [hi1, show (i + 1).toNat = i.toNat + 1 by omega] at hc
  rw [fault_int h0 ho, if_neg hf0, if_neg hf1, if_neg hf2, if_pos]
  intro hn
  have := List.nodup_iff_count.1 hn ⟨xf, xp⟩
  omega
theorem fault0 {l : List Gr.Op} {n i i1 ok op of oa : Int} {oil : List Ed} (h0 : 0 ≤ i) (hi1 : i1 = i + 1) (ho : l[i.toNat]? = some ⟨ok, op, of, oa, oil⟩) (hf0 : ¬ (ok < 1 ∨ 9 < ok)) (hf1 : ¬ fieldsOk ok op of oa n = false) (hf2 : ¬ insOk l i ok oil = false)
    (hd : (flat l i.toNat).Nodup) (hc : ∀ e ∈ oil, (flat l i1.toNat).count e ≤ 1) : fault ⟨n, l⟩ i.toNat = 0 := by
  rw [hi1, show (i + 1).toNat = i.toNat + 1 by omega, flat_succ ho] at hc
  rw [fault_int h0 ho, if_neg hf0, if_neg hf1, if_neg hf2, if_neg]
  rw [flat_succ ho]
  exact fun hn => hn ((dup_iff hd).2 hc)
theorem flat_short {l : List Gr.Op} {n L i i1 ok op of oa : Int} {oil : List Ed} (hL : Ln L l) (hL24 : L ≤ 24) (h0 : 0 ≤ i) (hi : i < L) (hi1 : i1 = i + 1) (ho : l[i.toNat]? = some ⟨ok, op, of, oa, oil⟩) (hF : ∀ j : Int, 0 ≤ j → j < i → fault ⟨n, l⟩ j.toNat = 0) (hf2 : insOk l i ok oil = true) : (flat l i1.toNat).length < 2 ^ 60 := by
  rw [hi1, show (i + 1).toNat = i.toNat + 1 by omega, flat_succ ho, List.length_append]
  have h1 := ins_le hf2
  unfold Ln at hL
  have h2 := flat_len (g := ⟨n, l⟩) (n := i.toNat) (by simp only; omega) (fun j hj => by have := hF j (by omega) (by omega); simpa using this)
  simp only at h2
  show (flat l i.toNat).length + oil.length < 2 ^ 60
  omega

set_option maxHeartbeats 8000000 in
set_option maxRecDepth 100000 in
theorem check'_call (n : Int) (l : List Gr.Op) (os : List AV) (hos : os = l.map Gr.Op.av) (L : Int) (hL : Ln L l) (hLL : L < 2 ^ 48) (K E) (h : ∀ r e, Chk ⟨n, l⟩ r e → K (.tup [.int .i64 r, .int .i64 e]) []) :
    CallA Try.prog 27 [.agg [.int .i64 n, .sl 5 os .no]] [] K E := by
  have hL0 : 0 ≤ L := by unfold Ln at hL; omega
  refine call_fn (n₀ := 0) tab_ok [] Try.func27 rfl rfl rfl rfl (by decide) ?_
  intro J hJ
  have hlos : J.o.len os = L := by subst hJ hos; unfold Ln at hL; simp [std, stdOps, hL]
  cbv
  repeat' (first
    | with_reducible exact id
    | exact trivial
    | (with_reducible refine op_is hJ hos ho hoes ?_; cbv)
    | (with_reducible refine op_in hJ hos ?_; intro ok op of oa oes oil hoes hop; cbv)
    | (with_reducible refine ed_in hJ hes ?_; intro xf xp hed; cbv)
    | (with_reducible refine ed_in hJ hoes ?_; intro xf xp hed; cbv)
    | intro hh
    | with_reducible refine And.intro ?_ ?_
    | (with_reducible first | refine awp_go ?_ | refine aops_go ?_ | refine strip_go ?_ | refine draw_go ?_ | refine frames_go ?_); cbv)
  all_goals first
    | (refine h _ _ (.arg ?_); clear h ; subst hJ; simp only [std, stdOps] at *; grind)
    | (refine h _ _ (.long ?_ ?_) <;> (unfold Ln at hL; clear h ; subst hJ; simp only [std, stdOps] at *; grind))
    | (clear h ; subst hJ; simp only [std, stdOps] at *; grind)
    | skip
  have hn : 1 ≤ n ∧ n ≤ 4 := by clear h ; subst hJ; simp only [std, stdOps] at *; grind
  have hL24 : L ≤ 24 := by clear h ; subst hJ; simp only [std, stdOps] at *; grind
  refine loop_at (β := Int) hJ tab_ok (fun | i => ⟨[(4, .int .i64 i), (1, .ptr 0 0)], [.var [.int .i64 n, .sl 5 os .no]], 151⟩) (fun | i => (0 ≤ i) ∧ (i ≤ L) ∧ (∀ j : Int, 0 ≤ j → j < i → fault ⟨n, l⟩ j.toNat = 0)) (fun | i => (L + 1 - i).toNat) 0 ?_ ?_ ?_ ?_
  · exact ⟨Int.le_refl _, hL0, fun j hj hj' => by omega⟩
  · refine ⟨?_, ?_, rfl, rfl⟩
    · cbv
      try exact ⟨rfl, trivial⟩
    · cbv
  · rintro i; exact Nat.le_of_ble_eq_true rfl
  rintro i hinv Nx Nxh
  obtain ⟨i0, iL, hF⟩ : (0 ≤ i) ∧ (i ≤ L) ∧ (∀ j : Int, 0 ≤ j → j < i → fault ⟨n, l⟩ j.toNat = 0) := hinv
  obtain ⟨i1, hi1⟩ : ∃ i1 : Int, i1 = i + 1 := ⟨_, rfl⟩
  have hM1 : ∀ env (i' : Int) v, (0 ≤ i') ∧ (i' ≤ L) ∧ (∀ j : Int, 0 ≤ j → j < i' → fault ⟨n, l⟩ j.toNat = 0) → (L + 1 - i').toNat < (L + 1 - i).toNat → wkEnv env [(4, .int .i64 i'), (1, .ptr 0 0)] → Nx ⟨env, [.var [.int .i64 n, .sl 5 os .no]] ++ v, 151⟩ := fun env i' v h1 h2 h3 => Nxh _ i' h1 h2 ⟨h3, by cbv, rfl, rfl⟩
  clear Nxh
  all_goals cbv
  repeat' (first
    | with_reducible exact id
    | exact trivial
    | (obtain ⟨⟨ok, op, of, oa, oil⟩, ho⟩ : ∃ o, l[i.toNat]? = some o := at_of hL i0 (by clear h hM1; subst hJ; simp only [std, stdOps] at *; grind)
       obtain ⟨oes, hoes⟩ : ∃ es, es = oil.map Ed.av := ⟨_, rfl⟩
       with_reducible refine op_is hJ hos ho hoes ?_; cbv)
    | (with_reducible refine inputs'_at hJ hos hL ?_ ?_ hoes ho ?_; intros)
    | (with_reducible refine op_is hJ hos ho hoes ?_; cbv)
    | (with_reducible refine op_in hJ hos ?_; intro ok op of oa oes oil hoes hop; cbv)
    | (with_reducible refine ed_in hJ hes ?_; intro xf xp hed; cbv)
    | (with_reducible refine ed_in hJ hoes ?_; intro xf xp hed; cbv)
    | (with_reducible refine fields'_at hJ ?_; intros)
    | intro hh
    | with_reducible refine And.intro ?_ ?_
    | (with_reducible first | refine awp_go ?_ | refine aops_go ?_ | refine strip_go ?_ | refine draw_go ?_ | refine frames_go ?_); cbv)
  all_goals first
    | (refine h _ _ (chk_fault hn hL hL24 i0 (by clear h hM1; subst hJ; simp only [std, stdOps] at *; grind) hF (r := 50) ?_ (by decide)); rw [fault_int i0 ho, if_pos (by clear h hM1; subst hJ; simp only [std, stdOps] at *; grind)])
    | (refine h _ _ (chk_fault hn hL hL24 i0 (by clear h hM1; subst hJ; simp only [std, stdOps] at *; grind) hF (r := 51) ?_ (by decide)); rw [fault_int i0 ho, if_neg (by clear h hM1; subst hJ; simp only [std, stdOps] at *; grind), if_pos (by clear h hM1; subst hJ; simp only [std, stdOps] at *; grind)])
    | (refine h _ _ (chk_fault hn hL hL24 i0 (by clear h hM1; subst hJ; simp only [std, stdOps] at *; grind) hF (r := 52) ?_ (by decide)); rw [fault_int i0 ho, if_neg (by clear h hM1; subst hJ; simp only [std, stdOps] at *; grind), if_neg (by clear h hM1; subst hJ; simp only [std, stdOps] at *; grind), if_pos (by clear h hM1; subst hJ; simp only [std, stdOps] at *; grind)])
    | (clear h hM1; subst hJ; simp only [std, stdOps] at *; grind)
    | skip
  all_goals try
    (have hf0 : ¬ (ok < 1 ∨ 9 < ok) := by clear h hM1; subst hJ; simp only [std, stdOps] at *; grind
     have hf1 : ¬ fieldsOk ok op of oa n = false := by clear h hM1; subst hJ; simp only [std, stdOps] at *; grind
     have hf2 : ¬ insOk l i ok oil = false := by clear h hM1; subst hJ; simp only [std, stdOps] at *; grind
     obtain ⟨M, hM⟩ : ∃ M : Int, Ln M oil := ⟨_, rfl⟩
     have hM0 : 0 ≤ M := by unfold Ln at hM; omega
     have hM4 : M ≤ 4 := by
       unfold Ln at hM
       have := ins_le (l := l) (n := i) (k := ok) (es := oil) (by simpa using hf2)
       omega
     have hlo : J.o.len oes = M := by subst hJ hoes; unfold Ln at hM; simp [std, stdOps, hM]
     have hfl : (flat l i1.toNat).length < 2 ^ 60 := flat_short hL hL24 i0 (by clear h hM1; subst hJ; simp only [std, stdOps] at *; grind) hi1 ho hF (by simpa using hf2))
  all_goals first
    | (refine loop_at (β := Int) hJ tab_ok (fun | j => ⟨[(6, .int .i64 j), (5, .ptr 1 0), (4, .int .i64 i), (1, .ptr 0 0)], [.var [.int .i64 n, .sl 5 os .no], .var [.int .i64 ok, .int .i64 op, .int .i64 of, .int .i64 oa, .sl 2 oes .no]], 151⟩) (fun | j => (0 ≤ j) ∧ (j ≤ M) ∧ (∀ e, e ∈ oil.take j.toNat → (flat l i1.toNat).count e ≤ 1)) (fun | j => (M + 1 - j).toNat) 0 ?_ ?_ ?_ ?_
       · exact ⟨Int.le_refl _, hM0, fun e he => by simp at he⟩
       · refine ⟨?_, ?_, rfl, rfl⟩
         · cbv
           try exact ⟨rfl, trivial⟩
         · cbv
       · rintro j; exact Nat.le_of_ble_eq_true rfl
       rintro j hinv2 Ny Nyh
       obtain ⟨j0, jM, hc⟩ : (0 ≤ j) ∧ (j ≤ M) ∧ (∀ e, e ∈ oil.take j.toNat → (flat l i1.toNat).count e ≤ 1) := hinv2
       obtain ⟨j1, hj1⟩ : ∃ j1 : Int, j1 = j + 1 := ⟨_, rfl⟩
       have hM2 : ∀ env (j' : Int) v, (0 ≤ j') ∧ (j' ≤ M) ∧ (∀ e, e ∈ oil.take j'.toNat → (flat l i1.toNat).count e ≤ 1) → (M + 1 - j').toNat < (M + 1 - j).toNat → wkEnv env [(6, .int .i64 j'), (5, .ptr 1 0), (4, .int .i64 i), (1, .ptr 0 0)] → Ny ⟨env, [.var [.int .i64 n, .sl 5 os .no], .var [.int .i64 ok, .int .i64 op, .int .i64 of, .int .i64 oa, .sl 2 oes .no]] ++ v, 151⟩ := fun env j' v h1 h2 h3 => Nyh _ j' h1 h2 ⟨h3, by cbv, rfl, rfl⟩
       clear Nyh
       all_goals cbv
       repeat' (first
         | with_reducible exact id
         | exact trivial
         | (refine many_at hJ hos hL hi1 i0 (by clear h hM1 hM2; subst hJ; simp only [std, stdOps] at *; grind [wrap64]) hfl hLL ?_; intro c hc'; cbv)
         | (with_reducible refine op_is hJ hos ho hoes ?_; cbv)
         | (with_reducible refine op_in hJ hos ?_; intro ok op of oa oes oil hoes hop; cbv)
         | (with_reducible refine ed_in hJ hes ?_; intro xf xp hed; cbv)
         | (with_reducible refine ed_in hJ hoes ?_; intro xf xp hed; cbv)
         | intro hh
         | with_reducible refine And.intro ?_ ?_
         | (with_reducible first | refine awp_go ?_ | refine aops_go ?_ | refine strip_go ?_ | refine draw_go ?_ | refine frames_go ?_); cbv)
       all_goals first
         | (refine hM2 _ j1 _ ⟨?_, ?_, one_more j0 hj1 hed hc (by clear h hM1 hM2; subst hJ; simp only [std, stdOps] at *; grind)⟩ ?_ ?_ <;> first | (with_reducible refine wkEnv_go' ?_; cbv; clear h hM1 hM2; subst hJ; simp only [std, stdOps] at *; grind [wrap64]) | (clear h hM1 hM2; subst hJ; simp only [std, stdOps] at *; grind [wrap64]))
         | (refine h _ _ (chk_fault hn hL hL24 i0 (by clear h hM1 hM2; subst hJ; simp only [std, stdOps] at *; grind) hF (fault53 (n := n) i0 hi1 ho hf0 hf1 hf2 hed (by clear h hM1 hM2; subst hJ; simp only [std, stdOps] at *; grind)).symm (by decide)))
         | (refine hM1 _ i1 _ ⟨?_, ?_, fault_next i0 hi1 hF (fault0 i0 hi1 ho hf0 hf1 hf2 (nodup_at hL i0 iL hF) (all_one hM (by clear h hM1 hM2; subst hJ; simp only [std, stdOps] at *; grind) hc))⟩ ?_ ?_ <;> first | (with_reducible refine wkEnv_go' ?_; cbv; clear h hM1 hM2; subst hJ; simp only [std, stdOps] at *; grind [wrap64]) | (clear h hM1 hM2; subst hJ; simp only [std, stdOps] at *; grind [wrap64]))
         | (clear h hM1 hM2; subst hJ; simp only [std, stdOps] at *; grind))
    | skip
  have hiL : i = L := by clear h hM1; subst hJ; simp only [std, stdOps] at *; grind
  rw [hiL] at hF
  have hfl : (flat l L.toNat).length < 2 ^ 60 := by
    have h2 := flat_len (g := ⟨n, l⟩) (n := L.toNat) (by unfold Ln at hL; simp only; omega) (fun j hj => by have := hF j (by omega) (by omega); simpa using this)
    simp only at h2; omega
  refine loop_at (β := Int) hJ tab_ok (fun | q => ⟨[(7, .int .i64 q), (1, .ptr 0 0)], [.var [.int .i64 n, .sl 5 os .no]], 151⟩) (fun | q => (0 ≤ q) ∧ (q ≤ L) ∧ (LooseIs n l q false 0)) (fun | q => (L + 1 - q).toNat) 0 ?_ ?_ ?_ ?_
  · exact ⟨Int.le_refl _, hL0, .inl ⟨rfl, fun j h1 h2 => by omega⟩⟩
  · refine ⟨?_, ?_, rfl, rfl⟩
    · cbv
      try exact ⟨rfl, trivial⟩
    · cbv
  · rintro q; exact Nat.le_of_ble_eq_true rfl
  rintro q hinv2 Ny Nyh
  obtain ⟨q0, qL, hlo⟩ : (0 ≤ q) ∧ (q ≤ L) ∧ (LooseIs n l q false 0) := hinv2
  obtain ⟨q1, hq1⟩ : ∃ q1 : Int, q1 = q + 1 := ⟨_, rfl⟩
  have hM2 : ∀ env (q' : Int) v, (0 ≤ q') ∧ (q' ≤ L) ∧ (LooseIs n l q' false 0) → (L + 1 - q').toNat < (L + 1 - q).toNat → wkEnv env [(7, .int .i64 q'), (1, .ptr 0 0)] → Ny ⟨env, [.var [.int .i64 n, .sl 5 os .no]] ++ v, 151⟩ := fun env q' v h1 h2 h3 => Nyh _ q' h1 h2 ⟨h3, by cbv, rfl, rfl⟩
  clear Nyh
  all_goals cbv
  repeat' (first
    | with_reducible exact id
    | exact trivial
    | (with_reducible refine op_is hJ hos ho hoes ?_; cbv)
    | (with_reducible refine op_in hJ hos ?_; intro ok op of oa oes oil hoes hop; cbv)
    | (with_reducible refine ed_in hJ hes ?_; intro xf xp hed; cbv)
    | (with_reducible refine ed_in hJ hoes ?_; intro xf xp hed; cbv)
    | intro hh
    | with_reducible refine And.intro ?_ ?_
    | (with_reducible first | refine awp_go ?_ | refine aops_go ?_ | refine strip_go ?_ | refine draw_go ?_ | refine frames_go ?_); cbv)
  all_goals first
    | (clear h hM2; subst hJ; simp only [std, stdOps] at *; grind)
    | skip
  all_goals try
    (have hqL : q < L := by clear h hM2; subst hJ; simp only [std, stdOps] at *; grind
     obtain ⟨⟨ok, op, of, oa, oil⟩, ho⟩ : ∃ o, l[q.toNat]? = some o := at_of hL q0 hqL
     obtain ⟨oes, hoes⟩ : ∃ es, es = oil.map Ed.av := ⟨_, rfl⟩
     have hpl := ports_le ok oa)
  all_goals first
    | (refine loop_at (β := Int) hJ tab_ok (fun | p => ⟨[(8, .int .i64 p), (7, .int .i64 q), (1, .ptr 0 0)], [.var [.int .i64 n, .sl 5 os .no]], 151⟩) (fun | p => (0 ≤ p) ∧ (p ≤ ports ok oa) ∧ (∀ r : Int, 0 ≤ r → r < p → (⟨q, r⟩ : Ed) ∈ flat l L.toNat)) (fun | p => (ports ok oa + 1 - p).toNat) 0 ?_ ?_ ?_ ?_
       · exact ⟨Int.le_refl _, hpl.1, fun r h1 h2 => by omega⟩
       · refine ⟨?_, ?_, rfl, rfl⟩
         · cbv
           try exact ⟨rfl, trivial⟩
         · cbv
       · rintro p; exact Nat.le_of_ble_eq_true rfl
       rintro p hinv3 Nz Nzh
       obtain ⟨p0, pP, hp⟩ : (0 ≤ p) ∧ (p ≤ ports ok oa) ∧ (∀ r : Int, 0 ≤ r → r < p → (⟨q, r⟩ : Ed) ∈ flat l L.toNat) := hinv3
       obtain ⟨p1, hp1⟩ : ∃ p1 : Int, p1 = p + 1 := ⟨_, rfl⟩
       have hM3 : ∀ env (p' : Int) v, (0 ≤ p') ∧ (p' ≤ ports ok oa) ∧ (∀ r : Int, 0 ≤ r → r < p' → (⟨q, r⟩ : Ed) ∈ flat l L.toNat) → (ports ok oa + 1 - p').toNat < (ports ok oa + 1 - p).toNat → wkEnv env [(8, .int .i64 p'), (7, .int .i64 q), (1, .ptr 0 0)] → Nz ⟨env, [.var [.int .i64 n, .sl 5 os .no]] ++ v, 151⟩ := fun env p' v h1 h2 h3 => Nzh _ p' h1 h2 ⟨h3, by cbv, rfl, rfl⟩
       clear Nzh
       all_goals cbv
       repeat' (first
         | with_reducible exact id
         | exact trivial
         | (refine many_all hJ hos hL hfl hLL ?_; intro c hc'; cbv)
         | (with_reducible refine op_is hJ hos ho hoes ?_; cbv)
         | (with_reducible refine op_in hJ hos ?_; intro ok op of oa oes oil hoes hop; cbv)
         | (with_reducible refine ed_in hJ hes ?_; intro xf xp hed; cbv)
         | (with_reducible refine ed_in hJ hoes ?_; intro xf xp hed; cbv)
         | (with_reducible refine ports'_at hJ ?_; intros)
         | intro hh
         | with_reducible refine And.intro ?_ ?_
         | (with_reducible first | refine awp_go ?_ | refine aops_go ?_ | refine strip_go ?_ | refine draw_go ?_ | refine frames_go ?_); cbv)
       all_goals first
         | (refine hM3 _ p1 _ ⟨?_, ?_, mem_succ p0 hp1 hp (in_of hc' (by clear h hM2 hM3; subst hJ; simp only [std, stdOps] at *; grind))⟩ ?_ ?_ <;> first | (with_reducible refine wkEnv_go' ?_; cbv; clear h hM2 hM3; subst hJ; simp only [std, stdOps] at *; grind [wrap64]) | (clear h hM2 hM3; subst hJ; simp only [std, stdOps] at *; grind [wrap64]))
         | (refine h _ _ (chk_loose hn hL hL24 hF (loose_new (q1 := q) hL q0 hlo ho p0 (by clear h hM2 hM3; subst hJ; simp only [std, stdOps] at *; grind) (out_of hc' (by clear h hM2 hM3; subst hJ; simp only [std, stdOps] at *; grind)))))
         | (have e1 : p = ports ok oa := (by clear h hM2 hM3; subst hJ; simp only [std, stdOps] at *; grind); have e2 := loose_all hL q0 hq1 hlo ho hp e1; refine hM2 _ q1 _ ⟨?_, ?_, e2⟩ ?_ ?_ <;> first | (with_reducible refine wkEnv_go' ?_; cbv; clear h hM2 hM3; subst hJ; simp only [std, stdOps] at *; grind [wrap64]) | (clear h hM2 hM3; subst hJ; simp only [std, stdOps] at *; grind) | (clear h hM2 hM3; subst hJ; simp only [std, stdOps] at *; grind [wrap64]))
         | (clear h hM2 hM3; subst hJ; simp only [std, stdOps] at *; grind))
    | skip
  have hl := no_loose hL hlo (by clear h hM2; subst hJ; simp only [std, stdOps] at *; grind)
  refine loop_at (β := Int × Int) hJ tab_ok (fun | (p, s) => ⟨[(9, .int .i64 s), (10, .int .i64 p), (1, .ptr 0 0)], [.var [.int .i64 n, .sl 5 os .no]], 151⟩) (fun | (p, s) => (0 ≤ p) ∧ (p ≤ n) ∧ (∀ r : Int, 0 ≤ r → r < p → srcs l r = 1) ∧ ((p = 0 → s = 0) ∧ (p ≠ 0 → s = sinksI l))) (fun | (p, s) => (n + 1 - p).toNat) (0, 0) ?_ ?_ ?_ ?_
  · exact ⟨Int.le_refl _, by omega, fun r h1 h2 => by omega, fun _ => rfl, fun hz => absurd rfl hz⟩
  · refine ⟨?_, ?_, rfl, rfl⟩
    · cbv
      try exact ⟨rfl, trivial⟩
    · cbv
  · rintro ⟨p, s⟩; exact Nat.le_of_ble_eq_true rfl
  rintro ⟨p, s⟩ hinv4 Nw Nwh
  obtain ⟨pp0, pn, hsr, hs⟩ : (0 ≤ p) ∧ (p ≤ n) ∧ (∀ r : Int, 0 ≤ r → r < p → srcs l r = 1) ∧ ((p = 0 → s = 0) ∧ (p ≠ 0 → s = sinksI l)) := hinv4
  obtain ⟨p1, hp1⟩ : ∃ p1 : Int, p1 = p + 1 := ⟨_, rfl⟩
  have hM4 : ∀ env (p' : Int) (s' : Int) v, (0 ≤ p') ∧ (p' ≤ n) ∧ (∀ r : Int, 0 ≤ r → r < p' → srcs l r = 1) ∧ ((p' = 0 → s' = 0) ∧ (p' ≠ 0 → s' = sinksI l)) → (n + 1 - p').toNat < (n + 1 - p).toNat → wkEnv env [(9, .int .i64 s'), (10, .int .i64 p'), (1, .ptr 0 0)] → Nw ⟨env, [.var [.int .i64 n, .sl 5 os .no]] ++ v, 151⟩ := fun env p' s' v h1 h2 h3 => Nwh _ (p', s') h1 h2 ⟨h3, by cbv, rfl, rfl⟩
  clear Nwh
  all_goals cbv
  repeat' (first
    | with_reducible exact id
    | exact trivial
    | (with_reducible refine op_is hJ hos ho hoes ?_; cbv)
    | (with_reducible refine op_in hJ hos ?_; intro ok op of oa oes oil hoes hop; cbv)
    | (with_reducible refine ed_in hJ hes ?_; intro xf xp hed; cbv)
    | (with_reducible refine ed_in hJ hoes ?_; intro xf xp hed; cbv)
    | intro hh
    | with_reducible refine And.intro ?_ ?_
    | (with_reducible first | refine awp_go ?_ | refine aops_go ?_ | refine strip_go ?_ | refine draw_go ?_ | refine frames_go ?_); cbv)
  all_goals first
    | (have hpn : p = n := (by clear h hM4; subst hJ; simp only [std, stdOps] at *; grind); refine h _ _ (.sink hn (by unfold Ln at hL; simp only; omega) (all_ok hL hF) hl (fun r h1 h2 => hsr r h1 (by rw [hpn]; exact h2)) (sinks_ne (hs.2 (by omega)) (by clear h hM4; subst hJ; simp only [std, stdOps] at *; grind))))
    | (have hpn : p = n := (by clear h hM4; subst hJ; simp only [std, stdOps] at *; grind); refine h _ _ (.ok hn (by unfold Ln at hL; simp only; omega) (all_ok hL hF) hl (fun r h1 h2 => hsr r h1 (by rw [hpn]; exact h2)) (sinks_is (hs.2 (by omega)) (by clear h hM4; subst hJ; simp only [std, stdOps] at *; grind))))
    | (clear h hM4; subst hJ; simp only [std, stdOps] at *; grind)
    | skip
  all_goals first
    | (refine loop_at (β := Int × Int × Int) hJ tab_ok (fun | (m, c, s2) => ⟨[(12, .int .i64 m), (11, .int .i64 c), (9, .int .i64 s2), (10, .int .i64 p), (1, .ptr 0 0)], [.var [.int .i64 n, .sl 5 os .no]], 151⟩) (fun | (m, c, s2) => (0 ≤ m) ∧ (m ≤ L) ∧ (c = srcsI (l.take m.toNat) p) ∧ ((p = 0 → s2 = sinksI (l.take m.toNat)) ∧ (p ≠ 0 → s2 = sinksI l))) (fun | (m, c, s2) => (L + 1 - m).toNat) (0, 0, s) ?_ ?_ ?_ ?_
       · exact ⟨Int.le_refl _, hL0, rfl, fun hp0 => hs.1 hp0, hs.2⟩
       · refine ⟨?_, ?_, rfl, rfl⟩
         · cbv
           try exact ⟨rfl, trivial⟩
         · cbv
       · rintro ⟨m, c, s2⟩; exact Nat.le_of_ble_eq_true rfl
       rintro ⟨m, c, s2⟩ hinv5 Nz Nzh
       obtain ⟨m0, mL, hc, hs2⟩ : (0 ≤ m) ∧ (m ≤ L) ∧ (c = srcsI (l.take m.toNat) p) ∧ ((p = 0 → s2 = sinksI (l.take m.toNat)) ∧ (p ≠ 0 → s2 = sinksI l)) := hinv5
       obtain ⟨m1, hm1⟩ : ∃ m1 : Int, m1 = m + 1 := ⟨_, rfl⟩
       have hcb := srcs_le (p := p) hL hL24 m0 mL
       have hsb := sinks_le hL hL24 m0 mL
       have hsl := sinks_le hL hL24 hL0 (Int.le_refl L)
       have hM5 : ∀ env (m' : Int) (c' : Int) (s2' : Int) v, (0 ≤ m') ∧ (m' ≤ L) ∧ (c' = srcsI (l.take m'.toNat) p) ∧ ((p = 0 → s2' = sinksI (l.take m'.toNat)) ∧ (p ≠ 0 → s2' = sinksI l)) → (L + 1 - m').toNat < (L + 1 - m).toNat → wkEnv env [(12, .int .i64 m'), (11, .int .i64 c'), (9, .int .i64 s2'), (10, .int .i64 p), (1, .ptr 0 0)] → Nz ⟨env, [.var [.int .i64 n, .sl 5 os .no]] ++ v, 151⟩ := fun env m' c' s2' v h1 h2 h3 => Nzh _ (m', c', s2') h1 h2 ⟨h3, by cbv, rfl, rfl⟩
       clear Nzh
       all_goals cbv
       repeat' (first
         | with_reducible exact id
         | exact trivial
         | (with_reducible refine op_is hJ hos ho hoes ?_; cbv)
         | (obtain ⟨⟨ok, op, of, oa, oil⟩, ho⟩ : ∃ o, l[m.toNat]? = some o := at_of hL m0 (by clear h hM4 hM5; subst hJ; simp only [std, stdOps] at *; grind)
            obtain ⟨oes, hoes⟩ : ∃ es, es = oil.map Ed.av := ⟨_, rfl⟩
            with_reducible refine op_is hJ hos ho hoes ?_; cbv)
         | (with_reducible refine op_is hJ hos ho hoes ?_; cbv)
         | (with_reducible refine op_in hJ hos ?_; intro ok op of oa oes oil hoes hop; cbv)
         | (with_reducible refine ed_in hJ hes ?_; intro xf xp hed; cbv)
         | (with_reducible refine ed_in hJ hoes ?_; intro xf xp hed; cbv)
         | intro hh
         | with_reducible refine And.intro ?_ ?_
         | (with_reducible first | refine awp_go ?_ | refine aops_go ?_ | refine strip_go ?_ | refine draw_go ?_ | refine frames_go ?_); cbv)
       all_goals first
         | (refine hM5 _ m1 c s2 _ ⟨?_, ?_, srcs_succ (p := p) hm1 m0 ho hc (by clear h hM4 hM5; subst hJ; simp only [std, stdOps] at *; grind [wrap64]), sinks_succ hm1 m0 ho hs2 (by clear h hM4 hM5; subst hJ; simp only [std, stdOps] at *; grind [wrap64])⟩ ?_ ?_ <;> first | (with_reducible refine wkEnv_go' ?_; cbv; clear h hM4 hM5; subst hJ; simp only [std, stdOps] at *; grind [wrap64]) | (clear h hM4 hM5; subst hJ; simp only [std, stdOps] at *; grind) | (clear h hM4 hM5; subst hJ; simp only [std, stdOps] at *; grind [wrap64]))
         | (refine hM5 _ m1 c (J.o.ar .add .i64 s2 1) _ ⟨?_, ?_, srcs_succ (p := p) hm1 m0 ho hc (by clear h hM4 hM5; subst hJ; simp only [std, stdOps] at *; grind [wrap64]), sinks_succ hm1 m0 ho hs2 (by clear h hM4 hM5; subst hJ; simp only [std, stdOps] at *; grind [wrap64])⟩ ?_ ?_ <;> first | (with_reducible refine wkEnv_go' ?_; cbv; clear h hM4 hM5; subst hJ; simp only [std, stdOps] at *; grind [wrap64]) | (clear h hM4 hM5; subst hJ; simp only [std, stdOps] at *; grind) | (clear h hM4 hM5; subst hJ; simp only [std, stdOps] at *; grind [wrap64]))
         | (refine hM5 _ m1 (J.o.ar .add .i64 c 1) s2 _ ⟨?_, ?_, srcs_succ (p := p) hm1 m0 ho hc (by clear h hM4 hM5; subst hJ; simp only [std, stdOps] at *; grind [wrap64]), sinks_succ hm1 m0 ho hs2 (by clear h hM4 hM5; subst hJ; simp only [std, stdOps] at *; grind [wrap64])⟩ ?_ ?_ <;> first | (with_reducible refine wkEnv_go' ?_; cbv; clear h hM4 hM5; subst hJ; simp only [std, stdOps] at *; grind [wrap64]) | (clear h hM4 hM5; subst hJ; simp only [std, stdOps] at *; grind) | (clear h hM4 hM5; subst hJ; simp only [std, stdOps] at *; grind [wrap64]))
         | (refine hM5 _ m1 (J.o.ar .add .i64 c 1) (J.o.ar .add .i64 s2 1) _ ⟨?_, ?_, srcs_succ (p := p) hm1 m0 ho hc (by clear h hM4 hM5; subst hJ; simp only [std, stdOps] at *; grind [wrap64]), sinks_succ hm1 m0 ho hs2 (by clear h hM4 hM5; subst hJ; simp only [std, stdOps] at *; grind [wrap64])⟩ ?_ ?_ <;> first | (with_reducible refine wkEnv_go' ?_; cbv; clear h hM4 hM5; subst hJ; simp only [std, stdOps] at *; grind [wrap64]) | (clear h hM4 hM5; subst hJ; simp only [std, stdOps] at *; grind) | (clear h hM4 hM5; subst hJ; simp only [std, stdOps] at *; grind [wrap64]))
         | (refine h _ _ (.part hn (by unfold Ln at hL; simp only; omega) (all_ok hL hF) hl p ⟨pp0, by clear h hM4 hM5; subst hJ; simp only [std, stdOps] at *; grind⟩ (srcs_ne hL (by clear h hM4 hM5; subst hJ; simp only [std, stdOps] at *; grind) hc (by clear h hM4 hM5; subst hJ; simp only [std, stdOps] at *; grind))))
         | (refine hM4 _ p1 s2 _ ⟨?_, ?_, one_next pp0 hp1 hsr (srcs_is hL (by clear h hM4 hM5; subst hJ; simp only [std, stdOps] at *; grind) hc (by clear h hM4 hM5; subst hJ; simp only [std, stdOps] at *; grind)), ?_, ?_⟩ ?_ ?_ <;> first | (with_reducible refine wkEnv_go' ?_; cbv; clear h hM4 hM5; subst hJ; simp only [std, stdOps] at *; grind [wrap64]) | (intro hz; exfalso; omega) | (intro _; exact sinks_end hL (by clear h hM4 hM5; subst hJ; simp only [std, stdOps] at *; grind) hs2) | (clear h hM4 hM5; subst hJ; simp only [std, stdOps] at *; grind) | (clear h hM4 hM5; subst hJ; simp only [std, stdOps] at *; grind [wrap64]))
         | (clear h hM4 hM5; subst hJ; simp only [std, stdOps] at *; grind))
    | skip

end Go.Proofs.Ytilffanmaicakaa.A

/- Sink. -/
namespace Go.Proofs.Ytilffanmaicakaa.A
open Go Go.Pt Go.Gr

set_option maxHeartbeats 8000000 in
set_option maxRecDepth 100000 in
theorem isSink_call (k p f a : Int) (es : List AV) (K E) (h : K (.bool (decide (k = 9))) []) : CallA Try.prog 73 [.agg [.int .i64 k, .int .i64 p, .int .i64 f, .int .i64 a, .sl 2 es .no]] [] K E := by
  refine call_fn (n₀ := 0) tab_ok [] Try.func73 rfl rfl rfl rfl (by decide) ?_
  intro J hJ
  cbv
  refine fit_bool h ?_
  subst hJ; simp only [std, stdOps]; rw [Bool.eq_iff_iff]; simp
theorem isSink_at {J : Jd} {n₀ : Nat} (hJ : J = std Try.prog n₀) {k p f a : Int} {es : List AV} {σ K E} (h : ∀ r', r' = decide (k = 9) → K (.bool r') σ) : J.call 73 [.agg [.int .i64 k, .int .i64 p, .int .i64 f, .int .i64 a, .sl 2 es .no]] σ K E := call_pure hJ (isSink_call k p f a es) (h _ rfl)

/-- Where the sink is. -/
def SinkAt (l : List Gr.Op) (r : Int) : Prop := (r = -1 ∧ ∀ o ∈ l, o.k ≠ 9) ∨ (0 ≤ r ∧ (∃ o, l[r.toNat]? = some o ∧ o.k = 9) ∧ ∀ j : Int, 0 ≤ j → j < r → ∀ o, l[j.toNat]? = some o → o.k ≠ 9)
theorem sink_no {l : List Gr.Op} {L q : Int} (hL : Ln L l) (hq : q = L) (h : ∀ j : Int, 0 ≤ j → j < q → ∀ o, l[j.toNat]? = some o → o.k ≠ 9) : SinkAt l (-1) := by
  refine .inl ⟨rfl, fun o ho => ?_⟩
  obtain ⟨i, hi⟩ := List.mem_iff_getElem?.1 ho
  have := lt_of_get hi
  unfold Ln at hL
  exact h i (by omega) (by omega) o (by simpa using hi)
theorem sink_next {l : List Gr.Op} {q q1 k p f a : Int} {il : List Ed} (hq1 : q1 = q + 1) (_q0 : 0 ≤ q) (ho : l[q.toNat]? = some ⟨k, p, f, a, il⟩) (hk : k ≠ 9) (h : ∀ j : Int, 0 ≤ j → j < q → ∀ o, l[j.toNat]? = some o → o.k ≠ 9) : ∀ j : Int, 0 ≤ j → j < q1 → ∀ o, l[j.toNat]? = some o → o.k ≠ 9 := by
  intro j h1 h2 o hj
  by_cases hlt : j < q
  · exact h j h1 hlt o hj
  · rw [show j = q by omega, ho] at hj
    obtain rfl := Option.some.inj hj
    exact hk

set_option maxHeartbeats 8000000 in
set_option maxRecDepth 100000 in
theorem indexOp_call (l : List Gr.Op) (os : List AV) (hos : os = l.map Gr.Op.av) (L : Int) (hL : Ln L l) (hLL : L < 2 ^ 48) (K E) (h : ∀ r, SinkAt l r → K (.int .i64 r) []) :
    CallA Try.prog 72 [.sl 5 os .no, .func 73 []] [] K E := by
  have hL0 : 0 ≤ L := by unfold Ln at hL; omega
  refine call_fn (n₀ := 0) tab_ok [] Try.func72 rfl rfl rfl rfl (by decide) ?_
  intro J hJ
  have hlos : J.o.len os = L := by subst hJ hos; unfold Ln at hL; simp [std, stdOps, hL]
  cbv
  refine loop_at (β := Int) hJ tab_ok (fun | q => ⟨[(8, .int .i64 q), (7, .int .i64 (J.o.len os)), (1, .func 73 []), (0, .sl 5 os .no)], [], 19⟩) (fun | q => (0 ≤ q) ∧ (q ≤ L) ∧ (∀ j : Int, 0 ≤ j → j < q → ∀ o, l[j.toNat]? = some o → o.k ≠ 9)) (fun | q => (L + 1 - q).toNat) 0 ?_ ?_ ?_ ?_
  · exact ⟨Int.le_refl _, hL0, fun j h1 h2 => by omega⟩
  · refine ⟨?_, ?_, rfl, rfl⟩
    · cbv
      try exact ⟨rfl, trivial⟩
    · cbv
  · rintro q; exact Nat.le_of_ble_eq_true rfl
  rintro q hinv Nx Nxh
  obtain ⟨q0, qL, hq⟩ : (0 ≤ q) ∧ (q ≤ L) ∧ (∀ j : Int, 0 ≤ j → j < q → ∀ o, l[j.toNat]? = some o → o.k ≠ 9) := hinv
  obtain ⟨q1, hq1⟩ : ∃ q1 : Int, q1 = q + 1 := ⟨_, rfl⟩
  have hN : ∀ env (q' : Int) v, (0 ≤ q') ∧ (q' ≤ L) ∧ (∀ j : Int, 0 ≤ j → j < q' → ∀ o, l[j.toNat]? = some o → o.k ≠ 9) → (L + 1 - q').toNat < (L + 1 - q).toNat → wkEnv env [(8, .int .i64 q'), (7, .int .i64 (J.o.len os)), (1, .func 73 []), (0, .sl 5 os .no)] → Nx ⟨env, [] ++ v, 19⟩ := fun env q' v h1 h2 h3 => Nxh _ q' h1 h2 ⟨h3, by cbv, rfl, rfl⟩
  clear Nxh
  all_goals cbv
  repeat' (first
    | with_reducible exact id
    | exact trivial
    | (with_reducible refine isSink_at hJ ?_; intros)
    | (with_reducible refine op_is hJ hos ho hoes ?_; cbv)
    | (with_reducible refine op_in hJ hos ?_; intro ok op of oa oes oil hoes hop; cbv)
    | (with_reducible refine ed_in hJ hes ?_; intro xf xp hed; cbv)
    | (with_reducible refine ed_in hJ hoes ?_; intro xf xp hed; cbv)
    | intro hh
    | with_reducible refine And.intro ?_ ?_
    | (with_reducible first | refine awp_go ?_ | refine aops_go ?_ | refine strip_go ?_ | refine draw_go ?_ | refine frames_go ?_); cbv)
  all_goals first
    | (refine hN _ q1 _ ⟨?_, ?_, sink_next hq1 q0 hop (by clear h hN; subst hJ; simp only [std, stdOps] at *; grind) hq⟩ ?_ ?_ <;> first | (with_reducible refine wkEnv_go' ?_; cbv; clear h hN; subst hJ; simp only [std, stdOps] at *; grind [wrap64]) | (clear h hN; subst hJ; simp only [std, stdOps] at *; grind [wrap64]))
    | (refine h _ (.inr ⟨q0, ⟨_, hop, by clear h hN; subst hJ; simp only [std, stdOps] at *; grind⟩, hq⟩))
    | (refine h _ (sink_no hL (by clear h hN; subst hJ; simp only [std, stdOps] at *; grind) hq))
    | (clear h hN; subst hJ; simp only [std, stdOps] at *; grind)
theorem indexOp_at {J : Jd} {n₀ : Nat} (hJ : J = std Try.prog n₀) {l : List Gr.Op} {os : List AV} (hos : os = l.map Gr.Op.av) {L : Int} (hL : Ln L l) (hLL : L < 2 ^ 48) {σ K E} (h : ∀ r, SinkAt l r → K (.int .i64 r) σ) :
    J.call 72 [.sl 5 os .no, .func 73 []] σ K E := by
  subst hJ
  refine call_in (J := std Try.prog n₀) rfl [] (by simp) (by simp) (args' := [.sl 5 os .no, .func 73 []]) (σ' := []) rfl rfl ?_
  refine indexOp_call l os hos L hL hLL _ _ fun r hr => ?_
  rw [back_nil]; exact h r hr

set_option maxHeartbeats 8000000 in
set_option maxRecDepth 100000 in
theorem sink_call (n : Int) (l : List Gr.Op) (os : List AV) (hos : os = l.map Gr.Op.av) (L : Int) (hL : Ln L l) (hLL : L < 2 ^ 48) (K E) (h : ∀ r r2 b, SinkAt l r → r2 = (if r < 0 then 0 else r) → b = decide (0 ≤ r) → K (.tup [.int .i64 r2, .bool b]) []) :
    CallA Try.prog 31 [.agg [.int .i64 n, .sl 5 os .no]] [] K E := by
  refine call_fn (n₀ := 0) tab_ok [] Try.func31 rfl rfl rfl rfl (by decide) ?_
  intro J hJ
  cbv
  repeat' (first
    | with_reducible exact id
    | exact trivial
    | (with_reducible refine indexOp_at hJ hos hL hLL ?_; intro r hr; cbv)
    | (with_reducible refine op_is hJ hos ho hoes ?_; cbv)
    | (with_reducible refine op_in hJ hos ?_; intro ok op of oa oes oil hoes hop; cbv)
    | (with_reducible refine ed_in hJ hes ?_; intro xf xp hed; cbv)
    | (with_reducible refine ed_in hJ hoes ?_; intro xf xp hed; cbv)
    | intro hh
    | with_reducible refine And.intro ?_ ?_
    | (with_reducible first | refine awp_go ?_ | refine aops_go ?_ | refine strip_go ?_ | refine draw_go ?_ | refine frames_go ?_); cbv)
  refine h r _ _ hr ?_ ?_
  · clear h; subst hJ; simp only [std, stdOps]
  · clear h; subst hJ; simp only [std, stdOps]

end Go.Proofs.Ytilffanmaicakaa.A

/- The law GraphChecks. -/
namespace Go.Proofs.Ytilffanmaicakaa.A
open Go Go.Pt Go.Gr

theorem WkL.nil : WkL [] [] := trivial
theorem WkL.cons {a b : AV} {l m : List AV} (h : Wk a b) (k : WkL l m) : WkL (a :: l) (b :: m) := ⟨h, k⟩
theorem WkE.nil : WkE [] [] := trivial
theorem WkE.cons {a b : AV} {l m : List AV} (h : WkL a.cells b.cells) (k : WkE l m) : WkE (a :: l) (b :: m) := ⟨h, k⟩
theorem check_at {J : Jd} {n₀ : Nat} (hJ : J = std Try.prog n₀) {n : Int} {l : List Gr.Op} {os : List AV} (hos : os = l.map Gr.Op.av) {L : Int} (hL : Ln L l) (hLL : L < 2 ^ 48) {σ K E} (h : ∀ r e, Chk ⟨n, l⟩ r e → K (.tup [.int .i64 r, .int .i64 e]) σ) : J.call 26 [.agg [.int .i64 n, .sl 5 os .no]] σ K E := by
  subst hJ
  refine call_in (J := std Try.prog n₀) rfl [] (by simp) (by simp) (args' := [.agg [.int .i64 n, .sl 5 os .no]]) (σ' := []) rfl rfl ?_
  refine check_call n l os hos L hL hLL _ _ fun r e hr => ?_
  rw [back_nil]; exact h r e hr
theorem check'_at {J : Jd} {n₀ : Nat} (hJ : J = std Try.prog n₀) {n : Int} {l : List Gr.Op} {os : List AV} (hos : os = l.map Gr.Op.av) {L : Int} (hL : Ln L l) (hLL : L < 2 ^ 48) {σ K E} (h : ∀ r e, Chk ⟨n, l⟩ r e → K (.tup [.int .i64 r, .int .i64 e]) σ) : J.call 27 [.agg [.int .i64 n, .sl 5 os .no]] σ K E := by
  subst hJ
  refine call_in (J := std Try.prog n₀) rfl [] (by simp) (by simp) (args' := [.agg [.int .i64 n, .sl 5 os .no]]) (σ' := []) rfl rfl ?_
  refine check'_call n l os hos L hL hLL _ _ fun r e hr => ?_
  rw [back_nil]; exact h r e hr
theorem sink_at {J : Jd} {n₀ : Nat} (hJ : J = std Try.prog n₀) {n : Int} {l : List Gr.Op} {os : List AV} (hos : os = l.map Gr.Op.av) {L : Int} (hL : Ln L l) (hLL : L < 2 ^ 48) {σ K E} (h : ∀ r r2 b, SinkAt l r → r2 = (if r < 0 then 0 else r) → b = decide (0 ≤ r) → K (.tup [.int .i64 r2, .bool b]) σ) : J.call 31 [.agg [.int .i64 n, .sl 5 os .no]] σ K E := by
  subst hJ
  refine call_in (J := std Try.prog n₀) rfl [] (by simp) (by simp) (args' := [.agg [.int .i64 n, .sl 5 os .no]]) (σ' := []) rfl rfl ?_
  refine sink_call n l os hos L hL hLL _ _ fun r r2 b h1 h2 h3 => ?_
  rw [back_nil]; exact h r r2 b h1 h2 h3

def goodL : List Gr.Op := [⟨1, 0, 0, 0, []⟩, ⟨9, 0, 0, 0, [⟨0, 0⟩]⟩]
def badL : List Gr.Op := [⟨1, 0, 0, 0, []⟩, ⟨2, 0, 1, 0, [⟨1, 0⟩]⟩]
theorem good_ok : Chk ⟨1, goodL⟩ 0 0 := by
  refine .ok (by decide) (by decide) (by decide) ?_ ?_ (by decide)
  · rintro j ⟨o, ho, p, h0, h1, h2⟩
    match j, ho with
    | 0, ho =>
      obtain rfl := Option.some.inj ho
      have h3 : p < 1 := h1
      have : p = 0 := by omega
      subst this
      exact h2 (by decide)
    | 1, ho =>
      obtain rfl := Option.some.inj ho
      have h3 : p < 0 := h1
      omega
  · intro p h0 h1
    have h2 : p < 1 := h1
    have : p = 0 := by omega
    subst this; decide
theorem bad_edge : Chk ⟨1, badL⟩ 1 52 := .fault (g := ⟨1, badL⟩) (by decide) (by decide) 1 (by decide) (by decide) (by decide)
theorem good_sink {r : Int} (h : SinkAt goodL r) : r = 1 := by
  rcases h with ⟨_, h⟩ | ⟨h0, ⟨o, ho, hk⟩, _⟩
  · exact absurd rfl (h ⟨9, 0, 0, 0, [⟨0, 0⟩]⟩ (by simp [goodL]))
  · obtain ⟨k, rfl⟩ := Int.eq_ofNat_of_zero_le h0
    simp only [Int.toNat_natCast] at ho
    match k, ho with
    | 0, ho => obtain rfl := Option.some.inj ho; simp at hk
    | 1, _ => rfl

set_option maxHeartbeats 8000000 in
set_option maxRecDepth 100000 in
theorem live_call (K E) (h : K (.bool true) []) : CallA Try.prog 25 [] [] K E := by
  refine call_fn (n₀ := 0) tab_ok [] Try.func25 rfl rfl rfl rfl (by decide) ?_
  intro J hJ
  cbv
  repeat' (first
    | with_reducible exact id
    | exact trivial
    | (refine call_weak hJ (args' := [.agg [.int .i64 1, .sl 5 (goodL.map Gr.Op.av) .no]]) (WkL.cons (Wk.agg (WkL.cons Wk.rfl' (WkL.cons (Wk.sl (WkE.cons (WkL.cons Wk.rfl' (WkL.cons Wk.rfl' (WkL.cons Wk.rfl' (WkL.cons Wk.rfl' (WkL.cons Wk.nils WkL.nil))))) (WkE.cons (WkL.cons Wk.rfl' (WkL.cons Wk.rfl' (WkL.cons Wk.rfl' (WkL.cons Wk.rfl' (WkL.cons (Wk.sl (WkE.cons (WkL.cons Wk.rfl' (WkL.cons Wk.rfl' WkL.nil)) WkE.nil)) WkL.nil))))) WkE.nil))) WkL.nil))) WkL.nil) (check_at hJ (l := goodL) rfl (L := 2) (by unfold Ln; rfl) (by decide) ?_); intro r e hg; obtain ⟨hr, he⟩ := hg.same good_ok; subst hr he; cbv)
    | (refine call_weak hJ (args' := [.agg [.int .i64 1, .sl 5 (badL.map Gr.Op.av) .no]]) (WkL.cons (Wk.agg (WkL.cons Wk.rfl' (WkL.cons (Wk.sl (WkE.cons (WkL.cons Wk.rfl' (WkL.cons Wk.rfl' (WkL.cons Wk.rfl' (WkL.cons Wk.rfl' (WkL.cons Wk.nils WkL.nil))))) (WkE.cons (WkL.cons Wk.rfl' (WkL.cons Wk.rfl' (WkL.cons Wk.rfl' (WkL.cons Wk.rfl' (WkL.cons (Wk.sl (WkE.cons (WkL.cons Wk.rfl' (WkL.cons Wk.rfl' WkL.nil)) WkE.nil)) WkL.nil))))) WkE.nil))) WkL.nil))) WkL.nil) (check_at hJ (l := badL) rfl (L := 2) (by unfold Ln; rfl) (by decide) ?_); intro r e hg; obtain ⟨hr, he⟩ := hg.same bad_edge; subst hr he; cbv)
    | (refine call_weak hJ (args' := [.agg [.int .i64 1, .sl 5 (goodL.map Gr.Op.av) .no]]) (WkL.cons (Wk.agg (WkL.cons Wk.rfl' (WkL.cons (Wk.sl (WkE.cons (WkL.cons Wk.rfl' (WkL.cons Wk.rfl' (WkL.cons Wk.rfl' (WkL.cons Wk.rfl' (WkL.cons Wk.nils WkL.nil))))) (WkE.cons (WkL.cons Wk.rfl' (WkL.cons Wk.rfl' (WkL.cons Wk.rfl' (WkL.cons Wk.rfl' (WkL.cons (Wk.sl (WkE.cons (WkL.cons Wk.rfl' (WkL.cons Wk.rfl' WkL.nil)) WkE.nil)) WkL.nil))))) WkE.nil))) WkL.nil))) WkL.nil) (sink_at hJ (l := goodL) rfl (L := 2) (by unfold Ln; rfl) (by decide) ?_); intro r r2 b hs hr2 hb; have hs1 := good_sink hs; subst hs1 hr2 hb; cbv)
    | intro hh
    | with_reducible refine And.intro ?_ ?_
    | (with_reducible first | refine awp_go ?_ | refine aops_go ?_ | refine strip_go ?_ | refine draw_go ?_ | refine frames_go ?_); cbv)
  all_goals first
    | (refine fit_bool h ?_; clear h; subst hJ; simp only [std, stdOps] at *; first | rfl | decide | grind)
    | (clear h; subst hJ; simp only [std, stdOps] at *; first | rfl | decide | grind)
theorem live_at {J : Jd} {n₀ : Nat} (hJ : J = std Try.prog n₀) {σ K E} (h : K (.bool true) σ) : J.call 25 [] σ K E := call_pure hJ live_call h

theorem op_sub {J : Jd} {n₀ : Nat} (hJ : J = std Try.prog n₀) {l : List Gr.Op} {os : List AV} (hos : os = l.map Gr.Op.av) {i m : Int} {K : AV → Prop} (h : ∀ k p f a es, K (.agg [.int .i64 k, .int .i64 p, .int .i64 f, .int .i64 a, .sl 2 es .no])) : ∀ e, J.o.get (J.o.sub os 0 m) i = some e → K e := by
  subst hJ hos
  intro e he
  simp only [std, stdOps] at he
  have hmem := List.mem_of_mem_take (List.mem_of_mem_drop (List.mem_of_getElem? he))
  obtain ⟨x, _, rfl⟩ := List.mem_map.1 hmem
  exact h _ _ _ _ _

set_option maxHeartbeats 8000000 in
set_option maxRecDepth 100000 in
theorem graphChecks_call (n : Int) (l : List Gr.Op) (os : List AV) (hos : os = l.map Gr.Op.av) (L : Int) (hL : Ln L l) (hLL : L < 2 ^ 48) (K E) (h : K (.bool true) []) : CallA Try.prog 6 [.agg [.int .i64 n, .sl 5 os .no]] [] K E := by
  have hL0 : 0 ≤ L := by unfold Ln at hL; omega
  refine call_fn (n₀ := 0) tab_ok [] Try.func6 rfl rfl rfl rfl (by decide) ?_
  intro J hJ
  have hlos : J.o.len os = L := by subst hJ hos; unfold Ln at hL; simp [std, stdOps, hL]
  obtain ⟨m, hm⟩ : ∃ m : Int, m = J.o.len (J.o.sub os 0 (J.o.mn (J.o.len os) 100)) := ⟨_, rfl⟩
  have hm4 : 0 ≤ m ∧ m ≤ 100 := by clear h; subst hJ hm; simp only [std, stdOps, List.length_drop, List.length_take]; split <;> omega
  cbv
  repeat' (first
    | with_reducible exact id
    | exact trivial
    | with_reducible refine fit_bool h ?_
    | (with_reducible refine live_at hJ ?_; cbv)
    | (with_reducible refine check_at hJ hos hL hLL ?_; intro r e hc1; cbv)
    | (with_reducible refine check'_at hJ hos hL hLL ?_; intro r2 e2 hc2; cbv)
    | (with_reducible refine op_is hJ hos ho hoes ?_; cbv)
    | (with_reducible refine op_in hJ hos ?_; intro ok op of oa oes oil hoes hop; cbv)
    | (with_reducible refine ed_in hJ hes ?_; intro xf xp hed; cbv)
    | (with_reducible refine ed_in hJ hoes ?_; intro xf xp hed; cbv)
    | intro hh
    | with_reducible refine And.intro ?_ ?_
    | (with_reducible first | refine awp_go ?_ | refine aops_go ?_ | refine strip_go ?_ | refine draw_go ?_ | refine frames_go ?_); cbv)
  all_goals first
    | (clear h; subst hJ; simp only [std, stdOps] at *; first | rfl | decide | grind)
    | (clear h; subst hJ; simp only [std, stdOps] at *; split <;> omega)
    | skip
  obtain ⟨hre, hee⟩ := hc2.same hc1
  subst hre hee
  refine loop_at (β := Int) hJ tab_ok (fun | q => ⟨[(29, .int .i64 q), (28, .int .i64 (J.o.len (J.o.sub os 0 (J.o.mn (J.o.len os) 100)))), (27, .sl 5 (J.o.sub os 0 (J.o.mn (J.o.len os) 100)) .no), (6, .int .i64 e2), (5, .int .i64 r2), (4, .int .i64 e2), (3, .int .i64 r2)], [], 47⟩) (fun | q => (0 ≤ q) ∧ (q ≤ m)) (fun | q => (m + 1 - q).toNat) 0 ?_ ?_ ?_ ?_
  · exact ⟨Int.le_refl _, hm4.1⟩
  · refine ⟨?_, ?_, rfl, rfl⟩
    · cbv
      try exact ⟨rfl, trivial⟩
    · cbv
  · rintro q; exact Nat.le_of_ble_eq_true rfl
  rintro q hinv Nx Nxh
  obtain ⟨q0, qm⟩ : (0 ≤ q) ∧ (q ≤ m) := hinv
  obtain ⟨q1, hq1⟩ : ∃ q1 : Int, q1 = q + 1 := ⟨_, rfl⟩
  have hN : ∀ env (q' : Int) v, (0 ≤ q') ∧ (q' ≤ m) → (m + 1 - q').toNat < (m + 1 - q).toNat → wkEnv env [(29, .int .i64 q'), (28, .int .i64 (J.o.len (J.o.sub os 0 (J.o.mn (J.o.len os) 100)))), (27, .sl 5 (J.o.sub os 0 (J.o.mn (J.o.len os) 100)) .no), (6, .int .i64 e2), (5, .int .i64 r2), (4, .int .i64 e2), (3, .int .i64 r2)] → Nx ⟨env, [] ++ v, 47⟩ := fun env q' v h1 h2 h3 => Nxh _ q' h1 h2 ⟨h3, by cbv, rfl, rfl⟩
  clear Nxh
  all_goals cbv
  repeat' (first
    | with_reducible exact id
    | exact trivial
    | with_reducible refine fit_bool h ?_
    | (with_reducible refine op_sub hJ hos ?_; intro ok op of oa oes; cbv)
    | (with_reducible refine op_is hJ hos ho hoes ?_; cbv)
    | (with_reducible refine op_in hJ hos ?_; intro ok op of oa oes oil hoes hop; cbv)
    | (with_reducible refine ed_in hJ hes ?_; intro xf xp hed; cbv)
    | (with_reducible refine ed_in hJ hoes ?_; intro xf xp hed; cbv)
    | (with_reducible refine ports_at hJ ?_; intros)
    | (with_reducible refine ports'_at hJ ?_; intros)
    | (with_reducible refine ports_pure hJ ?_; intros)
    | (with_reducible refine ports'_pure hJ ?_; intros)
    | intro hh
    | with_reducible refine And.intro ?_ ?_
    | (with_reducible first | refine awp_go ?_ | refine aops_go ?_ | refine strip_go ?_ | refine draw_go ?_ | refine frames_go ?_); cbv)
  all_goals first
    | (refine hN _ q1 _ ⟨?_, ?_⟩ ?_ ?_ <;> first | (with_reducible refine wkEnv_go' ?_; cbv; clear h hN; subst hJ; simp only [std, stdOps] at *; grind [wrap64]) | (clear h hN; subst hJ; simp only [std, stdOps] at *; grind [wrap64]))
    | (clear h hN; subst hJ; simp only [std, stdOps] at *; grind)

end Go.Proofs.Ytilffanmaicakaa.A
