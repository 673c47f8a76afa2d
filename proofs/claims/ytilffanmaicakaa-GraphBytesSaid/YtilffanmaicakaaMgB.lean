/- graph.Check. -/
import Derived.Test.YtilffanmaicakaaMgA

namespace Go.Proofs.Ytilffanmaicakaa.A
open Go Go.Pt Go.Gr

theorem at_of {l : List Gr.Op} {L i : Int} (hL : Ln L l) (h0 : 0 ≤ i) (h : i < L) : ∃ o, l[i.toNat]? = some o := by
  unfold Ln at hL; exact ⟨_, List.getElem?_eq_getElem (by omega)⟩
theorem nodup_at {l : List Gr.Op} {n L i : Int} (hL : Ln L l) (_h0 : 0 ≤ i) (hi : i ≤ L) (h : ∀ j : Int, 0 ≤ j → j < i → fault ⟨n, l⟩ j.toNat = 0) : (flat l i.toNat).Nodup := by
  unfold Ln at hL
  exact flat_nodup (g := ⟨n, l⟩) (by simp only; omega) (fun j hj => by have := h j (by omega) (by omega); simpa using this)
theorem fault_int {l : List Gr.Op} {n i ok op of oa : Int} {oil : List Ed} (h0 : 0 ≤ i) (ho : l[i.toNat]? = some ⟨ok, op, of, oa, oil⟩) :
    fault ⟨n, l⟩ i.toNat = (if ok < 1 ∨ 9 < ok then 50 else if fieldsOk ok op of oa n = false then 51 else if insOk l i ok oil = false then 52 else if ¬ (flat l (i.toNat + 1)).Nodup then 53 else 0) := by
  rw [fault_at (g := ⟨n, l⟩) ho]
  simp only [show ((i.toNat : Nat) : Int) = i by omega]
theorem enc_next {es : List (AV × AV)} {l : List Gr.Op} {i i1 : Int} (h0 : 0 ≤ i) (h1 : i1 = i + 1) (h : EncT es (flat l (i.toNat + 1))) : EncT es (flat l i1.toNat) := by rw [h1, show (i + 1).toNat = i.toNat + 1 by omega]; exact h
theorem fault_next {g : Gr.G} {i i1 : Int} (_h0 : 0 ≤ i) (h1 : i1 = i + 1) (h : ∀ j : Int, 0 ≤ j → j < i → fault g j.toNat = 0) (hi : fault g i.toNat = 0) : ∀ j : Int, 0 ≤ j → j < i1 → fault g j.toNat = 0 := by
  intro j hj hj'
  by_cases h2 : j < i
  · exact h j hj h2
  · rw [show j = i by omega]; exact hi
theorem chk_fault {n L i r : Int} {l : List Gr.Op} (hn : 1 ≤ n ∧ n ≤ 4) (hL : Ln L l) (hL24 : L ≤ 24) (h0 : 0 ≤ i) (hi : i < L) (hF : ∀ j : Int, 0 ≤ j → j < i → fault ⟨n, l⟩ j.toNat = 0) (hr : r = fault ⟨n, l⟩ i.toNat) (hr0 : r ≠ 0) : Chk ⟨n, l⟩ i r := by
  unfold Ln at hL
  have := Chk.fault (g := ⟨n, l⟩) hn (by simp only; omega) i.toNat (fun j hj => by have := hF j (by omega) (by omega); simpa using this) (by simp only; omega) (hr ▸ hr0)
  rw [← hr, show ((i.toNat : Nat) : Int) = i by omega] at this
  exact this
theorem okS_c1 {env : List (Nat × AV)} {cs : List AV} {es : List (AV × AV)} {T : List Ed} {n : Nat} (hE : EncT es T) (h : okS ⟨env, [.var cs, .mp []], n⟩ = true) : okS ⟨env, [.var cs, .mp es], n⟩ = true := by
  simp only [okS, lenN, List.all_cons, List.all_nil, Bool.and_eq_true, Nat.reduceAdd] at h ⊢
  refine ⟨h.1, h.2.1, ?_, trivial⟩
  simp only [okE, List.all_eq_true, Bool.and_eq_true]
  intro x hx
  have hx1 : x.1 ∈ es.map (·.1) := List.mem_map_of_mem hx
  rw [hE.1] at hx1
  obtain ⟨y, _, hy⟩ := List.mem_map.1 hx1
  refine ⟨by rw [← hy]; rfl, ?_⟩
  rcases hE.2 x hx with h | h <;> rw [h] <;> rfl
theorem okS_c2 {env : List (Nat × AV)} {cs xs : List AV} {es : List (AV × AV)} {T : List Ed} {n : Nat} (hE : EncT es T) (h : okS ⟨env, [.var cs, .mp [], .vec 1 []], n⟩ = true) : okS ⟨env, [.var cs, .mp es, .vec 1 xs], n⟩ = true := by
  simp only [okS, lenN, List.all_cons, List.all_nil, Bool.and_eq_true, Nat.reduceAdd] at h ⊢
  refine ⟨h.1, h.2.1, ?_, rfl, trivial⟩
  simp only [okE, List.all_eq_true, Bool.and_eq_true]
  intro x hx
  have hx1 : x.1 ∈ es.map (·.1) := List.mem_map_of_mem hx
  rw [hE.1] at hx1
  obtain ⟨y, _, hy⟩ := List.mem_map.1 hx1
  refine ⟨by rw [← hy]; rfl, ?_⟩
  rcases hE.2 x hx with h | h <;> rw [h] <;> rfl

def SinkIs (s : Int) (l : List Gr.Op) : Prop := s = (sinks l : Int)
/-- The first operator with a port that leads nowhere, so far. -/
def LooseIs (n : Int) (l : List Gr.Op) (q : Int) (is : Bool) (lo : Int) : Prop :=
  (is = false ∧ ∀ j : Int, 0 ≤ j → j < q → ¬ loose ⟨n, l⟩ j.toNat) ∨ (is = true ∧ 0 ≤ lo ∧ loose ⟨n, l⟩ lo.toNat ∧ ∀ j : Int, 0 ≤ j → j < lo → ¬ loose ⟨n, l⟩ j.toNat)
theorem take_succ' {l : List Gr.Op} {q q1 : Int} {o : Gr.Op} (hq1 : q1 = q + 1) (q0 : 0 ≤ q) (ho : l[q.toNat]? = some o) : l.take q1.toNat = l.take q.toNat ++ [o] := by
  rw [hq1, show (q + 1).toNat = q.toNat + 1 by omega, List.take_add_one, ho]; rfl
theorem sink_same {l : List Gr.Op} {q q1 s k p f a : Int} {il : List Ed} (hq1 : q1 = q + 1) (q0 : 0 ≤ q) (ho : l[q.toNat]? = some ⟨k, p, f, a, il⟩) (hs : SinkIs s (l.take q.toNat)) (hk : k ≠ 9) : SinkIs s (l.take q1.toNat) := by
  unfold SinkIs sinks at *
  rw [take_succ' hq1 q0 ho, List.countP_append]; simp [hk, hs]
theorem sink_more {J : Jd} {n₀ : Nat} (hJ : J = std Try.prog n₀) {l : List Gr.Op} {L q q1 s k p f a : Int} {il : List Ed} (hq1 : q1 = q + 1) (q0 : 0 ≤ q) (ho : l[q.toNat]? = some ⟨k, p, f, a, il⟩) (hL : Ln L l) (hL24 : L ≤ 24) (hs : SinkIs s (l.take q.toNat)) (hk : k = 9) : SinkIs (J.o.ar .add .i64 s 1) (l.take q1.toNat) := by
  unfold SinkIs sinks at *
  have h1 := List.countP_le_length (p := fun o : Gr.Op => decide (o.k = 9)) (l := l.take q.toNat)
  unfold Ln at hL
  simp only [List.length_take] at h1
  rw [take_succ' hq1 q0 ho, List.countP_append]
  subst hJ
  simp only [std, stdOps]
  rw [wrap64 (by omega) (by omega)]; simp [hk, hs]
theorem row_same {xs : List AV} {l : List Gr.Op} {n q q1 k p f a : Int} {il : List Ed} (hq1 : q1 = q + 1) (q0 : 0 ≤ q) (ho : l[q.toNat]? = some ⟨k, p, f, a, il⟩) (hR : RowI xs (fun r => srcs (l.take q.toNat) r) n) (hk : k ≠ 1) : RowI xs (fun r => srcs (l.take q1.toNat) r) n := by
  refine ⟨hR.1, fun r hr => ?_⟩
  rw [hR.2 r hr, take_succ' hq1 q0 ho]; simp only [srcs, List.countP_append]; simp [hk]
theorem row_more {J : Jd} {n₀ : Nat} (hJ : J = std Try.prog n₀) {xs : List AV} {l : List Gr.Op} {L n q q1 k p f a : Int} {il : List Ed} (hq1 : q1 = q + 1) (q0 : 0 ≤ q) (ho : l[q.toNat]? = some ⟨k, p, f, a, il⟩) (hL : Ln L l) (hL24 : L ≤ 24) (hR : RowI xs (fun r => srcs (l.take q.toNat) r) n) (hk : k = 1) (hp : 0 ≤ p ∧ p < n) :
    RowI (J.o.upd xs (J.o.sum 0 p) (.int .i64 (J.o.ar .add .i64 (srcs (l.take q.toNat) p.toNat) 1))) (fun r => srcs (l.take q1.toNat) r) n := by
  refine upd_row hJ hR hp fun r => ?_
  have h1 := List.countP_le_length (p := fun o : Gr.Op => decide (o.k = 1) && decide (o.p = (p.toNat : Int))) (l := l.take q.toNat)
  unfold Ln at hL
  simp only [List.length_take] at h1
  rw [take_succ' hq1 q0 ho]
  split
  · rename_i hr; subst hr hJ
    simp only [std, stdOps, srcs] at h1 ⊢
    rw [wrap64 (by omega) (by omega), List.countP_append]; simp [hk, show max p 0 = p by omega]
  · rename_i hr
    unfold srcs; rw [List.countP_append]
    have : ¬ p = (r : Int) := by omega
    simp [this]
theorem in_b {J : Jd} {n₀ : Nat} (hJ : J = std Try.prog n₀) {p n : Int} (hp : 0 ≤ p ∧ p < n) : J.o.inb p n := by
  subst hJ; exact hp
theorem in_row {J : Jd} {n₀ : Nat} (hJ : J = std Try.prog n₀) {p n : Int} {xs : List AV} {c : Nat → Int} (hR : RowI xs c n) (hp : 0 ≤ p ∧ p < n) : J.o.inb (J.o.sum 0 p) (J.o.len xs) := by
  rw [len_row hJ hR]; subst hJ; simp only [std, stdOps]; omega
theorem mem_succ {T : List Ed} {q p p1 : Int} (_p0 : 0 ≤ p) (hp1 : p1 = p + 1) (hp : ∀ r : Int, 0 ≤ r → r < p → (⟨q, r⟩ : Ed) ∈ T) (hin : (⟨q, p⟩ : Ed) ∈ T) : ∀ r : Int, 0 ≤ r → r < p1 → (⟨q, r⟩ : Ed) ∈ T := by
  intro r h1 h2
  by_cases h : r < p
  · exact hp r h1 h
  · rw [show r = p by omega]; exact hin
theorem flat_big {l : List Gr.Op} {L : Int} (hL : Ln L l) : flat l L.toNat = flat l l.length := by unfold Ln at hL; rw [show L.toNat = l.length by omega]
theorem loose_all {n L q q1 lo k p f a P : Int} {l : List Gr.Op} {il : List Ed} (hL : Ln L l) (_q0 : 0 ≤ q) (hq1 : q1 = q + 1) (hlo : LooseIs n l q false lo) (ho : l[q.toNat]? = some ⟨k, p, f, a, il⟩) (hp : ∀ r : Int, 0 ≤ r → r < P → (⟨q, r⟩ : Ed) ∈ flat l L.toNat) (hP : P = ports k a) : LooseIs n l q1 false lo := by
  rcases hlo with ⟨_, h⟩ | ⟨h, _⟩
  · refine .inl ⟨rfl, fun j h1 h2 => ?_⟩
    by_cases hj : j < q
    · exact h j h1 hj
    · rw [show j = q by omega]
      rintro ⟨o, ho', r, h3, h4, h5⟩
      simp only [ho] at ho'
      obtain rfl := Option.some.inj ho'
      simp only [show ((q.toNat : Nat) : Int) = q by omega] at h5
      rw [flat_big hL] at hp
      exact h5 (hp r h3 (by rw [hP]; exact h4))
  · simp at h
theorem loose_new {n L q q1 lo k p f a P : Int} {l : List Gr.Op} {il : List Ed} (hL : Ln L l) (q0 : 0 ≤ q) (hlo : LooseIs n l q false lo) (ho : l[q.toNat]? = some ⟨k, p, f, a, il⟩) (h0 : 0 ≤ P) (hP : P < ports k a) (hin : (⟨q, P⟩ : Ed) ∉ flat l L.toNat) : LooseIs n l q1 true q := by
  rcases hlo with ⟨_, h⟩ | ⟨h, _⟩
  · refine .inr ⟨rfl, q0, ⟨_, ho, P, h0, hP, ?_⟩, h⟩
    simp only [show ((q.toNat : Nat) : Int) = q by omega]
    rwa [flat_big hL] at hin
  · simp at h
theorem loose_old {n q q1 lo : Int} {l : List Gr.Op} (hlo : LooseIs n l q true lo) : LooseIs n l q1 true lo := by
  rcases hlo with ⟨h, _⟩ | h
  · simp at h
  · exact .inr h
theorem all_ok {n L : Int} {l : List Gr.Op} (hL : Ln L l) (hF : ∀ j : Int, 0 ≤ j → j < L → fault ⟨n, l⟩ j.toNat = 0) : ∀ j, j < l.length → fault ⟨n, l⟩ j = 0 := by
  unfold Ln at hL
  intro j hj
  have := hF j (by omega) (by omega)
  simpa using this
theorem chk_loose {n L q lo : Int} {l : List Gr.Op} (hn : 1 ≤ n ∧ n ≤ 4) (hL : Ln L l) (hL24 : L ≤ 24) (hF : ∀ j : Int, 0 ≤ j → j < L → fault ⟨n, l⟩ j.toNat = 0) (hlo : LooseIs n l q true lo) : Chk ⟨n, l⟩ lo 54 := by
  rcases hlo with ⟨h, _⟩ | ⟨_, h0, h1, h2⟩
  · simp at h
  · have := Chk.loose (g := ⟨n, l⟩) hn (by unfold Ln at hL; simp only; omega) (all_ok hL hF) lo.toNat (fun j hj => by have := h2 j (by omega) (by omega); simpa using this) h1
    rwa [show ((lo.toNat : Nat) : Int) = lo by omega] at this
theorem no_loose {n L q lo : Int} {l : List Gr.Op} (hL : Ln L l) (hlo : LooseIs n l q false lo) (hq : q = L) : ∀ j, ¬ loose ⟨n, l⟩ j := by
  subst hq
  rcases hlo with ⟨_, h⟩ | ⟨h, _⟩
  · intro j hj
    have hj' := hj
    obtain ⟨o, ho, _⟩ := hj'
    have hlt := lt_of_get ho
    unfold Ln at hL
    have := h j (by omega) (by simp only at hlt; omega)
    simp only [Int.toNat_natCast] at this
    exact this hj
  · simp at h
theorem take_all {L q : Int} {l : List Gr.Op} (hL : Ln L l) (hq : q = L) : l.take q.toNat = l := by unfold Ln at hL; subst hq hL; simp
theorem chk_part {n L q lo : Int} {l : List Gr.Op} {rc : Bool} (hn : 1 ≤ n ∧ n ≤ 4) (hL : Ln L l) (hL24 : L ≤ 24) (hF : ∀ j : Int, 0 ≤ j → j < L → fault ⟨n, l⟩ j.toNat = 0) (hlo : LooseIs n l q false lo) (hq : q = L)
    (hrc : rc = true ↔ ∃ p : Nat, (p : Int) < n ∧ ((srcs (l.take q.toNat) p : Nat) : Int) ≠ 1) (hc : rc = true) : Chk ⟨n, l⟩ 0 55 := by
  rw [take_all hL hq] at hrc
  obtain ⟨p, h1, h2⟩ := hrc.1 hc
  exact .part hn (by unfold Ln at hL; simp only; omega) (all_ok hL hF) (no_loose hL hlo hq) p ⟨by omega, h1⟩ (by simp only; omega)
theorem srcs_one {n L q : Int} {l : List Gr.Op} {rc : Bool} (hL : Ln L l) (hq : q = L) (hrc : rc = true ↔ ∃ p : Nat, (p : Int) < n ∧ ((srcs (l.take q.toNat) p : Nat) : Int) ≠ 1) (hc : rc = false) : ∀ p : Int, 0 ≤ p → p < n → srcs l p = 1 := by
  rw [take_all hL hq] at hrc
  intro p h1 h2
  apply Classical.byContradiction
  intro hne
  have := hrc.2 ⟨p.toNat, by omega, by rw [show ((p.toNat : Nat) : Int) = p by omega]; omega⟩
  rw [hc] at this; simp at this
theorem chk_sink {n L q lo s : Int} {l : List Gr.Op} {rc : Bool} (hn : 1 ≤ n ∧ n ≤ 4) (hL : Ln L l) (hL24 : L ≤ 24) (hF : ∀ j : Int, 0 ≤ j → j < L → fault ⟨n, l⟩ j.toNat = 0) (hlo : LooseIs n l q false lo) (hq : q = L)
    (hrc : rc = true ↔ ∃ p : Nat, (p : Int) < n ∧ ((srcs (l.take q.toNat) p : Nat) : Int) ≠ 1) (hc : rc = false) (hs : SinkIs s (l.take q.toNat)) (h1 : s ≠ 1) : Chk ⟨n, l⟩ 0 56 := by
  rw [take_all hL hq] at hs
  unfold SinkIs at hs
  exact .sink hn (by unfold Ln at hL; simp only; omega) (all_ok hL hF) (no_loose hL hlo hq) (srcs_one hL hq hrc hc) (by simp only; omega)
theorem chk_ok {n L q lo s : Int} {l : List Gr.Op} {rc : Bool} (hn : 1 ≤ n ∧ n ≤ 4) (hL : Ln L l) (hL24 : L ≤ 24) (hF : ∀ j : Int, 0 ≤ j → j < L → fault ⟨n, l⟩ j.toNat = 0) (hlo : LooseIs n l q false lo) (hq : q = L)
    (hrc : rc = true ↔ ∃ p : Nat, (p : Int) < n ∧ ((srcs (l.take q.toNat) p : Nat) : Int) ≠ 1) (hc : rc = false) (hs : SinkIs s (l.take q.toNat)) (h1 : s = 1) : Chk ⟨n, l⟩ 0 0 := by
  rw [take_all hL hq] at hs
  unfold SinkIs at hs
  exact .ok hn (by unfold Ln at hL; simp only; omega) (all_ok hL hF) (no_loose hL hlo hq) (srcs_one hL hq hrc hc) (by simp only; omega)

set_option maxHeartbeats 8000000 in
set_option maxRecDepth 100000 in
theorem check_call (n : Int) (l : List Gr.Op) (os : List AV) (hos : os = l.map Gr.Op.av) (L : Int) (hL : Ln L l) (hLL : L < 2 ^ 48) (K E) (h : ∀ r e, Chk ⟨n, l⟩ r e → K (.tup [.int .i64 r, .int .i64 e]) []) :
    CallA Try.prog 26 [.agg [.int .i64 n, .sl 5 os .no]] [] K E := by
  have hL0 : 0 ≤ L := by unfold Ln at hL; omega
  refine call_fn (n₀ := 0) tabC_ok [] Try.func26 rfl rfl rfl rfl (by decide) ?_
  intro J hJ
  have hlos : J.o.len os = L := by subst hJ hos; unfold Ln at hL; simp [std, stdOps, hL]
  cbv
  repeat' (first
    | with_reducible exact id
    | exact trivial
    | (with_reducible refine op_is hJ hos ho hoes ?_; cbv)
    | (with_reducible refine op_in hJ hos ?_; intro ok op of oa oes oil hoes hop; cbv)
    | (with_reducible refine ed_in hJ hes ?_; intro xf xp hed; cbv)
    | (with_reducible refine ed_in hJ hoes ?_; intro xf xp hed; cbv)
    | intro hh
    | with_reducible refine And.intro ?_ ?_
    | (with_reducible first | refine awp_go ?_ | refine aops_go ?_ | refine strip_go ?_ | refine draw_go ?_ | refine frames_go ?_); cbv)
  all_goals first
    | (refine h _ _ (.arg ?_); clear h ; subst hJ; simp only [std, stdOps] at *; grind)
    | (refine h _ _ (.long ?_ ?_) <;> (unfold Ln at hL; clear h ; subst hJ; simp only [std, stdOps] at *; grind))
    | (clear h ; subst hJ; simp only [std, stdOps] at *; grind)
    | skip
  have hn : 1 ≤ n ∧ n ≤ 4 := by clear h ; subst hJ; simp only [std, stdOps] at *; grind
  have hL24 : L ≤ 24 := by clear h ; subst hJ; simp only [std, stdOps] at *; grind
  refine loop_at (β := Int × List (AV × AV)) hJ tabC_ok (fun | (i, et) => ⟨[(32, .int .i64 i), (31, .int .i64 (J.o.len os)), (4, .mp 1), (1, .ptr 0 0)], [.var [.int .i64 n, .sl 5 os .no], .mp et], 94⟩) (fun | (i, et) => (0 ≤ i) ∧ (i ≤ L) ∧ (EncT et (flat l i.toNat)) ∧ (∀ j : Int, 0 ≤ j → j < i → fault ⟨n, l⟩ j.toNat = 0)) (fun | (i, et) => (L + 1 - i).toNat) (0, []) ?_ ?_ ?_ ?_
  · exact ⟨Int.le_refl _, hL0, ⟨rfl, fun x hx => by simp at hx⟩, fun j hj hj' => by omega⟩
  · refine ⟨?_, ?_, rfl, rfl⟩
    · cbv
      try exact ⟨rfl, trivial⟩
    · cbv
  · rintro ⟨i, et⟩; exact Nat.le_of_ble_eq_true rfl
  rintro ⟨i, et⟩ hinv Nx Nxh
  obtain ⟨i0, iL, hE, hF⟩ : (0 ≤ i) ∧ (i ≤ L) ∧ (EncT et (flat l i.toNat)) ∧ (∀ j : Int, 0 ≤ j → j < i → fault ⟨n, l⟩ j.toNat = 0) := hinv
  obtain ⟨i1, hi1⟩ : ∃ i1 : Int, i1 = i + 1 := ⟨_, rfl⟩
  have hM1 : ∀ env (i' : Int) (et' : List (AV × AV)) v, (0 ≤ i') ∧ (i' ≤ L) ∧ (EncT et' (flat l i'.toNat)) ∧ (∀ j : Int, 0 ≤ j → j < i' → fault ⟨n, l⟩ j.toNat = 0) → (L + 1 - i').toNat < (L + 1 - i).toNat → wkEnv env [(32, .int .i64 i'), (31, .int .i64 (J.o.len os)), (4, .mp 1), (1, .ptr 0 0)] → Nx ⟨env, [.var [.int .i64 n, .sl 5 os .no], .mp et'] ++ v, 94⟩ := fun env i' et' v h1 h2 h3 => Nxh _ (i', et') h1 h2 ⟨h3, by cbv, okS_c1 h1.2.2.1 rfl, rfl⟩
  clear Nxh
  all_goals cbv
  repeat' (first
    | with_reducible exact id
    | exact trivial
    | (obtain ⟨⟨ok, op, of, oa, oil⟩, ho⟩ : ∃ o, l[i.toNat]? = some o := at_of hL (by assumption) (by clear h hM1; subst hJ; simp only [std, stdOps] at *; grind)
       obtain ⟨oes, hoes⟩ : ∃ es, es = oil.map Ed.av := ⟨_, rfl⟩
       refine call_in hJ [1] (by decide) rfl rfl rfl (one_call n i l os hos L hL (by clear h hM1; subst hJ; simp only [std, stdOps] at *; grind) (by omega) ok op of oa oil oes hoes ho (flat l i.toNat) (nodup_at hL i0 iL hF) _ (ren_t hE) _ _ ?_)
       intro r es' hr hE'; rw [← flat_succ ho] at hr hE'; replace hr := hr.trans (fault_int i0 ho).symm; cbv)
    | (with_reducible refine op_is hJ hos ho hoes ?_; cbv)
    | (with_reducible refine op_in hJ hos ?_; intro ok op of oa oes oil hoes hop; cbv)
    | (with_reducible refine ed_in hJ hes ?_; intro xf xp hed; cbv)
    | (with_reducible refine ed_in hJ hoes ?_; intro xf xp hed; cbv)
    | intro hh
    | with_reducible refine And.intro ?_ ?_
    | (with_reducible first | refine awp_go ?_ | refine aops_go ?_ | refine strip_go ?_ | refine draw_go ?_ | refine frames_go ?_); cbv)
  all_goals first
    | (refine h _ _ (chk_fault hn hL hL24 i0 (by clear h hM1; subst hJ; simp only [std, stdOps] at *; grind) hF hr (by clear h hM1; subst hJ; simp only [std, stdOps] at *; grind)))
    | (refine hM1 _ i1 _ _ ⟨?_, ?_, enc_next i0 hi1 (by have kk := ren_t (g := up [1] 2) (hE' (by clear h hM1; subst hJ; simp only [std, stdOps] at *; grind)); revert kk; clear hr hE' hM1; cases es' <;> exact id), fault_next i0 hi1 hF (hr.symm.trans (by clear h hM1; subst hJ; simp only [std, stdOps] at *; grind))⟩ ?_ ?_ <;> first | (with_reducible refine wkEnv_go' ?_; cbv; clear h hM1; subst hJ; simp only [std, stdOps] at *; grind [wrap64]) | (clear h hM1; subst hJ; simp only [std, stdOps] at *; grind [wrap64]))
    | (clear h hM1; subst hJ; simp only [std, stdOps] at *; grind)
    | skip
  have hiL : i = L := by clear h hM1; subst hJ; simp only [std, stdOps] at *; grind
  rw [hiL] at hE hF
  refine loop_at (β := Int × List AV × Int × Int × Bool) hJ tabC_ok (fun | (q, xs, s, lo, is) => ⟨[(50, .int .i64 q), (49, .int .i64 (J.o.len os)), (48, .sl 5 os .no), (10, .bl is), (9, .int .i64 lo), (8, .int .i64 s), (7, .vs 2 1 0 n n), (4, .mp 1), (1, .ptr 0 0)], [.var [.int .i64 n, .sl 5 os .no], .mp et, .vec 1 xs], 94⟩) (fun | (q, xs, s, lo, is) => (0 ≤ q) ∧ (q ≤ L) ∧ (RowI xs (fun r => srcs (l.take q.toNat) r) n) ∧ (SinkIs s (l.take q.toNat)) ∧ (LooseIs n l q is lo)) (fun | (q, xs, s, lo, is) => (L + 1 - q).toNat) (0, J.o.rep n (.int .i64 0), 0, 0, false) ?_ ?_ ?_ ?_
  · exact ⟨Int.le_refl _, hL0, rep_row hJ (by omega), rfl, .inl ⟨rfl, fun j h1 h2 => by omega⟩⟩
  · refine ⟨?_, ?_, okS_c2 hE rfl, rfl⟩
    · cbv
      try exact ⟨rfl, trivial⟩
    · cbv
  · rintro ⟨q, xs, s, lo, is⟩; exact Nat.le_of_ble_eq_true rfl
  rintro ⟨q, xs, s, lo, is⟩ hinv2 Ny Nyh
  obtain ⟨q0, qL, hR, hs, hlo⟩ : (0 ≤ q) ∧ (q ≤ L) ∧ (RowI xs (fun r => srcs (l.take q.toNat) r) n) ∧ (SinkIs s (l.take q.toNat)) ∧ (LooseIs n l q is lo) := hinv2
  obtain ⟨q1, hq1⟩ : ∃ q1 : Int, q1 = q + 1 := ⟨_, rfl⟩
  have hM2 : ∀ env (q' : Int) (xs' : List AV) (s' : Int) (lo' : Int) (is' : Bool) v, (0 ≤ q') ∧ (q' ≤ L) ∧ (RowI xs' (fun r => srcs (l.take q'.toNat) r) n) ∧ (SinkIs s' (l.take q'.toNat)) ∧ (LooseIs n l q' is' lo') → (L + 1 - q').toNat < (L + 1 - q).toNat → wkEnv env [(50, .int .i64 q'), (49, .int .i64 (J.o.len os)), (48, .sl 5 os .no), (10, .bl is'), (9, .int .i64 lo'), (8, .int .i64 s'), (7, .vs 2 1 0 n n), (4, .mp 1), (1, .ptr 0 0)] → Ny ⟨env, [.var [.int .i64 n, .sl 5 os .no], .mp et, .vec 1 xs'] ++ v, 94⟩ := fun env q' xs' s' lo' is' v h1 h2 h3 => Nyh _ (q', xs', s', lo', is') h1 h2 ⟨h3, by cbv, okS_c2 hE rfl, rfl⟩
  clear Nyh
  rcases is with _ | _
  all_goals cbv
  all_goals
    repeat' (first
      | with_reducible exact id
      | exact trivial
      | (with_reducible refine ports_at hJ ?_; intro P hP)
      | (refine get_row hJ hR (src_part (g := ⟨n, l⟩) hop (hF q q0 (by clear h hM2; subst hJ; simp only [std, stdOps] at *; grind)) (by clear h hM2; subst hJ; simp only [std, stdOps] at *; grind)) ?_; cbv)
      | (refine call_in hJ [2] (by decide) rfl rfl rfl (contains1_call _ _ n hR (by omega) _ _ ?_); intro rc hrc; cbv)
      | (with_reducible refine op_is hJ hos ho hoes ?_; cbv)
      | (with_reducible refine op_in hJ hos ?_; intro ok op of oa oes oil hoes hop; cbv)
      | (with_reducible refine ed_in hJ hes ?_; intro xf xp hed; cbv)
      | (with_reducible refine ed_in hJ hoes ?_; intro xf xp hed; cbv)
      | intro hh
      | with_reducible refine And.intro ?_ ?_
      | (with_reducible first | refine awp_go ?_ | refine aops_go ?_ | refine strip_go ?_ | refine draw_go ?_ | refine frames_go ?_); cbv)
  all_goals first
    | (clear h hM2; subst hJ; simp only [std, stdOps] at *; grind)
    | (exact in_b hJ (src_part (g := ⟨n, l⟩) hop (hF q q0 (by clear h hM2; subst hJ; simp only [std, stdOps] at *; grind)) (by clear h hM2; subst hJ; simp only [std, stdOps] at *; grind)))
    | (exact in_row hJ hR (src_part (g := ⟨n, l⟩) hop (hF q q0 (by clear h hM2; subst hJ; simp only [std, stdOps] at *; grind)) (by clear h hM2; subst hJ; simp only [std, stdOps] at *; grind)))
    | (refine h _ _ (chk_loose hn hL hL24 hF hlo))
    | (refine h _ _ (chk_part hn hL hL24 hF hlo (by clear h hM2; subst hJ; simp only [std, stdOps] at *; grind) hrc (by assumption)))
    | (refine h _ _ (chk_sink hn hL hL24 hF hlo (by clear h hM2; subst hJ; simp only [std, stdOps] at *; grind) hrc (by assumption) hs (by clear h hM2; subst hJ; simp only [std, stdOps] at *; grind)))
    | (refine h _ _ (chk_ok hn hL hL24 hF hlo (by clear h hM2; subst hJ; simp only [std, stdOps] at *; grind) hrc (by assumption) hs (by clear h hM2; subst hJ; simp only [std, stdOps] at *; grind)))
    | (refine loop_at (β := Int × Int × List AV) hJ tabC_ok (fun | (p, s2, xs2) => ⟨[(72, .int .i64 p), (71, .int .i64 P), (11, .int .i64 q), (50, .int .i64 q), (49, .int .i64 (J.o.len os)), (48, .sl 5 os .no), (10, .bl false), (9, .int .i64 lo), (8, .int .i64 s2), (7, .vs 2 1 0 n n), (4, .mp 1), (1, .ptr 0 0)], [.var [.int .i64 n, .sl 5 os .no], .mp et, .vec 1 xs2], 94⟩) (fun | (p, s2, xs2) => (0 ≤ p) ∧ (p ≤ P) ∧ (RowI xs2 (fun r => srcs (l.take q1.toNat) r) n) ∧ (SinkIs s2 (l.take q1.toNat)) ∧ (∀ r : Int, 0 ≤ r → r < p → (⟨q, r⟩ : Ed) ∈ flat l L.toNat)) (fun | (p, s2, xs2) => (P + 1 - p).toNat) (0, s, xs) ?_ ?_ ?_ ?_
       · exact ⟨Int.le_refl _, by rw [hP]; exact (ports_le _ _).1, row_same hq1 q0 hop hR (by clear h hM2; subst hJ; simp only [std, stdOps] at *; grind), sink_same hq1 q0 hop hs (by clear h hM2; subst hJ; simp only [std, stdOps] at *; grind), fun r h1 h2 => by omega⟩
       · refine ⟨?_, ?_, okS_c2 hE rfl, rfl⟩
         · cbv
           try exact ⟨rfl, trivial⟩
         · cbv
       · rintro ⟨p, s2, xs2⟩; exact Nat.le_of_ble_eq_true rfl
       rintro ⟨p, s2, xs2⟩ hinv3 Nz Nzh
       obtain ⟨p0, pP, hR3, hs3, hp⟩ : (0 ≤ p) ∧ (p ≤ P) ∧ (RowI xs2 (fun r => srcs (l.take q1.toNat) r) n) ∧ (SinkIs s2 (l.take q1.toNat)) ∧ (∀ r : Int, 0 ≤ r → r < p → (⟨q, r⟩ : Ed) ∈ flat l L.toNat) := hinv3
       obtain ⟨p1, hp1⟩ : ∃ p1 : Int, p1 = p + 1 := ⟨_, rfl⟩
       have hpl := (ports_le ok oa).2
       have hM3 : ∀ env (p' : Int) (s2' : Int) (xs2' : List AV) v, (0 ≤ p') ∧ (p' ≤ P) ∧ (RowI xs2' (fun r => srcs (l.take q1.toNat) r) n) ∧ (SinkIs s2' (l.take q1.toNat)) ∧ (∀ r : Int, 0 ≤ r → r < p' → (⟨q, r⟩ : Ed) ∈ flat l L.toNat) → (P + 1 - p').toNat < (P + 1 - p).toNat → wkEnv env [(72, .int .i64 p'), (71, .int .i64 P), (11, .int .i64 q), (50, .int .i64 q), (49, .int .i64 (J.o.len os)), (48, .sl 5 os .no), (10, .bl false), (9, .int .i64 lo), (8, .int .i64 s2'), (7, .vs 2 1 0 n n), (4, .mp 1), (1, .ptr 0 0)] → Nz ⟨env, [.var [.int .i64 n, .sl 5 os .no], .mp et, .vec 1 xs2'] ++ v, 94⟩ := fun env p' s2' xs2' v h1 h2 h3 => Nzh _ (p', s2', xs2') h1 h2 ⟨h3, by cbv, okS_c2 hE rfl, rfl⟩
       clear Nzh
       all_goals cbv
       repeat' (first
         | with_reducible exact id
         | exact trivial
         | (with_reducible refine look_t hJ hE ?_ ?_ <;> intro hin <;> cbv)
         | (with_reducible refine look_f hJ hE ?_; intro hin)
         | (with_reducible refine op_is hJ hos ho hoes ?_; cbv)
         | (with_reducible refine op_in hJ hos ?_; intro ok op of oa oes oil hoes hop; cbv)
         | (with_reducible refine ed_in hJ hes ?_; intro xf xp hed; cbv)
         | (with_reducible refine ed_in hJ hoes ?_; intro xf xp hed; cbv)
         | intro hh
         | with_reducible refine And.intro ?_ ?_
         | (with_reducible first | refine awp_go ?_ | refine aops_go ?_ | refine strip_go ?_ | refine draw_go ?_ | refine frames_go ?_); cbv)
       all_goals first
         | (refine hM3 _ p1 s2 xs2 _ ⟨?_, ?_, hR3, hs3, mem_succ p0 hp1 hp hin⟩ ?_ ?_ <;> first | (with_reducible refine wkEnv_go' ?_; cbv; clear h hM2 hM3; subst hJ; simp only [std, stdOps] at *; grind [wrap64]) | (clear h hM2 hM3; subst hJ; simp only [std, stdOps] at *; grind [wrap64]))
         | (have e1 : p = ports ok oa := (by clear h hM2 hM3; subst hJ; simp only [std, stdOps] at *; grind); have e2 := loose_all hL q0 hq1 hlo hop hp e1; refine hM2 _ q1 xs2 s2 _ _ _ ⟨?_, ?_, hR3, hs3, e2⟩ ?_ ?_ <;> first | (with_reducible refine wkEnv_go' ?_; cbv; clear h hM2 hM3; subst hJ; simp only [std, stdOps] at *; grind [wrap64]) | (clear h hM2 hM3; subst hJ; simp only [std, stdOps] at *; grind) | (clear h hM2 hM3; subst hJ; simp only [std, stdOps] at *; grind [wrap64]))
         | (refine hM2 _ q1 xs2 s2 _ _ _ ⟨?_, ?_, hR3, hs3, loose_new hL q0 hlo hop p0 (by clear h hM2 hM3; subst hJ; simp only [std, stdOps] at *; grind) hin⟩ ?_ ?_ <;> first | (with_reducible refine wkEnv_go' ?_; cbv; clear h hM2 hM3; subst hJ; simp only [std, stdOps] at *; grind [wrap64]) | (clear h hM2 hM3; subst hJ; simp only [std, stdOps] at *; grind [wrap64]))
         | (refine hM2 _ q1 xs2 s2 _ _ _ ⟨?_, ?_, hR3, hs3, loose_old hlo⟩ ?_ ?_ <;> first | (with_reducible refine wkEnv_go' ?_; cbv; clear h hM2 hM3; subst hJ; simp only [std, stdOps] at *; grind [wrap64]) | (clear h hM2 hM3; subst hJ; simp only [std, stdOps] at *; grind [wrap64]))
         | (clear h hM2 hM3; subst hJ; exact mok_t hE)
         | (clear h hM2 hM3; subst hJ; simp only [std, stdOps] at *; grind))
    | (refine loop_at (β := Int × Int × List AV) hJ tabC_ok (fun | (p, s2, xs2) => ⟨[(72, .int .i64 p), (71, .int .i64 P), (11, .int .i64 q), (50, .int .i64 q), (49, .int .i64 (J.o.len os)), (48, .sl 5 os .no), (10, .bl false), (9, .int .i64 lo), (8, .int .i64 s2), (7, .vs 2 1 0 n n), (4, .mp 1), (1, .ptr 0 0)], [.var [.int .i64 n, .sl 5 os .no], .mp et, .vec 1 xs2], 94⟩) (fun | (p, s2, xs2) => (0 ≤ p) ∧ (p ≤ P) ∧ (RowI xs2 (fun r => srcs (l.take q1.toNat) r) n) ∧ (SinkIs s2 (l.take q1.toNat)) ∧ (∀ r : Int, 0 ≤ r → r < p → (⟨q, r⟩ : Ed) ∈ flat l L.toNat)) (fun | (p, s2, xs2) => (P + 1 - p).toNat) (0, (J.o.ar .add .i64 s 1), xs) ?_ ?_ ?_ ?_
       · exact ⟨Int.le_refl _, by rw [hP]; exact (ports_le _ _).1, row_same hq1 q0 hop hR (by clear h hM2; subst hJ; simp only [std, stdOps] at *; grind), sink_more hJ hq1 q0 hop hL hL24 hs (by clear h hM2; subst hJ; simp only [std, stdOps] at *; grind), fun r h1 h2 => by omega⟩
       · refine ⟨?_, ?_, okS_c2 hE rfl, rfl⟩
         · cbv
           try exact ⟨rfl, trivial⟩
         · cbv
       · rintro ⟨p, s2, xs2⟩; exact Nat.le_of_ble_eq_true rfl
       rintro ⟨p, s2, xs2⟩ hinv3 Nz Nzh
       obtain ⟨p0, pP, hR3, hs3, hp⟩ : (0 ≤ p) ∧ (p ≤ P) ∧ (RowI xs2 (fun r => srcs (l.take q1.toNat) r) n) ∧ (SinkIs s2 (l.take q1.toNat)) ∧ (∀ r : Int, 0 ≤ r → r < p → (⟨q, r⟩ : Ed) ∈ flat l L.toNat) := hinv3
       obtain ⟨p1, hp1⟩ : ∃ p1 : Int, p1 = p + 1 := ⟨_, rfl⟩
       have hpl := (ports_le ok oa).2
       have hM3 : ∀ env (p' : Int) (s2' : Int) (xs2' : List AV) v, (0 ≤ p') ∧ (p' ≤ P) ∧ (RowI xs2' (fun r => srcs (l.take q1.toNat) r) n) ∧ (SinkIs s2' (l.take q1.toNat)) ∧ (∀ r : Int, 0 ≤ r → r < p' → (⟨q, r⟩ : Ed) ∈ flat l L.toNat) → (P + 1 - p').toNat < (P + 1 - p).toNat → wkEnv env [(72, .int .i64 p'), (71, .int .i64 P), (11, .int .i64 q), (50, .int .i64 q), (49, .int .i64 (J.o.len os)), (48, .sl 5 os .no), (10, .bl false), (9, .int .i64 lo), (8, .int .i64 s2'), (7, .vs 2 1 0 n n), (4, .mp 1), (1, .ptr 0 0)] → Nz ⟨env, [.var [.int .i64 n, .sl 5 os .no], .mp et, .vec 1 xs2'] ++ v, 94⟩ := fun env p' s2' xs2' v h1 h2 h3 => Nzh _ (p', s2', xs2') h1 h2 ⟨h3, by cbv, okS_c2 hE rfl, rfl⟩
       clear Nzh
       all_goals cbv
       repeat' (first
         | with_reducible exact id
         | exact trivial
         | (with_reducible refine look_t hJ hE ?_ ?_ <;> intro hin <;> cbv)
         | (with_reducible refine look_f hJ hE ?_; intro hin)
         | (with_reducible refine op_is hJ hos ho hoes ?_; cbv)
         | (with_reducible refine op_in hJ hos ?_; intro ok op of oa oes oil hoes hop; cbv)
         | (with_reducible refine ed_in hJ hes ?_; intro xf xp hed; cbv)
         | (with_reducible refine ed_in hJ hoes ?_; intro xf xp hed; cbv)
         | intro hh
         | with_reducible refine And.intro ?_ ?_
         | (with_reducible first | refine awp_go ?_ | refine aops_go ?_ | refine strip_go ?_ | refine draw_go ?_ | refine frames_go ?_); cbv)
       all_goals first
         | (refine hM3 _ p1 s2 xs2 _ ⟨?_, ?_, hR3, hs3, mem_succ p0 hp1 hp hin⟩ ?_ ?_ <;> first | (with_reducible refine wkEnv_go' ?_; cbv; clear h hM2 hM3; subst hJ; simp only [std, stdOps] at *; grind [wrap64]) | (clear h hM2 hM3; subst hJ; simp only [std, stdOps] at *; grind [wrap64]))
         | (have e1 : p = ports ok oa := (by clear h hM2 hM3; subst hJ; simp only [std, stdOps] at *; grind); have e2 := loose_all hL q0 hq1 hlo hop hp e1; refine hM2 _ q1 xs2 s2 _ _ _ ⟨?_, ?_, hR3, hs3, e2⟩ ?_ ?_ <;> first | (with_reducible refine wkEnv_go' ?_; cbv; clear h hM2 hM3; subst hJ; simp only [std, stdOps] at *; grind [wrap64]) | (clear h hM2 hM3; subst hJ; simp only [std, stdOps] at *; grind) | (clear h hM2 hM3; subst hJ; simp only [std, stdOps] at *; grind [wrap64]))
         | (refine hM2 _ q1 xs2 s2 _ _ _ ⟨?_, ?_, hR3, hs3, loose_new hL q0 hlo hop p0 (by clear h hM2 hM3; subst hJ; simp only [std, stdOps] at *; grind) hin⟩ ?_ ?_ <;> first | (with_reducible refine wkEnv_go' ?_; cbv; clear h hM2 hM3; subst hJ; simp only [std, stdOps] at *; grind [wrap64]) | (clear h hM2 hM3; subst hJ; simp only [std, stdOps] at *; grind [wrap64]))
         | (refine hM2 _ q1 xs2 s2 _ _ _ ⟨?_, ?_, hR3, hs3, loose_old hlo⟩ ?_ ?_ <;> first | (with_reducible refine wkEnv_go' ?_; cbv; clear h hM2 hM3; subst hJ; simp only [std, stdOps] at *; grind [wrap64]) | (clear h hM2 hM3; subst hJ; simp only [std, stdOps] at *; grind [wrap64]))
         | (clear h hM2 hM3; subst hJ; exact mok_t hE)
         | (clear h hM2 hM3; subst hJ; simp only [std, stdOps] at *; grind))
    | (refine loop_at (β := Int × Int × List AV) hJ tabC_ok (fun | (p, s2, xs2) => ⟨[(72, .int .i64 p), (71, .int .i64 P), (11, .int .i64 q), (50, .int .i64 q), (49, .int .i64 (J.o.len os)), (48, .sl 5 os .no), (10, .bl false), (9, .int .i64 lo), (8, .int .i64 s2), (7, .vs 2 1 0 n n), (4, .mp 1), (1, .ptr 0 0)], [.var [.int .i64 n, .sl 5 os .no], .mp et, .vec 1 xs2], 94⟩) (fun | (p, s2, xs2) => (0 ≤ p) ∧ (p ≤ P) ∧ (RowI xs2 (fun r => srcs (l.take q1.toNat) r) n) ∧ (SinkIs s2 (l.take q1.toNat)) ∧ (∀ r : Int, 0 ≤ r → r < p → (⟨q, r⟩ : Ed) ∈ flat l L.toNat)) (fun | (p, s2, xs2) => (P + 1 - p).toNat) (0, s, (J.o.upd xs (J.o.sum 0 op) (.int .i64 (J.o.ar .add .i64 (srcs (l.take q.toNat) op.toNat) 1)))) ?_ ?_ ?_ ?_
       · exact ⟨Int.le_refl _, by rw [hP]; exact (ports_le _ _).1, row_more hJ hq1 q0 hop hL hL24 hR (by clear h hM2; subst hJ; simp only [std, stdOps] at *; grind) (src_part (g := ⟨n, l⟩) hop (hF q q0 (by clear h hM2; subst hJ; simp only [std, stdOps] at *; grind)) (by clear h hM2; subst hJ; simp only [std, stdOps] at *; grind)), sink_same hq1 q0 hop hs (by clear h hM2; subst hJ; simp only [std, stdOps] at *; grind), fun r h1 h2 => by omega⟩
       · refine ⟨?_, ?_, okS_c2 hE rfl, rfl⟩
         · cbv
           try exact ⟨rfl, trivial⟩
         · cbv
       · rintro ⟨p, s2, xs2⟩; exact Nat.le_of_ble_eq_true rfl
       rintro ⟨p, s2, xs2⟩ hinv3 Nz Nzh
       obtain ⟨p0, pP, hR3, hs3, hp⟩ : (0 ≤ p) ∧ (p ≤ P) ∧ (RowI xs2 (fun r => srcs (l.take q1.toNat) r) n) ∧ (SinkIs s2 (l.take q1.toNat)) ∧ (∀ r : Int, 0 ≤ r → r < p → (⟨q, r⟩ : Ed) ∈ flat l L.toNat) := hinv3
       obtain ⟨p1, hp1⟩ : ∃ p1 : Int, p1 = p + 1 := ⟨_, rfl⟩
       have hpl := (ports_le ok oa).2
       have hM3 : ∀ env (p' : Int) (s2' : Int) (xs2' : List AV) v, (0 ≤ p') ∧ (p' ≤ P) ∧ (RowI xs2' (fun r => srcs (l.take q1.toNat) r) n) ∧ (SinkIs s2' (l.take q1.toNat)) ∧ (∀ r : Int, 0 ≤ r → r < p' → (⟨q, r⟩ : Ed) ∈ flat l L.toNat) → (P + 1 - p').toNat < (P + 1 - p).toNat → wkEnv env [(72, .int .i64 p'), (71, .int .i64 P), (11, .int .i64 q), (50, .int .i64 q), (49, .int .i64 (J.o.len os)), (48, .sl 5 os .no), (10, .bl false), (9, .int .i64 lo), (8, .int .i64 s2'), (7, .vs 2 1 0 n n), (4, .mp 1), (1, .ptr 0 0)] → Nz ⟨env, [.var [.int .i64 n, .sl 5 os .no], .mp et, .vec 1 xs2'] ++ v, 94⟩ := fun env p' s2' xs2' v h1 h2 h3 => Nzh _ (p', s2', xs2') h1 h2 ⟨h3, by cbv, okS_c2 hE rfl, rfl⟩
       clear Nzh
       all_goals cbv
       repeat' (first
         | with_reducible exact id
         | exact trivial
         | (with_reducible refine look_t hJ hE ?_ ?_ <;> intro hin <;> cbv)
         | (with_reducible refine look_f hJ hE ?_; intro hin)
         | (with_reducible refine op_is hJ hos ho hoes ?_; cbv)
         | (with_reducible refine op_in hJ hos ?_; intro ok op of oa oes oil hoes hop; cbv)
         | (with_reducible refine ed_in hJ hes ?_; intro xf xp hed; cbv)
         | (with_reducible refine ed_in hJ hoes ?_; intro xf xp hed; cbv)
         | intro hh
         | with_reducible refine And.intro ?_ ?_
         | (with_reducible first | refine awp_go ?_ | refine aops_go ?_ | refine strip_go ?_ | refine draw_go ?_ | refine frames_go ?_); cbv)
       all_goals first
         | (refine hM3 _ p1 s2 xs2 _ ⟨?_, ?_, hR3, hs3, mem_succ p0 hp1 hp hin⟩ ?_ ?_ <;> first | (with_reducible refine wkEnv_go' ?_; cbv; clear h hM2 hM3; subst hJ; simp only [std, stdOps] at *; grind [wrap64]) | (clear h hM2 hM3; subst hJ; simp only [std, stdOps] at *; grind [wrap64]))
         | (have e1 : p = ports ok oa := (by clear h hM2 hM3; subst hJ; simp only [std, stdOps] at *; grind); have e2 := loose_all hL q0 hq1 hlo hop hp e1; refine hM2 _ q1 xs2 s2 _ _ _ ⟨?_, ?_, hR3, hs3, e2⟩ ?_ ?_ <;> first | (with_reducible refine wkEnv_go' ?_; cbv; clear h hM2 hM3; subst hJ; simp only [std, stdOps] at *; grind [wrap64]) | (clear h hM2 hM3; subst hJ; simp only [std, stdOps] at *; grind) | (clear h hM2 hM3; subst hJ; simp only [std, stdOps] at *; grind [wrap64]))
         | (refine hM2 _ q1 xs2 s2 _ _ _ ⟨?_, ?_, hR3, hs3, loose_new hL q0 hlo hop p0 (by clear h hM2 hM3; subst hJ; simp only [std, stdOps] at *; grind) hin⟩ ?_ ?_ <;> first | (with_reducible refine wkEnv_go' ?_; cbv; clear h hM2 hM3; subst hJ; simp only [std, stdOps] at *; grind [wrap64]) | (clear h hM2 hM3; subst hJ; simp only [std, stdOps] at *; grind [wrap64]))
         | (refine hM2 _ q1 xs2 s2 _ _ _ ⟨?_, ?_, hR3, hs3, loose_old hlo⟩ ?_ ?_ <;> first | (with_reducible refine wkEnv_go' ?_; cbv; clear h hM2 hM3; subst hJ; simp only [std, stdOps] at *; grind [wrap64]) | (clear h hM2 hM3; subst hJ; simp only [std, stdOps] at *; grind [wrap64]))
         | (clear h hM2 hM3; subst hJ; exact mok_t hE)
         | (clear h hM2 hM3; subst hJ; simp only [std, stdOps] at *; grind))
    | (refine loop_at (β := Int × Int × List AV) hJ tabC_ok (fun | (p, s2, xs2) => ⟨[(72, .int .i64 p), (71, .int .i64 P), (11, .int .i64 q), (50, .int .i64 q), (49, .int .i64 (J.o.len os)), (48, .sl 5 os .no), (10, .bl true), (9, .int .i64 lo), (8, .int .i64 s2), (7, .vs 2 1 0 n n), (4, .mp 1), (1, .ptr 0 0)], [.var [.int .i64 n, .sl 5 os .no], .mp et, .vec 1 xs2], 94⟩) (fun | (p, s2, xs2) => (0 ≤ p) ∧ (p ≤ P) ∧ (RowI xs2 (fun r => srcs (l.take q1.toNat) r) n) ∧ (SinkIs s2 (l.take q1.toNat)) ∧ (∀ r : Int, 0 ≤ r → r < p → (⟨q, r⟩ : Ed) ∈ flat l L.toNat)) (fun | (p, s2, xs2) => (P + 1 - p).toNat) (0, s, xs) ?_ ?_ ?_ ?_
       · exact ⟨Int.le_refl _, by rw [hP]; exact (ports_le _ _).1, row_same hq1 q0 hop hR (by clear h hM2; subst hJ; simp only [std, stdOps] at *; grind), sink_same hq1 q0 hop hs (by clear h hM2; subst hJ; simp only [std, stdOps] at *; grind), fun r h1 h2 => by omega⟩
       · refine ⟨?_, ?_, okS_c2 hE rfl, rfl⟩
         · cbv
           try exact ⟨rfl, trivial⟩
         · cbv
       · rintro ⟨p, s2, xs2⟩; exact Nat.le_of_ble_eq_true rfl
       rintro ⟨p, s2, xs2⟩ hinv3 Nz Nzh
       obtain ⟨p0, pP, hR3, hs3, hp⟩ : (0 ≤ p) ∧ (p ≤ P) ∧ (RowI xs2 (fun r => srcs (l.take q1.toNat) r) n) ∧ (SinkIs s2 (l.take q1.toNat)) ∧ (∀ r : Int, 0 ≤ r → r < p → (⟨q, r⟩ : Ed) ∈ flat l L.toNat) := hinv3
       obtain ⟨p1, hp1⟩ : ∃ p1 : Int, p1 = p + 1 := ⟨_, rfl⟩
       have hpl := (ports_le ok oa).2
       have hM3 : ∀ env (p' : Int) (s2' : Int) (xs2' : List AV) v, (0 ≤ p') ∧ (p' ≤ P) ∧ (RowI xs2' (fun r => srcs (l.take q1.toNat) r) n) ∧ (SinkIs s2' (l.take q1.toNat)) ∧ (∀ r : Int, 0 ≤ r → r < p' → (⟨q, r⟩ : Ed) ∈ flat l L.toNat) → (P + 1 - p').toNat < (P + 1 - p).toNat → wkEnv env [(72, .int .i64 p'), (71, .int .i64 P), (11, .int .i64 q), (50, .int .i64 q), (49, .int .i64 (J.o.len os)), (48, .sl 5 os .no), (10, .bl true), (9, .int .i64 lo), (8, .int .i64 s2'), (7, .vs 2 1 0 n n), (4, .mp 1), (1, .ptr 0 0)] → Nz ⟨env, [.var [.int .i64 n, .sl 5 os .no], .mp et, .vec 1 xs2'] ++ v, 94⟩ := fun env p' s2' xs2' v h1 h2 h3 => Nzh _ (p', s2', xs2') h1 h2 ⟨h3, by cbv, okS_c2 hE rfl, rfl⟩
       clear Nzh
       all_goals cbv
       repeat' (first
         | with_reducible exact id
         | exact trivial
         | (with_reducible refine look_t hJ hE ?_ ?_ <;> intro hin <;> cbv)
         | (with_reducible refine look_f hJ hE ?_; intro hin)
         | (with_reducible refine op_is hJ hos ho hoes ?_; cbv)
         | (with_reducible refine op_in hJ hos ?_; intro ok op of oa oes oil hoes hop; cbv)
         | (with_reducible refine ed_in hJ hes ?_; intro xf xp hed; cbv)
         | (with_reducible refine ed_in hJ hoes ?_; intro xf xp hed; cbv)
         | intro hh
         | with_reducible refine And.intro ?_ ?_
         | (with_reducible first | refine awp_go ?_ | refine aops_go ?_ | refine strip_go ?_ | refine draw_go ?_ | refine frames_go ?_); cbv)
       all_goals first
         | (refine hM3 _ p1 s2 xs2 _ ⟨?_, ?_, hR3, hs3, mem_succ p0 hp1 hp hin⟩ ?_ ?_ <;> first | (with_reducible refine wkEnv_go' ?_; cbv; clear h hM2 hM3; subst hJ; simp only [std, stdOps] at *; grind [wrap64]) | (clear h hM2 hM3; subst hJ; simp only [std, stdOps] at *; grind [wrap64]))
         | (have e1 : p = ports ok oa := (by clear h hM2 hM3; subst hJ; simp only [std, stdOps] at *; grind); have e2 := loose_all hL q0 hq1 hlo hop hp e1; refine hM2 _ q1 xs2 s2 _ _ _ ⟨?_, ?_, hR3, hs3, e2⟩ ?_ ?_ <;> first | (with_reducible refine wkEnv_go' ?_; cbv; clear h hM2 hM3; subst hJ; simp only [std, stdOps] at *; grind [wrap64]) | (clear h hM2 hM3; subst hJ; simp only [std, stdOps] at *; grind) | (clear h hM2 hM3; subst hJ; simp only [std, stdOps] at *; grind [wrap64]))
         | (refine hM2 _ q1 xs2 s2 _ _ _ ⟨?_, ?_, hR3, hs3, loose_new hL q0 hlo hop p0 (by clear h hM2 hM3; subst hJ; simp only [std, stdOps] at *; grind) hin⟩ ?_ ?_ <;> first | (with_reducible refine wkEnv_go' ?_; cbv; clear h hM2 hM3; subst hJ; simp only [std, stdOps] at *; grind [wrap64]) | (clear h hM2 hM3; subst hJ; simp only [std, stdOps] at *; grind [wrap64]))
         | (refine hM2 _ q1 xs2 s2 _ _ _ ⟨?_, ?_, hR3, hs3, loose_old hlo⟩ ?_ ?_ <;> first | (with_reducible refine wkEnv_go' ?_; cbv; clear h hM2 hM3; subst hJ; simp only [std, stdOps] at *; grind [wrap64]) | (clear h hM2 hM3; subst hJ; simp only [std, stdOps] at *; grind [wrap64]))
         | (clear h hM2 hM3; subst hJ; exact mok_t hE)
         | (clear h hM2 hM3; subst hJ; simp only [std, stdOps] at *; grind))
    | (refine loop_at (β := Int × Int × List AV) hJ tabC_ok (fun | (p, s2, xs2) => ⟨[(72, .int .i64 p), (71, .int .i64 P), (11, .int .i64 q), (50, .int .i64 q), (49, .int .i64 (J.o.len os)), (48, .sl 5 os .no), (10, .bl true), (9, .int .i64 lo), (8, .int .i64 s2), (7, .vs 2 1 0 n n), (4, .mp 1), (1, .ptr 0 0)], [.var [.int .i64 n, .sl 5 os .no], .mp et, .vec 1 xs2], 94⟩) (fun | (p, s2, xs2) => (0 ≤ p) ∧ (p ≤ P) ∧ (RowI xs2 (fun r => srcs (l.take q1.toNat) r) n) ∧ (SinkIs s2 (l.take q1.toNat)) ∧ (∀ r : Int, 0 ≤ r → r < p → (⟨q, r⟩ : Ed) ∈ flat l L.toNat)) (fun | (p, s2, xs2) => (P + 1 - p).toNat) (0, (J.o.ar .add .i64 s 1), xs) ?_ ?_ ?_ ?_
       · exact ⟨Int.le_refl _, by rw [hP]; exact (ports_le _ _).1, row_same hq1 q0 hop hR (by clear h hM2; subst hJ; simp only [std, stdOps] at *; grind), sink_more hJ hq1 q0 hop hL hL24 hs (by clear h hM2; subst hJ; simp only [std, stdOps] at *; grind), fun r h1 h2 => by omega⟩
       · refine ⟨?_, ?_, okS_c2 hE rfl, rfl⟩
         · cbv
           try exact ⟨rfl, trivial⟩
         · cbv
       · rintro ⟨p, s2, xs2⟩; exact Nat.le_of_ble_eq_true rfl
       rintro ⟨p, s2, xs2⟩ hinv3 Nz Nzh
       obtain ⟨p0, pP, hR3, hs3, hp⟩ : (0 ≤ p) ∧ (p ≤ P) ∧ (RowI xs2 (fun r => srcs (l.take q1.toNat) r) n) ∧ (SinkIs s2 (l.take q1.toNat)) ∧ (∀ r : Int, 0 ≤ r → r < p → (⟨q, r⟩ : Ed) ∈ flat l L.toNat) := hinv3
       obtain ⟨p1, hp1⟩ : ∃ p1 : Int, p1 = p + 1 := ⟨_, rfl⟩
       have hpl := (ports_le ok oa).2
       have hM3 : ∀ env (p' : Int) (s2' : Int) (xs2' : List AV) v, (0 ≤ p') ∧ (p' ≤ P) ∧ (RowI xs2' (fun r => srcs (l.take q1.toNat) r) n) ∧ (SinkIs s2' (l.take q1.toNat)) ∧ (∀ r : Int, 0 ≤ r → r < p' → (⟨q, r⟩ : Ed) ∈ flat l L.toNat) → (P + 1 - p').toNat < (P + 1 - p).toNat → wkEnv env [(72, .int .i64 p'), (71, .int .i64 P), (11, .int .i64 q), (50, .int .i64 q), (49, .int .i64 (J.o.len os)), (48, .sl 5 os .no), (10, .bl true), (9, .int .i64 lo), (8, .int .i64 s2'), (7, .vs 2 1 0 n n), (4, .mp 1), (1, .ptr 0 0)] → Nz ⟨env, [.var [.int .i64 n, .sl 5 os .no], .mp et, .vec 1 xs2'] ++ v, 94⟩ := fun env p' s2' xs2' v h1 h2 h3 => Nzh _ (p', s2', xs2') h1 h2 ⟨h3, by cbv, okS_c2 hE rfl, rfl⟩
       clear Nzh
       all_goals cbv
       repeat' (first
         | with_reducible exact id
         | exact trivial
         | (with_reducible refine look_t hJ hE ?_ ?_ <;> intro hin <;> cbv)
         | (with_reducible refine look_f hJ hE ?_; intro hin)
         | (with_reducible refine op_is hJ hos ho hoes ?_; cbv)
         | (with_reducible refine op_in hJ hos ?_; intro ok op of oa oes oil hoes hop; cbv)
         | (with_reducible refine ed_in hJ hes ?_; intro xf xp hed; cbv)
         | (with_reducible refine ed_in hJ hoes ?_; intro xf xp hed; cbv)
         | intro hh
         | with_reducible refine And.intro ?_ ?_
         | (with_reducible first | refine awp_go ?_ | refine aops_go ?_ | refine strip_go ?_ | refine draw_go ?_ | refine frames_go ?_); cbv)
       all_goals first
         | (refine hM3 _ p1 s2 xs2 _ ⟨?_, ?_, hR3, hs3, mem_succ p0 hp1 hp hin⟩ ?_ ?_ <;> first | (with_reducible refine wkEnv_go' ?_; cbv; clear h hM2 hM3; subst hJ; simp only [std, stdOps] at *; grind [wrap64]) | (clear h hM2 hM3; subst hJ; simp only [std, stdOps] at *; grind [wrap64]))
         | (have e1 : p = ports ok oa := (by clear h hM2 hM3; subst hJ; simp only [std, stdOps] at *; grind); have e2 := loose_all hL q0 hq1 hlo hop hp e1; refine hM2 _ q1 xs2 s2 _ _ _ ⟨?_, ?_, hR3, hs3, e2⟩ ?_ ?_ <;> first | (with_reducible refine wkEnv_go' ?_; cbv; clear h hM2 hM3; subst hJ; simp only [std, stdOps] at *; grind [wrap64]) | (clear h hM2 hM3; subst hJ; simp only [std, stdOps] at *; grind) | (clear h hM2 hM3; subst hJ; simp only [std, stdOps] at *; grind [wrap64]))
         | (refine hM2 _ q1 xs2 s2 _ _ _ ⟨?_, ?_, hR3, hs3, loose_new hL q0 hlo hop p0 (by clear h hM2 hM3; subst hJ; simp only [std, stdOps] at *; grind) hin⟩ ?_ ?_ <;> first | (with_reducible refine wkEnv_go' ?_; cbv; clear h hM2 hM3; subst hJ; simp only [std, stdOps] at *; grind [wrap64]) | (clear h hM2 hM3; subst hJ; simp only [std, stdOps] at *; grind [wrap64]))
         | (refine hM2 _ q1 xs2 s2 _ _ _ ⟨?_, ?_, hR3, hs3, loose_old hlo⟩ ?_ ?_ <;> first | (with_reducible refine wkEnv_go' ?_; cbv; clear h hM2 hM3; subst hJ; simp only [std, stdOps] at *; grind [wrap64]) | (clear h hM2 hM3; subst hJ; simp only [std, stdOps] at *; grind [wrap64]))
         | (clear h hM2 hM3; subst hJ; exact mok_t hE)
         | (clear h hM2 hM3; subst hJ; simp only [std, stdOps] at *; grind))
    | (refine loop_at (β := Int × Int × List AV) hJ tabC_ok (fun | (p, s2, xs2) => ⟨[(72, .int .i64 p), (71, .int .i64 P), (11, .int .i64 q), (50, .int .i64 q), (49, .int .i64 (J.o.len os)), (48, .sl 5 os .no), (10, .bl true), (9, .int .i64 lo), (8, .int .i64 s2), (7, .vs 2 1 0 n n), (4, .mp 1), (1, .ptr 0 0)], [.var [.int .i64 n, .sl 5 os .no], .mp et, .vec 1 xs2], 94⟩) (fun | (p, s2, xs2) => (0 ≤ p) ∧ (p ≤ P) ∧ (RowI xs2 (fun r => srcs (l.take q1.toNat) r) n) ∧ (SinkIs s2 (l.take q1.toNat)) ∧ (∀ r : Int, 0 ≤ r → r < p → (⟨q, r⟩ : Ed) ∈ flat l L.toNat)) (fun | (p, s2, xs2) => (P + 1 - p).toNat) (0, s, (J.o.upd xs (J.o.sum 0 op) (.int .i64 (J.o.ar .add .i64 (srcs (l.take q.toNat) op.toNat) 1)))) ?_ ?_ ?_ ?_
       · exact ⟨Int.le_refl _, by rw [hP]; exact (ports_le _ _).1, row_more hJ hq1 q0 hop hL hL24 hR (by clear h hM2; subst hJ; simp only [std, stdOps] at *; grind) (src_part (g := ⟨n, l⟩) hop (hF q q0 (by clear h hM2; subst hJ; simp only [std, stdOps] at *; grind)) (by clear h hM2; subst hJ; simp only [std, stdOps] at *; grind)), sink_same hq1 q0 hop hs (by clear h hM2; subst hJ; simp only [std, stdOps] at *; grind), fun r h1 h2 => by omega⟩
       · refine ⟨?_, ?_, okS_c2 hE rfl, rfl⟩
         · cbv
           try exact ⟨rfl, trivial⟩
         · cbv
       · rintro ⟨p, s2, xs2⟩; exact Nat.le_of_ble_eq_true rfl
       rintro ⟨p, s2, xs2⟩ hinv3 Nz Nzh
       obtain ⟨p0, pP, hR3, hs3, hp⟩ : (0 ≤ p) ∧ (p ≤ P) ∧ (RowI xs2 (fun r => srcs (l.take q1.toNat) r) n) ∧ (SinkIs s2 (l.take q1.toNat)) ∧ (∀ r : Int, 0 ≤ r → r < p → (⟨q, r⟩ : Ed) ∈ flat l L.toNat) := hinv3
       obtain ⟨p1, hp1⟩ : ∃ p1 : Int, p1 = p + 1 := ⟨_, rfl⟩
       have hpl := (ports_le ok oa).2
       have hM3 : ∀ env (p' : Int) (s2' : Int) (xs2' : List AV) v, (0 ≤ p') ∧ (p' ≤ P) ∧ (RowI xs2' (fun r => srcs (l.take q1.toNat) r) n) ∧ (SinkIs s2' (l.take q1.toNat)) ∧ (∀ r : Int, 0 ≤ r → r < p' → (⟨q, r⟩ : Ed) ∈ flat l L.toNat) → (P + 1 - p').toNat < (P + 1 - p).toNat → wkEnv env [(72, .int .i64 p'), (71, .int .i64 P), (11, .int .i64 q), (50, .int .i64 q), (49, .int .i64 (J.o.len os)), (48, .sl 5 os .no), (10, .bl true), (9, .int .i64 lo), (8, .int .i64 s2'), (7, .vs 2 1 0 n n), (4, .mp 1), (1, .ptr 0 0)] → Nz ⟨env, [.var [.int .i64 n, .sl 5 os .no], .mp et, .vec 1 xs2'] ++ v, 94⟩ := fun env p' s2' xs2' v h1 h2 h3 => Nzh _ (p', s2', xs2') h1 h2 ⟨h3, by cbv, okS_c2 hE rfl, rfl⟩
       clear Nzh
       all_goals cbv
       repeat' (first
         | with_reducible exact id
         | exact trivial
         | (with_reducible refine look_t hJ hE ?_ ?_ <;> intro hin <;> cbv)
         | (with_reducible refine look_f hJ hE ?_; intro hin)
         | (with_reducible refine op_is hJ hos ho hoes ?_; cbv)
         | (with_reducible refine op_in hJ hos ?_; intro ok op of oa oes oil hoes hop; cbv)
         | (with_reducible refine ed_in hJ hes ?_; intro xf xp hed; cbv)
         | (with_reducible refine ed_in hJ hoes ?_; intro xf xp hed; cbv)
         | intro hh
         | with_reducible refine And.intro ?_ ?_
         | (with_reducible first | refine awp_go ?_ | refine aops_go ?_ | refine strip_go ?_ | refine draw_go ?_ | refine frames_go ?_); cbv)
       all_goals first
         | (refine hM3 _ p1 s2 xs2 _ ⟨?_, ?_, hR3, hs3, mem_succ p0 hp1 hp hin⟩ ?_ ?_ <;> first | (with_reducible refine wkEnv_go' ?_; cbv; clear h hM2 hM3; subst hJ; simp only [std, stdOps] at *; grind [wrap64]) | (clear h hM2 hM3; subst hJ; simp only [std, stdOps] at *; grind [wrap64]))
         | (have e1 : p = ports ok oa := (by clear h hM2 hM3; subst hJ; simp only [std, stdOps] at *; grind); have e2 := loose_all hL q0 hq1 hlo hop hp e1; refine hM2 _ q1 xs2 s2 _ _ _ ⟨?_, ?_, hR3, hs3, e2⟩ ?_ ?_ <;> first | (with_reducible refine wkEnv_go' ?_; cbv; clear h hM2 hM3; subst hJ; simp only [std, stdOps] at *; grind [wrap64]) | (clear h hM2 hM3; subst hJ; simp only [std, stdOps] at *; grind) | (clear h hM2 hM3; subst hJ; simp only [std, stdOps] at *; grind [wrap64]))
         | (refine hM2 _ q1 xs2 s2 _ _ _ ⟨?_, ?_, hR3, hs3, loose_new hL q0 hlo hop p0 (by clear h hM2 hM3; subst hJ; simp only [std, stdOps] at *; grind) hin⟩ ?_ ?_ <;> first | (with_reducible refine wkEnv_go' ?_; cbv; clear h hM2 hM3; subst hJ; simp only [std, stdOps] at *; grind [wrap64]) | (clear h hM2 hM3; subst hJ; simp only [std, stdOps] at *; grind [wrap64]))
         | (refine hM2 _ q1 xs2 s2 _ _ _ ⟨?_, ?_, hR3, hs3, loose_old hlo⟩ ?_ ?_ <;> first | (with_reducible refine wkEnv_go' ?_; cbv; clear h hM2 hM3; subst hJ; simp only [std, stdOps] at *; grind [wrap64]) | (clear h hM2 hM3; subst hJ; simp only [std, stdOps] at *; grind [wrap64]))
         | (clear h hM2 hM3; subst hJ; exact mok_t hE)
         | (clear h hM2 hM3; subst hJ; simp only [std, stdOps] at *; grind))

end Go.Proofs.Ytilffanmaicakaa.A
