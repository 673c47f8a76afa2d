/- The law GraphLeads. -/
import Derived.Test.YtilffanmaicakaaGrSpecP
namespace Go.Proofs.Ytilffanmaicakaa.A
open Go Go.Pt Go.Gr

/-- A graph without faults. -/
structure Good (n : Int) (l : List Gr.Op) : Prop where
  len : l.length ≤ 24
  fault : ∀ j, j < l.length → Gr.fault ⟨n, l⟩ j = 0
  loose : ∀ j, ¬ Gr.loose ⟨n, l⟩ j
  sink : sinks l = 1
theorem good_of {n r : Int} {l : List Gr.Op} (h : Chk ⟨n, l⟩ r 0) : Good n l := by
  generalize he : (0 : Int) = e at h
  cases h with
  | arg => omega
  | long => omega
  | fault h0 h1 m hj h2 h3 => exact absurd he.symm h3
  | loose => omega
  | part => omega
  | sink => omega
  | ok h0 h1 hf hl hs h => exact ⟨h1, hf, hl, h⟩
theorem Good.in {n : Int} {l : List Gr.Op} (h : Good n l) {q : Nat} {o : Gr.Op} (ho : l[q]? = some o) : (1 ≤ o.k ∧ o.k ≤ 9) ∧ fieldsOk o.k o.p o.f o.a n = true ∧ insOk l q o.k o.i = true :=
  have h1 := fault_ok (g := ⟨n, l⟩) ho (h.fault q (lt_of_get ho))
  ⟨h1.1, h1.2.1, h1.2.2.1⟩
theorem Good.few {n : Int} {l : List Gr.Op} (h : Good n l) : LnIn l := fun o ho => by
  obtain ⟨i, hi⟩ := List.mem_iff_getElem?.1 ho
  have := ins_le (h.in hi).2.2
  omega
theorem Good.tot {n L : Int} {l : List Gr.Op} (h : Good n l) (hL : Ln L l) : Tot l L := by
  have h1 := flat_len (g := ⟨n, l⟩) (n := l.length) (Nat.le_refl _) h.fault
  have h2 := h.len
  unfold Ln at hL
  unfold Tot
  rw [hL, Int.toNat_natCast]
  simp only at h1
  omega
theorem mem_flat {l : List Gr.Op} {e : Ed} : e ∈ flat l l.length ↔ ∃ (q : Nat) (o : Gr.Op), l[q]? = some o ∧ e ∈ o.i := by
  unfold flat
  rw [List.take_length, List.mem_flatMap]
  constructor
  · rintro ⟨o, ho, he⟩
    obtain ⟨i, hi⟩ := List.mem_iff_getElem?.1 ho
    exact ⟨i, o, hi, he⟩
  · rintro ⟨q, o, ho, he⟩
    exact ⟨o, List.mem_of_getElem? ho, he⟩
theorem Good.edge {n : Int} {l : List Gr.Op} (h : Good n l) {q : Nat} {o : Gr.Op} (ho : l[q]? = some o) {e : Ed} (he : e ∈ o.i) : 0 ≤ e.f ∧ e.f < q ∧ 0 ≤ e.p ∧ ∃ o', l[e.f.toNat]? = some o' ∧ e.p < ports o'.k o'.a := by
  have h1 := (h.in ho).2.2
  simp only [insOk, Bool.and_eq_true, List.all_eq_true] at h1
  have h2 := h1.2 e he
  simp only [edgeOk, Bool.and_eq_true, decide_eq_true_eq] at h2
  refine ⟨h2.1.1.1, h2.1.1.2, h2.1.2, ?_⟩
  have h3 := h2.2
  cases hz : l[e.f.toNat]? with
  | none => rw [hz] at h3; simp at h3
  | some o' => rw [hz] at h3; exact ⟨o', rfl, by simpa using h3⟩
theorem Good.port {n : Int} {l : List Gr.Op} (h : Good n l) {q : Nat} {o : Gr.Op} (ho : l[q]? = some o) {p : Int} (p0 : 0 ≤ p) (hp : p < ports o.k o.a) : (⟨q, p⟩ : Ed) ∈ flat l l.length := by
  have := h.loose q
  unfold Gr.loose at this
  by_cases hm : (⟨q, p⟩ : Ed) ∈ flat l l.length
  · exact hm
  · exact absurd ⟨o, ho, p, p0, hp, hm⟩ this
theorem leads_at {n L q p a b ok op of oa : Int} {c : Bool} {l : List Gr.Op} {oil : List Ed} (hG : Good n l) (hL : Ln L l) (q0 : 0 ≤ q) (ho : l[q.toNat]? = some ⟨ok, op, of, oa, oil⟩) (p0 : 0 ≤ p) (hp : p < ports ok oa) (ht : ToAt l ⟨q, p⟩ a b c) :
    c = true ∧ q < a ∧ a < L ∧ 0 ≤ b ∧ ∀ k p f x (il : List Ed), l[a.toNat]? = some ⟨k, p, f, x, il⟩ → b < il.length := by
  have hm := hG.port ho p0 hp
  rw [show ((q.toNat : Nat) : Int) = q by omega] at hm
  obtain ⟨q', o', ho', he'⟩ := mem_flat.1 hm
  rcases ht with ⟨_, _, _, h⟩ | ⟨hc, a0, _, o, hoa, b0, hob, _⟩
  · exact absurd he' (h o' (List.mem_of_getElem? ho'))
  · have h1 := hG.edge hoa (List.mem_of_getElem? hob)
    have h2 := lt_of_get hoa
    have h3 := lt_of_get hob
    unfold Ln at hL
    simp only at h1
    refine ⟨hc, by omega, by omega, b0, fun k p f x il hx => ?_⟩
    rw [hoa] at hx
    obtain rfl := Option.some.inj hx
    simp only at h3
    omega

/-- All ports of the first operators. -/
def prs (l : List Gr.Op) : Nat → List Ed
  | 0 => []
  | n + 1 => prs l n ++ (match l[n]? with | some o => (List.range (ports o.k o.a).toNat).map (fun r : Nat => (⟨n, (r : Int)⟩ : Ed)) | none => [])
theorem mem_prs {l : List Gr.Op} {e : Ed} : ∀ {n : Nat}, e ∈ prs l n ↔ ∃ (q : Nat) (o : Gr.Op), q < n ∧ l[q]? = some o ∧ e.f = q ∧ 0 ≤ e.p ∧ e.p < ports o.k o.a
  | 0 => by simp [prs]
  | n + 1 => by
    rw [prs, List.mem_append, mem_prs]
    constructor
    · rintro (⟨q, o, h1, h2⟩ | h)
      · exact ⟨q, o, by omega, h2⟩
      · cases hz : l[n]? with
        | none => rw [hz] at h; simp at h
        | some o =>
          rw [hz] at h
          simp only [List.mem_map, List.mem_range] at h
          obtain ⟨r, hr, rfl⟩ := h
          exact ⟨n, o, by omega, hz, rfl, by simp only; omega, by simp only; omega⟩
    · rintro ⟨q, o, h1, h2, h3, h4, h5⟩
      by_cases hq : q < n
      · exact .inl ⟨q, o, hq, h2, h3, h4, h5⟩
      · obtain rfl : q = n := by omega
        refine .inr ?_
        rw [h2]
        simp only [List.mem_map, List.mem_range]
        refine ⟨e.p.toNat, by omega, ?_⟩
        obtain ⟨ef, ep⟩ := e
        simp only at h3 h4 ⊢
        rw [h3, show ((ep.toNat : Nat) : Int) = ep by omega]
theorem nodup_prs {l : List Gr.Op} : ∀ n : Nat, (prs l n).Nodup
  | 0 => by simp [prs]
  | n + 1 => by
    rw [prs, List.nodup_append]
    refine ⟨nodup_prs n, ?_, ?_⟩
    · cases l[n]? with
      | none => simp
      | some o =>
        rw [List.nodup_iff_pairwise_ne, List.pairwise_map]
        refine List.Pairwise.imp (fun hxy e => hxy ?_) (List.nodup_iff_pairwise_ne.1 List.nodup_range)
        injection e with _ h
        omega
    · intro x hx y hy hxy
      subst hxy
      obtain ⟨q, o, hq, _, hf, _⟩ := mem_prs.1 hx
      cases hz : l[n]? with
      | none => rw [hz] at hy; simp at hy
      | some o' =>
        rw [hz] at hy
        simp only [List.mem_map, List.mem_range] at hy
        obtain ⟨r, _, rfl⟩ := hy
        simp only at hf
        omega
theorem nodup_le : ∀ {l m : List Ed}, l.Nodup → (∀ x ∈ l, x ∈ m) → l.length ≤ m.length
  | [], _, _, _ => by simp
  | x :: l, m, hn, h => by
    rw [List.nodup_cons] at hn
    have hx := h x List.mem_cons_self
    have := nodup_le (m := m.erase x) hn.2 fun y hy => (List.mem_erase_of_ne (fun e : y = x => hn.1 (e ▸ hy))).2 (h y (List.mem_cons_of_mem _ hy))
    rw [List.length_erase_of_mem hx] at this
    have hp := List.length_pos_of_mem hx
    simp only [List.length_cons]
    omega
theorem Good.count {n : Int} {l : List Gr.Op} (h : Good n l) : (prs l l.length).length = (flat l l.length).length := by
  refine Nat.le_antisymm (nodup_le (nodup_prs _) fun e he => ?_) (nodup_le (flat_nodup (g := ⟨n, l⟩) (Nat.le_refl _) h.fault) fun e he => ?_)
  · obtain ⟨q, o, hq, ho, hf, p0, hp⟩ := mem_prs.1 he
    have := h.port ho p0 hp
    rw [← hf] at this
    exact this
  · obtain ⟨q, o, ho, hm⟩ := mem_flat.1 he
    obtain ⟨h1, h2, h3, o', ho', h4⟩ := h.edge ho hm
    exact mem_prs.2 ⟨e.f.toNat, o', lt_of_get ho', ho', by omega, h3, h4⟩
/-- How many ports are ahead. -/
def PAt (l : List Gr.Op) (q c : Int) : Prop := c = ((prs l q.toNat).length : Int)
theorem pAt_zero {l : List Gr.Op} : PAt l 0 0 := rfl
theorem pAt_next {l : List Gr.Op} {q q1 c c2 p P ok op of oa : Int} {oil : List Ed} (hq1 : q1 = q + 1) (q0 : 0 ≤ q) (ho : l[q.toNat]? = some ⟨ok, op, of, oa, oil⟩) (hc : PAt l q c) (hP : P = ports ok oa) (hp : p = P) (h2 : c2 = c + p) : PAt l q1 c2 := by
  unfold PAt at *
  rw [hq1, show (q + 1).toNat = q.toNat + 1 by omega, prs, ho]
  have := ports_le ok oa
  simp only [List.length_append, List.length_map, List.length_range]
  omega
theorem pAt_end {l : List Gr.Op} {n L q c : Int} {xs ys : List AV} (hG : Good n l) (hL : Ln L l) (hE : EdsIs l L xs ys) (hq : q = L) (hc : PAt l q c) : c = ys.length := by
  unfold Ln at hL
  unfold PAt at hc
  rw [hc, hE.2, hq, hL, List.length_map, Int.toNat_natCast, hG.count]
theorem pAt_small {l : List Gr.Op} {n L q c : Int} (hG : Good n l) (hL : Ln L l) (hq : q ≤ L) (hc : PAt l q c) : 0 ≤ c ∧ c ≤ 1000 := by
  unfold Ln at hL
  unfold PAt at hc
  have h1 : (prs l q.toNat).length ≤ (prs l l.length).length := nodup_le (nodup_prs _) fun e he => by
    obtain ⟨q', o, h1, h2⟩ := mem_prs.1 he
    exact mem_prs.2 ⟨q', o, by omega, h2⟩
  have h2 := flat_len (g := ⟨n, l⟩) (n := l.length) (Nat.le_refl _) hG.fault
  have h3 := hG.count
  have h4 := hG.len
  simp only at h2
  omega
theorem one_of {l : List Gr.Op} {p : Gr.Op → Bool} {i j : Nat} {x y : Gr.Op} (h : l.countP p = 1) (hi : l[i]? = some x) (hj : l[j]? = some y) (hx : p x = true) (hy : p y = true) (hlt : i < j) : False := by
  have e : l = l.take (i + 1) ++ l.drop (i + 1) := (List.take_append_drop _ _).symm
  rw [e, List.countP_append] at h
  have h1 : 0 < (l.take (i + 1)).countP p := List.countP_pos_iff.2 ⟨x, List.mem_of_getElem? (i := i) (by rw [List.getElem?_take_of_lt (by omega)]; exact hi), hx⟩
  have h2 : 0 < (l.drop (i + 1)).countP p := List.countP_pos_iff.2 ⟨y, List.mem_of_getElem? (i := j - (i + 1)) (by rw [List.getElem?_drop, show i + 1 + (j - (i + 1)) = j by omega]; exact hj), hy⟩
  omega
theorem sink_is {l : List Gr.Op} {n L s : Int} (hG : Good n l) (hL : Ln L l) (hs : SinkAt l s) : 0 ≤ s ∧ s < L := by
  unfold Ln at hL
  rcases hs with ⟨_, h⟩ | ⟨h0, ⟨o, ho, _⟩, _⟩
  · have := hG.sink
    unfold sinks at this
    rw [List.countP_eq_zero.2 (fun o ho => by simpa using h o ho)] at this
    simp at this
  · have := lt_of_get ho
    exact ⟨h0, by omega⟩
/-- An operator that is not the sink has a port. -/
theorem has_port {l : List Gr.Op} {n s q ok op of oa : Int} {oil : List Ed} (hG : Good n l) (hs : SinkAt l s) (s0 : 0 ≤ s) (q0 : 0 ≤ q) (ho : l[q.toNat]? = some ⟨ok, op, of, oa, oil⟩) (hne : q ≠ s) : 0 < ports ok oa := by
  have h9 : ok ≠ 9 := by
    intro h9
    rcases hs with ⟨h, _⟩ | ⟨_, ⟨o, hos, hk⟩, _⟩
    · omega
    · have h1 := hG.sink
      unfold sinks at h1
      rcases Int.lt_trichotomy q s with h | h | h
      · exact one_of h1 ho hos (by simp [h9]) (by simp [hk]) (by omega)
      · exact hne h
      · exact one_of h1 hos ho (by simp [hk]) (by simp [h9]) (by omega)
  have h1 := hG.in ho
  simp only at h1
  unfold ports
  split
  · rename_i h7
    have h2 := h1.2.1
    simp only [fieldsOk, h7] at h2
    simp only [show ¬ ((7 : Int) = 1) by decide, show ¬ ((7 : Int) = 2) by decide, show ¬ ((7 : Int) = 3) by decide, show ¬ ((7 : Int) = 4) by decide, show ¬ ((7 : Int) = 5) by decide, show ¬ ((7 : Int) = 6) by decide, if_false, if_true] at h2
    split at h2
    · simp at h2
    · simp only [Bool.and_eq_true, decide_eq_true_eq] at h2
      rw [if_pos ⟨h2.1.2, h2.2⟩]; omega
  · rw [if_pos (by omega)]; omega

set_option maxHeartbeats 8000000 in
set_option maxRecDepth 100000 in
theorem graphLeads_call (n : Int) (l : List Gr.Op) (os : List AV) (hos : os = l.map Gr.Op.av) (L : Int) (hL : Ln L l) (hLL : L < 2 ^ 48) (K E) (h : K (.bool true) []) : CallA Try.prog 7 [.agg [.int .i64 n, .sl 5 os .no]] [] K E := by
  have hL0 : 0 ≤ L := by unfold Ln at hL; omega
  refine call_fn (n₀ := 0) tab_ok [] Try.func7 rfl rfl rfl rfl (by decide) ?_
  intro J hJ
  have hlos : J.o.len os = L := by subst hJ hos; unfold Ln at hL; simp [std, stdOps, hL]
  cbv
  repeat' (first
    | with_reducible exact id
    | exact trivial
    | with_reducible exact h
    | with_reducible refine fit_bool h ?_
    | (with_reducible refine live_at hJ ?_; cbv)
    | (with_reducible refine check_at hJ hos hL hLL ?_; intro r e hc1; cbv)
    | (have he0 : e = 0 := (by clear h ; subst hJ; simp only [std, stdOps] at *; grind); subst he0; have hG := good_of hc1; have hI := hG.few; have hT := hG.tot hL; with_reducible refine edges05_at hJ hos hL hLL hT ?_; intro xs ys hE; cbv)
    | (with_reducible refine sink_at hJ hos hL hLL ?_; intro r3 p3 f3 hs3 hp3 hf3; cbv)
    | (with_reducible refine op_is hJ hos ho hoes ?_; cbv)
    | (with_reducible refine op_in hJ hos ?_; intro ok op of oa oes oil hoes hop; cbv)
    | (with_reducible refine ed_in hJ hes ?_; intro xf xp hed; cbv)
    | (with_reducible refine ed_in hJ hoes ?_; intro xf xp hed; cbv)
    | intro hh
    | with_reducible refine And.intro ?_ ?_
    | (with_reducible first | refine awp_go ?_ | refine aops_go ?_ | refine strip_go ?_ | refine draw_go ?_ | refine frames_go ?_); cbv)
  all_goals try (clear h ; subst hJ; simp only [std, stdOps] at *; grind)
  obtain ⟨hs0, hsL⟩ := sink_is hG hL hs3
  have hp3' : p3 = r3 := by rw [hp3, if_neg (by omega)]
  have hf3' : f3 = true := by rw [hf3]; simp; omega
  clear hp3 hf3
  subst hp3' hf3'
  obtain ⟨T, hTt⟩ : ∃ T, Ln T ys := ⟨_, rfl⟩
  have hly : J.o.len ys = T := by subst hJ; unfold Ln at hTt; simp [std, stdOps, hTt]
  refine loop_at (β := Int × Int) hJ tab_ok (fun | (q, c0) => ⟨[(42, .int .i64 q), (41, .int .i64 (J.o.len os)), (40, .sl 5 os .no), (5, .int .i64 c0), (9, .bool true), (8, .int .i64 p3), (7, .sl 2 ys .no), (1, .ptr 0 0)], [.var [.int .i64 n, .sl 5 os .no]], 112⟩) (fun | (q, c0) => (0 ≤ q) ∧ (q ≤ L) ∧ (PAt l q c0)) (fun | (q, c0) => (L + 1 - q).toNat) (0, 0) ?_ ?_ ?_ ?_
  · exact ⟨Int.le_refl _, hL0, pAt_zero⟩
  · refine ⟨?_, ?_, rfl, rfl⟩
    · cbv
      try exact ⟨rfl, trivial⟩
    · cbv
  · rintro ⟨q, c0⟩; exact Nat.le_of_ble_eq_true rfl
  rintro ⟨q, c0⟩ hinv Nx Nxh
  obtain ⟨q0, qL, hc⟩ : (0 ≤ q) ∧ (q ≤ L) ∧ (PAt l q c0) := hinv
  obtain ⟨q1, hq1⟩ : ∃ q1 : Int, q1 = q + 1 := ⟨_, rfl⟩
  have hN : ∀ env (q' : Int) (c0' : Int) v, (0 ≤ q') ∧ (q' ≤ L) ∧ (PAt l q' c0') → (L + 1 - q').toNat < (L + 1 - q).toNat → wkEnv env [(42, .int .i64 q'), (41, .int .i64 (J.o.len os)), (40, .sl 5 os .no), (5, .int .i64 c0'), (9, .bool true), (8, .int .i64 p3), (7, .sl 2 ys .no), (1, .ptr 0 0)] → Nx ⟨env, [.var [.int .i64 n, .sl 5 os .no]] ++ v, 112⟩ := fun env q' c0' v h1 h2 h3 => Nxh _ (q', c0') h1 h2 ⟨h3, by cbv, rfl, rfl⟩
  clear Nxh
  all_goals cbv
  repeat' (first
    | with_reducible exact id
    | exact trivial
    | (have hqL : q < L := (by clear h hN; subst hJ; simp only [std, stdOps] at *; grind)
       obtain ⟨⟨ok, op, of, oa, oil⟩, ho⟩ : ∃ o, l[q.toNat]? = some o := at_of hL q0 hqL
       obtain ⟨oes, hoes⟩ : ∃ es, es = oil.map Ed.av := ⟨_, rfl⟩
       with_reducible refine op_is hJ hos ho hoes ?_; cbv)
    | (with_reducible refine ports_at hJ ?_; intro P hP; cbv)
    | (with_reducible refine op_is hJ hos ho hoes ?_; cbv)
    | (with_reducible refine op_in hJ hos ?_; intro ok op of oa oes oil hoes hop; cbv)
    | (with_reducible refine ed_in hJ hes ?_; intro xf xp hed; cbv)
    | (with_reducible refine ed_in hJ hoes ?_; intro xf xp hed; cbv)
    | intro hh
    | with_reducible refine And.intro ?_ ?_
    | (with_reducible first | refine awp_go ?_ | refine aops_go ?_ | refine strip_go ?_ | refine draw_go ?_ | refine frames_go ?_); cbv)
  all_goals first
    | (refine fit_bool h ?_; have hcT := pAt_end hG hL hE (by clear h hN; subst hJ; simp only [std, stdOps] at *; grind) hc; unfold Ln at hTt; clear h hN; subst hJ; simp only [std, stdOps] at *; grind)
    | (clear h hN; subst hJ; simp only [std, stdOps] at *; grind)
    | skip
  all_goals
    have hcs := pAt_small hG hL qL hc
    have hP4 := ports_le ok oa
    have hP0 : 0 ≤ P := by omega
    refine loop_at (β := Int × Int) hJ tab_ok (fun | (p, c) => ⟨[(49, .int .i64 p), (48, .int .i64 P), (11, .ptr 1 0), (10, .int .i64 q), (42, .int .i64 q), (41, .int .i64 (J.o.len os)), (40, .sl 5 os .no), (5, .int .i64 c), (9, .bool true), (8, .int .i64 p3), (7, .sl 2 ys .no), (1, .ptr 0 0)], [.var [.int .i64 n, .sl 5 os .no], .var [.int .i64 ok, .int .i64 op, .int .i64 of, .int .i64 oa, .sl 2 oes .no]], 112⟩) (fun | (p, c) => (0 ≤ p) ∧ (p ≤ P) ∧ (c = c0 + p)) (fun | (p, c) => (P + 1 - p).toNat) (0, c0) ?_ ?_ ?_ ?_
    · exact ⟨Int.le_refl _, hP0, by omega⟩
    · refine ⟨?_, ?_, rfl, rfl⟩
      · cbv
        try exact ⟨rfl, trivial⟩
      · cbv
    · rintro ⟨p, c⟩; exact Nat.le_of_ble_eq_true rfl
    rintro ⟨p, c⟩ hinv2 Ny Nyh
    obtain ⟨p0, pM, hcc⟩ : (0 ≤ p) ∧ (p ≤ P) ∧ (c = c0 + p) := hinv2
    obtain ⟨p1, hp1⟩ : ∃ p1 : Int, p1 = p + 1 := ⟨_, rfl⟩
    have hM2 : ∀ env (p' : Int) (c' : Int) v, (0 ≤ p') ∧ (p' ≤ P) ∧ (c' = c0 + p') → (P + 1 - p').toNat < (P + 1 - p).toNat → wkEnv env [(49, .int .i64 p'), (48, .int .i64 P), (11, .ptr 1 0), (10, .int .i64 q), (42, .int .i64 q), (41, .int .i64 (J.o.len os)), (40, .sl 5 os .no), (5, .int .i64 c'), (9, .bool true), (8, .int .i64 p3), (7, .sl 2 ys .no), (1, .ptr 0 0)] → Ny ⟨env, [.var [.int .i64 n, .sl 5 os .no], .var [.int .i64 ok, .int .i64 op, .int .i64 of, .int .i64 oa, .sl 2 oes .no]] ++ v, 112⟩ := fun env p' c' v h1 h2 h3 => Nyh _ (p', c') h1 h2 ⟨h3, by cbv, rfl, rfl⟩
    clear Nyh
    all_goals cbv
    repeat' (first
      | with_reducible exact id
      | exact trivial
      | (with_reducible refine to_at hJ hos hL hLL hI ?_; intro a1 b1 c1 ht1; obtain ⟨hc1', hqa, haL, hb0, hbl⟩ := leads_at hG hL q0 ho p0 (by clear h hN hM2; subst hJ; simp only [std, stdOps] at *; grind) ht1; subst hc1'; cbv)
      | (with_reducible refine op_in hJ hos ?_; intro ok2 op2 of2 oa2 oes2 oil2 hoes2 hop2; have hbl2 := hbl _ _ _ _ _ hop2; cbv)
      | (with_reducible refine op_is hJ hos ho hoes ?_; cbv)
      | (with_reducible refine op_in hJ hos ?_; intro ok op of oa oes oil hoes hop; cbv)
      | (with_reducible refine ed_in hJ hes ?_; intro xf xp hed; cbv)
      | (with_reducible refine ed_in hJ hoes ?_; intro xf xp hed; cbv)
      | intro hh
      | with_reducible refine And.intro ?_ ?_
      | (with_reducible first | refine awp_go ?_ | refine aops_go ?_ | refine strip_go ?_ | refine draw_go ?_ | refine frames_go ?_); cbv)
    all_goals first
      | (refine hM2 _ p1 (J.o.ar .add .i64 c 1) _ ⟨?_, ?_, ?_⟩ ?_ ?_ <;> first | (with_reducible refine wkEnv_go' ?_; cbv; done) | (with_reducible refine wkEnv_go' ?_; cbv; clear h hN hM2; subst hJ; simp only [std, stdOps] at *; grind [wrap64]) | (clear h hN hM2; subst hJ; simp only [std, stdOps] at *; grind [wrap64]))
      | (clear h hN hM2; subst hJ; simp only [std, stdOps] at *; grind)
      | (have hpP : p = P := (by clear h hN hM2; subst hJ; simp only [std, stdOps] at *; grind)
         refine loop_at (β := Int) hJ tab_ok (fun | t => ⟨[(16, .int .i64 t), (10, .int .i64 q), (42, .int .i64 q), (41, .int .i64 (J.o.len os)), (40, .sl 5 os .no), (5, .int .i64 c), (9, .bool true), (8, .int .i64 p3), (7, .sl 2 ys .no), (1, .ptr 0 0)], [.var [.int .i64 n, .sl 5 os .no], .var [.int .i64 ok, .int .i64 op, .int .i64 of, .int .i64 oa, .sl 2 oes .no]], 112⟩) (fun | t => (0 ≤ t) ∧ (t < L)) (fun | t => (L - t).toNat) q ?_ ?_ ?_ ?_
         · exact ⟨q0, hqL⟩
         · refine ⟨?_, ?_, rfl, rfl⟩
           · cbv
             try exact ⟨rfl, trivial⟩
           · cbv
         · rintro t; exact Nat.le_of_ble_eq_true rfl
         rintro t hinv3 Nz Nzh
         obtain ⟨t0, tL⟩ : (0 ≤ t) ∧ (t < L) := hinv3
         have hM3 : ∀ env (t' : Int) v, (0 ≤ t') ∧ (t' < L) → (L - t').toNat < (L - t).toNat → wkEnv env [(16, .int .i64 t'), (10, .int .i64 q), (42, .int .i64 q), (41, .int .i64 (J.o.len os)), (40, .sl 5 os .no), (5, .int .i64 c), (9, .bool true), (8, .int .i64 p3), (7, .sl 2 ys .no), (1, .ptr 0 0)] → Nz ⟨env, [.var [.int .i64 n, .sl 5 os .no], .var [.int .i64 ok, .int .i64 op, .int .i64 of, .int .i64 oa, .sl 2 oes .no]] ++ v, 112⟩ := fun env t' v h1 h2 h3 => Nzh _ t' h1 h2 ⟨h3, by cbv, rfl, rfl⟩
         clear Nzh
         all_goals cbv
         repeat' (first
           | with_reducible exact id
           | exact trivial
           | (have htne : t ≠ p3 := (by clear h hN hM2 hM3; subst hJ; simp only [std, stdOps] at *; grind)
              obtain ⟨⟨tk, tp, tf, ta, til⟩, hto⟩ : ∃ o, l[t.toNat]? = some o := at_of hL t0 tL
              have hpt := has_port hG hs3 hs0 t0 hto htne
              with_reducible refine to_at hJ hos hL hLL hI ?_; intro a1 b1 c1 ht1; obtain ⟨hc1', hqa, haL, hb0, hbl⟩ := leads_at hG hL t0 hto (Int.le_refl 0) hpt ht1; subst hc1'; cbv)
           | (with_reducible refine op_is hJ hos ho hoes ?_; cbv)
           | (with_reducible refine op_in hJ hos ?_; intro ok op of oa oes oil hoes hop; cbv)
           | (with_reducible refine ed_in hJ hes ?_; intro xf xp hed; cbv)
           | (with_reducible refine ed_in hJ hoes ?_; intro xf xp hed; cbv)
           | intro hh
           | with_reducible refine And.intro ?_ ?_
           | (with_reducible first | refine awp_go ?_ | refine aops_go ?_ | refine strip_go ?_ | refine draw_go ?_ | refine frames_go ?_); cbv)
         all_goals first
           | (refine hM3 _ a1 _ ⟨?_, ?_⟩ ?_ ?_ <;> first | (with_reducible refine wkEnv_go' ?_; cbv; done) | (with_reducible refine wkEnv_go' ?_; cbv; clear h hN hM2 hM3; subst hJ; simp only [std, stdOps] at *; grind [wrap64]) | (clear h hN hM2 hM3; subst hJ; simp only [std, stdOps] at *; grind [wrap64]))
           | (refine hN _ q1 c _ ⟨?_, ?_, pAt_next hq1 q0 ho hc hP hpP hcc⟩ ?_ ?_ <;> first | (with_reducible refine wkEnv_go' ?_; cbv; done) | (with_reducible refine wkEnv_go' ?_; cbv; clear h hN hM2 hM3; subst hJ; simp only [std, stdOps] at *; grind [wrap64]) | (clear h hN hM2 hM3; subst hJ; simp only [std, stdOps] at *; grind [wrap64]))
           | (clear h hN hM2 hM3; subst hJ; simp only [std, stdOps] at *; grind))
  

end Go.Proofs.Ytilffanmaicakaa.A
