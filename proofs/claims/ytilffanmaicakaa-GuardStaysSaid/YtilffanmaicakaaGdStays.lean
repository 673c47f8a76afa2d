/- The law GuardStays. -/
import Derived.Test.YtilffanmaicakaaGdDoes
namespace Go.Proofs.Ytilffanmaicakaa.A
open Go Go.Pt Go.Gd

theorem more_fine {a b : Int} (h : a ≤ 9007199254740992) (hb : 0 ≤ b) : a ≤ more a b ∧ more a b ≤ 9007199254740992 ∧ more a b ≤ a + b := by unfold more; omega

theorem fine_tick (g : G) (n : Int) : Fine (Gd.tick g n) := by
  obtain ⟨f1, f2, f3, f4, f5, f6, f7, f8, f9, f10, f11, f12, f13, f14, f15, f16, f17⟩ := fine_may g
  have h := more_fine (a := (may g).c) (b := max 0 n) f2 (by omega)
  unfold Gd.tick
  constructor <;> simp only <;> first | assumption | omega | (intro hk; have := f16 hk; omega)

theorem fine_ask (g : G) : Fine (Gd.ask g).1 := by
  obtain ⟨f1, f2, f3, f4, f5, f6, f7, f8, f9, f10, f11, f12, f13, f14, f15, f16, f17⟩ := fine_may g
  unfold Gd.ask asked
  split
  · exact fine_may g
  · split
    · exact fine_may g
    · constructor <;> simp only <;> grind

theorem fine_granted (g : G) (s e : Int) : Fine (Gd.granted g s e).1 := by
  obtain ⟨f1, f2, f3, f4, f5, f6, f7, f8, f9, f10, f11, f12, f13, f14, f15, f16, f17⟩ := fine_may g
  unfold Gd.granted
  split
  · exact fine_may g
  · rename_i hg
    have h := more_fine (a := (may g).a) (b := 12) f10 (by omega)
    simp only [granting, Bool.or_eq_true, not_or, beq_iff_eq, bne_iff_ne, decide_eq_true_eq, Bool.and_eq_true] at hg
    have := f16 (by omega)
    constructor <;> simp only <;> grind

theorem fine_yield (g : G) : Fine (Gd.yield g) := by
  obtain ⟨f1, f2, f3, f4, f5, f6, f7, f8, f9, f10, f11, f12, f13, f14, f15, f16, f17⟩ := fine_may g
  unfold Gd.yield
  constructor <;> simp only <;> grind

theorem fine_refused (g : G) (s : Int) : Fine (Gd.refused g s).1 := by
  obtain ⟨f1, f2, f3, f4, f5, f6, f7, f8, f9, f10, f11, f12, f13, f14, f15, f16, f17⟩ := fine_may g
  unfold Gd.refused
  split
  · exact fine_may g
  · constructor <;> simp only <;> grind

theorem fine_above (g : G) (e : Int) : Fine (Gd.above g e) := by
  unfold Gd.above
  split
  · exact fine_yield _
  · exact fine_may g

theorem fine_step (g : G) (d n s : Int) (own : Bool) (e : Int) : Fine (step g d n s own e) := by
  unfold step
  split; exact fine_tick _ _
  split; exact fine_ask _
  split; exact fine_granted _ _ _
  split; exact fine_refused _ _
  split; exact fine_yield _
  exact fine_above _ _

theorem chk_fine {g : G} (h : Fine g) : chk g = 0 := by simp [chk, ok_of_fine h]
theorem chk_step (g : G) (d n s : Int) (own : Bool) (e : Int) : chk (step g d n s own e) = 0 := chk_fine (fine_step ..)
theorem may_fine {g : G} (h : Fine g) : may g = g := by simp [may, chk_fine h]
theorem left_le (g : G) : Gd.left g ≤ 12 := by
  unfold Gd.left
  split
  · rename_i h
    have := (bel_fine g h).uc; exact this
  · omega

theorem bel_may {g : G} : Gd.bel g = true → g.c < g.u ∧ g.e ≠ 0 := by
  intro h
  have hf := bel_fine g h
  unfold Gd.bel at h
  rw [may_fine hf] at h
  simp at h; omega

theorem may_or (g : G) : (chk g = 0 ∧ may g = g) ∨ may g = zero := by
  unfold may; split
  · exact .inl ⟨by assumption, rfl⟩
  · exact .inr rfl

/-- Until when a guard believes behind a call. -/
theorem step_until (g : G) (d n s : Int) (own : Bool) (e : Int) (h : Gd.bel (step g d n s own e) = true) :
    (step g d n s own e).u = g.u ∨ (d = 2 ∧ chk g = 0 ∧ g.k ≠ 0 ∧ (step g d n s own e).k = 0 ∧ (step g d n s own e).e ≠ 0 ∧ (step g d n s own e).u ≤ g.a + 12) := by
  obtain ⟨h1, h2⟩ := bel_may h
  have hz : ∀ {x : G}, x.u = (may g).u → x.e = (may g).e → x.e ≠ 0 → x.u = g.u := by
    intro x hu he hx
    rcases may_or g with ⟨_, hm⟩ | hm
    · rw [hu, hm]
    · rw [he, hm] at hx; exact absurd rfl hx
  unfold step at h1 h2 ⊢
  split
  · rename_i h0; simp only [h0, if_true] at h1 h2; exact .inl (hz (x := Gd.tick g n) rfl rfl h2)
  rename_i h0; simp only [h0, if_false] at h1 h2
  split
  · rename_i h0; simp only [h0, if_true] at h1 h2
    left
    refine hz (x := (Gd.ask g).1) ?_ ?_ h2
    · unfold Gd.ask asked; repeat' split
      all_goals rfl
    · unfold Gd.ask asked; repeat' split
      all_goals rfl
  rename_i h0; simp only [h0, if_false] at h1 h2
  split
  · rename_i h0; simp only [h0, if_true] at h1 h2
    generalize (if own = true then g.s else s) = s' at *
    generalize (if (own && g.k == 2) = true then g.e else e) = e' at *
    unfold Gd.granted at h1 h2 ⊢
    split
    · rename_i hg; simp only [hg, if_true] at h1 h2; exact .inl (hz rfl rfl h2)
    · rename_i hg; simp only [hg, Bool.false_eq_true, if_false] at h1 h2
      rcases may_or g with ⟨hc, hm⟩ | hm
      · simp only [hm] at hg h1 ⊢
        have hb := more_fine (a := g.a) (b := 12) (by have := (fine_may g).a1; rwa [hm] at this) (by omega)
        simp only [granting, Bool.or_eq_true, not_or, beq_iff_eq, bne_iff_ne, decide_eq_true_eq, Bool.and_eq_true] at hg
        split
        · rename_i hk
          simp only [hk, if_true] at h1
          by_cases hu : g.u ≤ more g.a 12
          · right; exact ⟨by assumption, hc, by omega, by trivial, h2, by omega⟩
          · left; omega
        · right; exact ⟨by assumption, hc, by omega, by trivial, h2, by omega⟩
      · simp [hm, granting, zero] at hg
  rename_i h0; simp only [h0, if_false] at h1 h2
  split
  · rename_i h0; simp only [h0, if_true] at h1 h2
    generalize (if own = true then g.s else s) = s' at *
    unfold Gd.refused at h1 h2 ⊢
    split
    · rename_i hg; simp only [hg, if_true] at h1 h2; exact .inl (hz rfl rfl h2)
    · rename_i hg; simp only [hg, if_false] at h1 h2
      simp only at h1 h2 ⊢
      split
      · rename_i hk; simp [hk] at h2
      · rename_i hk; simp only [hk, if_false] at h1 h2
        left
        exact hz (x := ⟨(may g).c, (may g).e, (may g).u, (may g).s, 0, 0⟩) rfl rfl h2
  rename_i h0; simp only [h0, if_false] at h1 h2
  split
  · rename_i h0; simp only [h0, if_true] at h1 h2; simp [Gd.yield] at h2
  rename_i h0; simp only [h0, if_false] at h1 h2
  generalize (if (own && g.k == 2) = true then g.e else e) = e' at *
  unfold Gd.above at h1 h2 ⊢
  split
  · rename_i hg; rw [if_pos hg] at h2; simp [Gd.yield] at h2
  · rename_i hg; rw [if_neg hg] at h1 h2; exact .inl (hz rfl rfl h2)

/-- One round: what is held against a guard is never so. -/
theorem stays_round {g : G} {d n s : Int} {own : Bool} {e A : Int} (hc : d = 2 → chk g = 0 → g.k ≠ 0 → (step g d n s own e).k = 0 → (step g d n s own e).e ≠ 0 → g.a ≤ A)
    (hb : Gd.bel (step g d n s own e) = true) (h1 : (step g d n s own e).c - A ≥ 12) (h2 : g.u ≤ A + 12) : False := by
  obtain ⟨h3, h4⟩ := bel_may hb
  rcases step_until g d n s own e hb with h | ⟨k1, k2, k3, k4, k5, k6⟩
  · omega
  · have := hc k1 k2 k3 k4 k5; omega

theorem stays_at {J : Jd} {n₀ : Nat} (hJ : J = std Try.prog n₀) (q : Int) {c e u s k a d n sr : Int} {own : Bool} {ep : Int} {σ K E} (h : ∀ c' e' u' s' k' a' : Int, Gd.chk ⟨c', e', u', s', k', a'⟩ = 0 → Gd.left ⟨c', e', u', s', k', a'⟩ ≤ 12 → 0 ≤ c' ∧ c' ≤ 9007199254740992 → (Gd.chk ⟨c, e, u, s, k, a⟩ = 0 → 0 ≤ a ∧ a ≤ 9007199254740992) →
      (¬ (d = 2 ∧ Gd.chk ⟨c, e, u, s, k, a⟩ = 0 ∧ k ≠ 0 ∧ k' = 0 ∧ e' ≠ 0) ∨ a ≤ q → Gd.bel ⟨c', e', u', s', k', a'⟩ = true → c' - q ≥ 12 → u ≤ q + 12 → False) →
      (Gd.bel ⟨c', e', u', s', k', a'⟩ = true → c' - a ≥ 12 → u ≤ a + 12 → False) →
      K (.tup [.agg [.int .i64 c', .int .i64 e', .int .i64 u', .int .i64 s', .int .i64 k', .int .i64 a'], .bool true]) σ) :
    J.call 12 [.agg [.int .i64 c, .int .i64 e, .int .i64 u, .int .i64 s, .int .i64 k, .int .i64 a], .agg [.int .i64 d, .int .i64 n, .int .i64 sr, .bool own, .int .i64 ep]] σ K E := by
  refine call_pure hJ (does_call c e u s k a d n sr own ep) (h _ _ _ _ _ _ (chk_step ⟨c, e, u, s, k, a⟩ d n sr own ep) (left_le _) ?_ ?_ ?_ ?_)
  · have := fine_step ⟨c, e, u, s, k, a⟩ d n sr own ep; exact ⟨this.c0, this.c1⟩
  · intro h0
    have hf := fine_may ⟨c, e, u, s, k, a⟩
    rw [show may ⟨c, e, u, s, k, a⟩ = ⟨c, e, u, s, k, a⟩ by simp [may, h0]] at hf
    exact ⟨hf.a0, hf.a1⟩
  · intro h0 h1 h2 h3
    refine stays_round (g := ⟨c, e, u, s, k, a⟩) (A := q) (fun k1 k2 k3 k4 k5 => ?_) h1 h2 h3
    rcases h0 with h0 | h0
    · exact absurd ⟨k1, k2, k3, k4, k5⟩ h0
    · exact h0
  · intro h1 h2 h3
    exact stays_round (g := ⟨c, e, u, s, k, a⟩) (A := a) (fun _ _ _ _ _ => Int.le_refl _) h1 h2 h3

set_option maxHeartbeats 4000000 in
set_option maxRecDepth 100000 in
theorem guardStays_call (c e u s k a : Int) (l : List C) (xs : List AV) (hx : xs = l.map C.av) (m : Int) (hm : m = l.length) (hl : (l.length : Int) < 2 ^ 48) (K E) (h : K (.bool true) []) : CallA Try.prog 3 [.agg [.int .i64 c, .int .i64 e, .int .i64 u, .int .i64 s, .int .i64 k, .int .i64 a], .sl 5 xs .no] [] K E := by
  refine call_fn tab_ok [] Try.func3 rfl rfl rfl rfl (by decide) ?_
  intro J hJ
  have hl0 : 0 ≤ (l.length : Int) := Int.natCast_nonneg _
  have hsz : J.o.len xs = m := by subst hJ; simp [std, stdOps, hx, hm]
  cbv
  repeat' (first
    | with_reducible exact id
    | intro hh
    | with_reducible refine fit_bool h ?_
    | (with_reducible refine begun_at hJ ?_; intros)
    | with_reducible refine And.intro ?_ ?_
    | (with_reducible first | refine awp_go ?_ | refine aops_go ?_ | refine strip_go ?_ | refine draw_go ?_); cbv)
  all_goals first
    | (subst hJ; simp only [std, stdOps] at *; grind)
    | with_reducible refine loop_at (β := Int × G × Int) hJ tab_ok (fun b => ⟨[(13, .int .i64 b.1), (12, .int .i64 m), (11, .sl 5 xs .no), (5, .int .i64 b.2.2), (2, .ptr 0 0)], [.var [.int .i64 b.2.1.c, .int .i64 b.2.1.e, .int .i64 b.2.1.u, .int .i64 b.2.1.s, .int .i64 b.2.1.k, .int .i64 b.2.1.a]], 78⟩) (fun b => 0 ≤ b.1 ∧ b.1 ≤ m ∧ -1 ≤ b.2.2 ∧ b.2.2 ≤ 9007199254740992) (fun b => (m + 1 - b.1).toNat) (0, ⟨c, e, u, s, k, a⟩, -1) ?_ ?_ ?_ ?_
  · exact ⟨Int.le_refl _, by show (0 : Int) ≤ m; omega, Int.le_refl _, by show (-1 : Int) ≤ 9007199254740992; omega⟩
  · refine ⟨?_, ?_, rfl, rfl⟩
    · cbv
      subst hJ
      simp only [std, stdOps] at hsz ⊢
      rw [hsz]
      exact ⟨rfl, trivial⟩
    · cbv
  · intro b; exact Nat.zero_le _
  · rintro ⟨i, ⟨gc, ge, gu, gs, gk, ga⟩, q⟩ ⟨h1, h2, h3, h4⟩ N hN
    replace h1 : 0 ≤ i := h1
    replace h2 : i ≤ m := h2
    replace h3 : -1 ≤ q := h3
    replace h4 : q ≤ 9007199254740992 := h4
    obtain ⟨i1, hi1⟩ : ∃ i1 : Int, i1 = i + 1 := ⟨_, rfl⟩
    have hN' : ∀ env c e u s k a q v1 v2, i < m → -1 ≤ q → q ≤ 9007199254740992 → wkEnv env [(13, .int .i64 i1), (12, .int .i64 m), (11, .sl 5 xs .no), (5, .int .i64 q), (2, .ptr 0 0)] → N ⟨env, [.var [.int .i64 c, .int .i64 e, .int .i64 u, .int .i64 s, .int .i64 k, .int .i64 a], v1, v2], 78⟩ := by
      intro env c e u s k a q v1 v2 hlt hq1 hq2 henv
      refine hN _ (i1, ⟨c, e, u, s, k, a⟩, q) ⟨by show 0 ≤ i1; omega, by show i1 ≤ m; omega, hq1, hq2⟩ (by show (m + 1 - i1).toNat < (m + 1 - i).toNat; omega) ⟨henv, ?_, rfl, rfl⟩
      exact ⟨⟨rfl, rfl, rfl, rfl, rfl, rfl, trivial⟩, trivial⟩
    clear hN
    cbv
    repeat' (first
      | with_reducible exact id
      | (with_reducible refine get_av hJ hx ?_; intros)
      | intro hh
      | with_reducible refine fit_bool h ?_
      | (with_reducible refine chk_at hJ ?_; intros)
      | (with_reducible refine chk_pure hJ ?_; intros)
      | (with_reducible refine bel_at hJ ?_; intros)
      | (with_reducible refine bel_pure hJ ?_; intros)
      | (with_reducible refine left_at hJ ?_; intros)
      | (with_reducible refine left_pure hJ ?_; intros)
      | (with_reducible refine stays_at hJ q ?_; intros)
      | with_reducible refine And.intro ?_ ?_
      | (with_reducible first | refine awp_go ?_ | refine aops_go ?_ | refine strip_go ?_ | refine draw_go ?_); cbv)
    all_goals first
      | (with_reducible refine hN' _ _ _ _ _ _ _ q _ _ ?_ ?_ ?_ ?_ <;> first
          | (with_reducible refine wkEnv_go ?_; cbv; subst hJ; simp only [std, stdOps] at * <;> grind [wrap64])
          | (subst hJ; simp only [std, stdOps] at * <;> grind [wrap64]))
      | (with_reducible refine hN' _ _ _ _ _ _ _ (J.o.mx q ga) _ _ ?_ ?_ ?_ ?_ <;> first
          | (with_reducible refine wkEnv_go ?_; cbv; subst hJ; simp only [std, stdOps] at * <;> grind [wrap64])
          | (subst hJ; simp only [std, stdOps] at * <;> grind [wrap64]))
      | (subst hJ; simp only [std, stdOps] at * <;> grind [wrap64])
end Go.Proofs.Ytilffanmaicakaa.A
