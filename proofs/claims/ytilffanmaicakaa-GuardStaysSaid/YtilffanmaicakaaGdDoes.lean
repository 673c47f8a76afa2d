/- The law GuardDoes. -/
import Derived.Test.YtilffanmaicakaaGdLaw
namespace Go.Proofs.Ytilffanmaicakaa.A
open Go Go.Pt Go.Gd

theorem does_at {J : Jd} {n₀ : Nat} (hJ : J = std Try.prog n₀) {c e u s k a d n sr : Int} {own : Bool} {ep : Int} {σ K E} (h : ∀ c' e' u' s' k' a' : Int, ⟨c', e', u', s', k', a'⟩ = step ⟨c, e, u, s, k, a⟩ d n sr own ep → K (.tup [.agg [.int .i64 c', .int .i64 e', .int .i64 u', .int .i64 s', .int .i64 k', .int .i64 a'], .bool true]) σ) :
    J.call 12 [.agg [.int .i64 c, .int .i64 e, .int .i64 u, .int .i64 s, .int .i64 k, .int .i64 a], .agg [.int .i64 d, .int .i64 n, .int .i64 sr, .bool own, .int .i64 ep]] σ K E := call_pure hJ (does_call c e u s k a d n sr own ep) (h _ _ _ _ _ _ rfl)
theorem does_pure {J : Jd} {n₀ : Nat} (hJ : J = std Try.prog n₀) {c e u s k a d n sr : Int} {own : Bool} {ep : Int} {K : AV → Prop} (h : ∀ c' e' u' s' k' a' : Int, ⟨c', e', u', s', k', a'⟩ = step ⟨c, e, u, s, k, a⟩ d n sr own ep → K (.tup [.agg [.int .i64 c', .int .i64 e', .int .i64 u', .int .i64 s', .int .i64 k', .int .i64 a'], .bool true])) :
    J.pure 12 [.agg [.int .i64 c, .int .i64 e, .int .i64 u, .int .i64 s, .int .i64 k, .int .i64 a], .agg [.int .i64 d, .int .i64 n, .int .i64 sr, .bool own, .int .i64 ep]] K := pure_at hJ (does_call c e u s k a d n sr own ep) (fun _ => rfl) (h _ _ _ _ _ _ rfl)

/-- A call. -/
structure C where
  d : Int
  n : Int
  s : Int
  own : Bool
  e : Int
def C.av (c : C) : AV := .agg [.int .i64 c.d, .int .i64 c.n, .int .i64 c.s, .bool c.own, .int .i64 c.e]

theorem wkEnv_go {a b} (h : wkEnv a b) : wkEnv a b := h
theorem get_av {J : Jd} {n₀ : Nat} (hJ : J = std Try.prog n₀) {xs : List AV} {l : List C} (hx : xs = l.map C.av) {i : Int} {P : AV → Prop}
    (h : ∀ (d n s : Int) (own : Bool) (e : Int), l[i.toNat]? = some ⟨d, n, s, own, e⟩ → P (.agg [.int .i64 d, .int .i64 n, .int .i64 s, .bool own, .int .i64 e])) : ∀ e, J.o.get xs i = some e → P e := by
  subst hJ hx
  intro e he
  simp only [std, stdOps, List.getElem?_map, Option.map_eq_some_iff] at he
  obtain ⟨c, hc, rfl⟩ := he
  exact h _ _ _ _ _ hc

set_option maxHeartbeats 4000000 in
set_option maxRecDepth 100000 in
theorem guardDoes_call (c e u s k a : Int) (l : List C) (xs : List AV) (hx : xs = l.map C.av) (m : Int) (hm : m = l.length + 1) (hl : (l.length : Int) < 2 ^ 48) (K E) (h : K (.bool true) []) : CallA Try.prog 4 [.agg [.int .i64 c, .int .i64 e, .int .i64 u, .int .i64 s, .int .i64 k, .int .i64 a], .sl 5 xs .no] [] K E := by
  refine call_fn tab_ok [] Try.func4 rfl rfl rfl rfl (by decide) ?_
  intro J hJ
  have hl0 : 0 ≤ (l.length : Int) := Int.natCast_nonneg _
  have hsz : J.o.len xs = l.length := by subst hJ; simp [std, stdOps, hx]
  cbv
  repeat' (first
    | with_reducible exact id
    | intro hh
    | with_reducible refine fit_bool h ?_
    | (with_reducible refine begun_at hJ ?_; intros)
    | (with_reducible refine new_at hJ ?_; intros)
    | with_reducible refine And.intro ?_ ?_
    | (with_reducible first | refine awp_go ?_ | refine aops_go ?_ | refine strip_go ?_ | refine draw_go ?_); cbv)
  all_goals first
    | (subst hJ; simp only [std, stdOps] at *; grind [zero])
    | with_reducible refine loop_at (β := Int × G) hJ tab_ok (fun b => ⟨[(17, .int .i64 b.1), (16, .int .i64 m), (2, .ptr 0 0), (1, .sl 5 xs .no)], [.var [.int .i64 b.2.c, .int .i64 b.2.e, .int .i64 b.2.u, .int .i64 b.2.s, .int .i64 b.2.k, .int .i64 b.2.a]], 62⟩) (fun b => 0 ≤ b.1 ∧ b.1 ≤ m) (fun b => (m + 1 - b.1).toNat) (0, ⟨c, e, u, s, k, a⟩) ?_ ?_ ?_ ?_
  · exact ⟨Int.le_refl _, by show (0 : Int) ≤ m; omega⟩
  · refine ⟨?_, ?_, rfl, rfl⟩
    · cbv
      subst hJ
      simp only [std, stdOps] at hsz ⊢
      have hw := wrap64 (n := (xs.length : Int) + 1) (by omega) (by omega)
      rw [hw, hsz, hm]
      exact ⟨rfl, trivial⟩
    · cbv
  · intro b; exact Nat.zero_le _
  · rintro ⟨i, g⟩ ⟨h1, h2⟩ N hN
    replace h1 : 0 ≤ i := h1
    replace h2 : i ≤ m := h2
    obtain ⟨i1, hi1⟩ : ∃ i1 : Int, i1 = i + 1 := ⟨_, rfl⟩
    have hN' : ∀ env c e u s k a, i < m → wkEnv env [(17, .int .i64 i1), (16, .int .i64 m), (2, .ptr 0 0), (1, .sl 5 xs .no)] → N ⟨env, [.var [.int .i64 c, .int .i64 e, .int .i64 u, .int .i64 s, .int .i64 k, .int .i64 a]], 62⟩ := by
      intro env c e u s k a hlt henv
      refine hN _ (i1, ⟨c, e, u, s, k, a⟩) ⟨by show 0 ≤ i1; omega, by show i1 ≤ m; omega⟩ (by show (m + 1 - i1).toNat < (m + 1 - i).toNat; omega) ⟨henv, ?_, rfl, rfl⟩
      exact ⟨⟨rfl, rfl, rfl, rfl, rfl, rfl, trivial⟩, trivial⟩
    clear hN
    cbv
    repeat' (first
      | with_reducible exact id
      | (with_reducible refine get_av hJ hx ?_; intros)
      | intro hh
      | with_reducible refine fit_bool h ?_
      | (with_reducible refine chk_at hJ ?_; intros)
      | (with_reducible refine chk_pure hJ ?_; intros)
      | (with_reducible refine chk'_at hJ ?_; intros)
      | (with_reducible refine chk'_pure hJ ?_; intros)
      | (with_reducible refine bel_at hJ ?_; intros)
      | (with_reducible refine bel_pure hJ ?_; intros)
      | (with_reducible refine bel'_at hJ ?_; intros)
      | (with_reducible refine bel'_pure hJ ?_; intros)
      | (with_reducible refine left_at hJ ?_; intros)
      | (with_reducible refine left_pure hJ ?_; intros)
      | (with_reducible refine left'_at hJ ?_; intros)
      | (with_reducible refine left'_pure hJ ?_; intros)
      | (with_reducible refine due_at hJ ?_; intros)
      | (with_reducible refine due_pure hJ ?_; intros)
      | (with_reducible refine due'_at hJ ?_; intros)
      | (with_reducible refine due'_pure hJ ?_; intros)
      | (with_reducible refine does_at hJ ?_; intros)
      | (with_reducible refine does_pure hJ ?_; intros)
      | with_reducible refine And.intro ?_ ?_
      | (with_reducible first | refine awp_go ?_ | refine aops_go ?_ | refine strip_go ?_ | refine draw_go ?_); cbv)
    all_goals try with_reducible refine hN' _ _ _ _ _ _ _ ?_ ?_
    all_goals try (with_reducible refine wkEnv_go ?_; cbv)
    all_goals subst hJ
    all_goals try simp only [std, stdOps] at *
    all_goals grind [wrap64]
end Go.Proofs.Ytilffanmaicakaa.A
