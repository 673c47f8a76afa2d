/- What drifts does. -/
import Derived.Test.YtilffanmaicakaaNvPlain2
namespace Go.Proofs.Ytilffanmaicakaa.A
open Go Go.Pt Go.Gd Go.Ls Go.Nv

theorem wkEnv_go {e f} (h : wkEnv e f) : wkEnv e f := h
set_option maxHeartbeats 8000000 in
set_option maxRecDepth 100000 in
theorem drifts_call (c0 e0 u0 s0 k0 a0 c1 e1 u1 s1 k1 a1 lo lp le lc lu clk qa0 qo0 qa1 qo1 : Int) (lz h0 h1 : Bool) (m0 m1 : List (Int × Int × Int)) (n : Int) (bag : List Lt) (hn : 0 ≤ n ∧ n ≤ 400) (hinv : Inv n ⟨⟨c0, e0, u0, s0, k0, a0⟩, m0, qa0, qo0, h0⟩ ⟨⟨c1, e1, u1, s1, k1, a1⟩, m1, qa1, qo1, h1⟩ ⟨lo, lp, le, lc, lu, lz⟩ bag clk) (N : Int) (xs : List AV) (es0 es1 : List (AV × AV)) (he0 : es0 = encM m0) (he1 : es1 = encM m1) (K E)
    (h : ∀ (r : Bool) (es0' es1' : List (AV × AV)), es0' = encM m0 → es1' = encM m1 → (r = false → (h0 = true → Gd.bel ⟨c0, e0, u0, s0, k0, a0⟩ = true → clk - qa0 - (c0 - qo0) ≤ 4) ∧ (h1 = true → Gd.bel ⟨c1, e1, u1, s1, k1, a1⟩ = true → clk - qa1 - (c1 - qo1) ≤ 4)) → K (.bool r) [.var [.int .i64 c0, .int .i64 e0, .int .i64 u0, .int .i64 s0, .int .i64 k0, .int .i64 a0, .int .i64 c1, .int .i64 e1, .int .i64 u1, .int .i64 s1, .int .i64 k1, .int .i64 a1, .int .i64 lo, .int .i64 lp, .int .i64 le, .int .i64 lc, .int .i64 lu, .bool lz, .vs 3 5 0 N N, .int .i64 clk, .mp 1, .mp 2, .int .i64 qa0, .int .i64 qo0, .int .i64 qa1, .int .i64 qo1, .bool h0, .bool h1], .mp es0', .mp es1', .vec 5 xs]) :
    CallA Try.prog 24 [.ptr 0 0] [.var [.int .i64 c0, .int .i64 e0, .int .i64 u0, .int .i64 s0, .int .i64 k0, .int .i64 a0, .int .i64 c1, .int .i64 e1, .int .i64 u1, .int .i64 s1, .int .i64 k1, .int .i64 a1, .int .i64 lo, .int .i64 lp, .int .i64 le, .int .i64 lc, .int .i64 lu, .bool lz, .vs 3 5 0 N N, .int .i64 clk, .mp 1, .mp 2, .int .i64 qa0, .int .i64 qo0, .int .i64 qa1, .int .i64 qo1, .bool h0, .bool h1], .mp es0, .mp es1, .vec 5 xs] K E := by
  have w0 := hinv.x.a0; have w1 := hinv.x.a1; have w2 := hinv.x.o0; have w3 := hinv.x.o1; have w4 := hinv.x.c; have w5 := hinv.x.fine.c0
  have v0 := hinv.y.a0; have v1 := hinv.y.a1; have v2 := hinv.y.o0; have v3 := hinv.y.o1; have v4 := hinv.y.c; have v5 := hinv.y.fine.c0
  have w6 := hinv.l.c1
  simp only at w0 w1 w2 w3 w4 w5 v0 v1 v2 v3 v4 v5
  refine call_fn (n₀ := 4) tab_ok [] Try.func24 rfl rfl rfl rfl (by simp [rangeN, snoc]) ?_
  intro J hJ
  cbv
  refine loop_at (β := Int) hJ tab_ok (fun b => ⟨[(4, .int .i64 b), (0, .ptr 0 0)], [.var [.int .i64 c0, .int .i64 e0, .int .i64 u0, .int .i64 s0, .int .i64 k0, .int .i64 a0, .int .i64 c1, .int .i64 e1, .int .i64 u1, .int .i64 s1, .int .i64 k1, .int .i64 a1, .int .i64 lo, .int .i64 lp, .int .i64 le, .int .i64 lc, .int .i64 lu, .bool lz, .vs 3 5 0 N N, .int .i64 clk, .mp 1, .mp 2, .int .i64 qa0, .int .i64 qo0, .int .i64 qa1, .int .i64 qo1, .bool h0, .bool h1], .mp es0, .mp es1, .vec 5 xs], 54⟩) (fun b => 0 ≤ b ∧ b ≤ 2 ∧ (1 ≤ b → (h0 = true → Gd.bel ⟨c0, e0, u0, s0, k0, a0⟩ = true → clk - qa0 - (c0 - qo0) ≤ 4)) ∧ (2 ≤ b → (h1 = true → Gd.bel ⟨c1, e1, u1, s1, k1, a1⟩ = true → clk - qa1 - (c1 - qo1) ≤ 4))) (fun b => (3 - b).toNat) 0 ?_ ?_ ?_ ?_
  · exact ⟨Int.le_refl _, by decide, fun h => absurd h (by decide), fun h => absurd h (by decide)⟩
  · refine ⟨?_, ?_, okS_of (by rfl) ⟨okE_mp he0, okE_mp he1⟩, rfl⟩
    · cbv
    · cbv
  · intro b; exact Nat.le_refl _
  · intro b hb Nx hN
    have hN' : ∀ env, 0 ≤ b → b < 2 → (1 ≤ b + 1 → (h0 = true → Gd.bel ⟨c0, e0, u0, s0, k0, a0⟩ = true → clk - qa0 - (c0 - qo0) ≤ 4)) → (2 ≤ b + 1 → (h1 = true → Gd.bel ⟨c1, e1, u1, s1, k1, a1⟩ = true → clk - qa1 - (c1 - qo1) ≤ 4)) → wkEnv env [(4, .int .i64 (b + 1)), (0, .ptr 0 0)] → Nx ⟨env, [.var [.int .i64 c0, .int .i64 e0, .int .i64 u0, .int .i64 s0, .int .i64 k0, .int .i64 a0, .int .i64 c1, .int .i64 e1, .int .i64 u1, .int .i64 s1, .int .i64 k1, .int .i64 a1, .int .i64 lo, .int .i64 lp, .int .i64 le, .int .i64 lc, .int .i64 lu, .bool lz, .vs 3 5 0 N N, .int .i64 clk, .mp 1, .mp 2, .int .i64 qa0, .int .i64 qo0, .int .i64 qa1, .int .i64 qo1, .bool h0, .bool h1], .mp es0, .mp es1, .vec 5 xs], 54⟩ := by
      intro env h0 h2 g1 g2 henv
      exact hN _ (b + 1) ⟨by omega, by omega, g1, g2⟩ (by show (3 - (b + 1)).toNat < (3 - b).toNat; omega) ⟨henv, by cbv, okS_of (by rfl) ⟨okE_mp he0, okE_mp he1⟩, rfl⟩
    clear hN
    obtain ⟨hb0, hb2, hd0, hd1⟩ := hb
    have hcase : b = 0 ∨ b = 1 ∨ b = 2 := by omega
    have hd : ∀ (r : Bool) (es0' es1' : List (AV × AV)), es0' = encM m0 → es1' = encM m1 → (r = false → b = 2) → K (.bool r) [.var [.int .i64 c0, .int .i64 e0, .int .i64 u0, .int .i64 s0, .int .i64 k0, .int .i64 a0, .int .i64 c1, .int .i64 e1, .int .i64 u1, .int .i64 s1, .int .i64 k1, .int .i64 a1, .int .i64 lo, .int .i64 lp, .int .i64 le, .int .i64 lc, .int .i64 lu, .bool lz, .vs 3 5 0 N N, .int .i64 clk, .mp 1, .mp 2, .int .i64 qa0, .int .i64 qo0, .int .i64 qa1, .int .i64 qo1, .bool h0, .bool h1], .mp es0', .mp es1', .vec 5 xs] := fun r _ _ q0 q1 hr => h r _ _ q0 q1 fun h0 => ⟨hd0 (by have := hr h0; omega), hd1 (by have := hr h0; omega)⟩
    rcases hcase with rfl | rfl | rfl
    all_goals
      cbv
      repeat' (first
        | with_reducible exact id
        | exact trivial
        | with_reducible refine hd _ _ _ ?_ ?_ ?_
        | intro hh
        | (with_reducible refine bel_at hJ ?_; intros)
        | with_reducible refine And.intro ?_ ?_
        | (with_reducible first | refine awp_go ?_ | refine aops_go ?_ | refine strip_go ?_ | refine draw_go ?_ | refine frames_go ?_); cbv)
      all_goals first
        | rfl
        | (subst he0; cases m0 <;> simp [encM, encP, Pt.ren, Function.comp_def]; done)
        | (subst he1; cases m1 <;> simp [encM, encP, Pt.ren, Function.comp_def]; done)
        | (refine hN' _ ?_ ?_ ?_ ?_ ?_ <;> first
            | (with_reducible refine wkEnv_go ?_; cbv; subst hJ; first | exact ⟨rfl, trivial⟩ | exact ⟨rfl, rfl, trivial⟩)
            | (clear hN' hd h hinv; subst hJ; simp only [std, stdOps] at *; first | rfl | decide | (simp at *; done) | grind [wrap64]))
        | (clear hN' hd h hinv; subst hJ; simp only [std, stdOps] at *; first | rfl | decide | (simp at *; done) | grind [wrap64])
        | skip
end Go.Proofs.Ytilffanmaicakaa.A
