/- The law GuardNever. -/
import Derived.Test.YtilffanmaicakaaNvMoves
import Derived.Test.YtilffanmaicakaaNvDrifts
import Derived.Test.YtilffanmaicakaaNvBegun
namespace Go.Proofs.Ytilffanmaicakaa.A
open Go Go.Pt Go.Gd Go.Ls Go.Nv

structure Mv where
  d : Int
  r : Int
  n : Int
  w : Int
  t : Bool
def Mv.av (x : Mv) : AV := .agg [.int .i64 x.d, .int .i64 x.r, .int .i64 x.n, .int .i64 x.w, .bool x.t]

theorem get_mv {J : Jd} {n₀ : Nat} (hJ : J = std Try.prog n₀) {l : List Mv} {ms : List AV} (hm : ms = l.map Mv.av) {i k : Int} {K : AV → Prop} (h : ∀ d r n w t, K (.agg [.int .i64 d, .int .i64 r, .int .i64 n, .int .i64 w, .bool t])) : ∀ e, J.o.get (J.o.sub ms 0 k) i = some e → K e := by
  subst hJ hm
  intro e he
  simp only [std, stdOps] at he
  have hmem := List.mem_of_mem_take (List.mem_of_mem_drop (List.mem_of_getElem? he))
  obtain ⟨x, _, rfl⟩ := List.mem_map.1 hmem
  exact h _ _ _ _ _

theorem heap4 {e0 e1 e2 e3 f0 f1 f2 f3 : Ent} (h0 : e0 = f0) (h1 : e1 = f1) (h2 : e2 = f2) (h3 : e3 = f3) : [e0, e1, e2, e3] = [f0, f1, f2, f3] := by rw [h0, h1, h2, h3]

structure B where
  i : Int
  X : Sd
  Y : Sd
  l : L
  bag : List Lt
  clk : Int
  es0 : List (AV × AV)
  es1 : List (AV × AV)
  xs : List AV
  N : Int

theorem inv_0 : Nv.Inv 0 ⟨⟨0, 0, 0, 0, 0, 0⟩, [], 0, 0, false⟩ ⟨⟨0, 0, 0, 0, 0, 0⟩, [], 0, 0, false⟩ ⟨-1, -1, 0, 0, 0, false⟩ [] 0 := by
  have hf : Fine ⟨0, 0, 0, 0, 0, 0⟩ := fine_of_ok ok_zero
  have hs : ∀ r, SideOk 0 r ⟨⟨0, 0, 0, 0, 0, 0⟩, [], 0, 0, false⟩ ⟨-1, -1, 0, 0, 0, false⟩ [] 0 := fun r =>
    ⟨hf, Int.le_refl _, Int.le_refl _, Int.le_refl _, Int.le_refl _, Int.le_refl _, Int.le_refl _, Int.le_refl _, fun h => absurd rfl h, fun h => absurd rfl h, fun _ => rfl, fun x hx => by simp at hx, fun x hx => by simp at hx, fun x hx => by simp at hx, fun x hx => by simp at hx⟩
  exact ⟨hs 0, hs 1, ⟨by rfl, rfl, rfl, Int.le_refl _, Int.le_refl _, Int.le_refl _⟩, Int.le_refl _, fun z hz => by simp at hz⟩

theorem never_end {c0 e0 u0 s0 k0 a0 c1 e1 u1 s1 k1 a1 lo lp le lc lu clk qa0 qo0 qa1 qo1 : Int} {lz h0 h1 : Bool} {m0 m1 : List (Int × Int × Int)} {n : Int} {bag : List Lt} (hinv : Inv n ⟨⟨c0, e0, u0, s0, k0, a0⟩, m0, qa0, qo0, h0⟩ ⟨⟨c1, e1, u1, s1, k1, a1⟩, m1, qa1, qo1, h1⟩ ⟨lo, lp, le, lc, lu, lz⟩ bag clk) (h : (h0 = true → Gd.bel ⟨c0, e0, u0, s0, k0, a0⟩ = true → clk - qa0 - (c0 - qo0) ≤ 4) ∧ (h1 = true → Gd.bel ⟨c1, e1, u1, s1, k1, a1⟩ = true → clk - qa1 - (c1 - qo1) ≤ 4))
    (b0 : Gd.bel ⟨c0, e0, u0, s0, k0, a0⟩ = true) (b1 : Gd.bel ⟨c1, e1, u1, s1, k1, a1⟩ = true) : False := by
  have := hinv.x.owner b0 (fun hh => h.1 hh b0)
  have := hinv.y.owner b1 (fun hh => h.2 hh b1)
  omega

set_option maxHeartbeats 8000000 in
set_option maxRecDepth 100000 in
theorem guardNever_call (l : List Mv) (ms : List AV) (hms : ms = l.map Mv.av) (hll : (l.length : Int) < 2 ^ 48) (K E) (h : K (.bool true) []) : CallA Try.prog 5 [.sl 5 ms .no] [] K E := by
  refine call_fn (n₀ := 0) tabA_ok [] Try.func5 rfl rfl rfl rfl (by decide) ?_
  intro J hJ
  obtain ⟨m, hm⟩ : ∃ m : Int, m = J.o.len (J.o.sub ms 0 (J.o.mn (J.o.len ms) 400)) := ⟨_, rfl⟩
  have hm4 : 0 ≤ m ∧ m ≤ 400 := by subst hJ hm; simp only [std, stdOps, List.length_drop, List.length_take]; split <;> omega
  cbv
  repeat' (first
    | with_reducible exact id
    | exact trivial
    | with_reducible refine fit_bool h ?_
    | (with_reducible refine begun_at hJ ?_; intros)
    | (with_reducible refine ls_new_at hJ ?_; intro lo lp le lc lu lz hnew)
    | intro hh
    | with_reducible refine And.intro ?_ ?_
    | (with_reducible first | refine awp_go ?_ | refine aops_go ?_ | refine strip_go ?_ | refine draw_go ?_ | refine frames_go ?_); cbv)
  · exfalso; subst hJ; simp only [std, stdOps] at hh; simp at hh
  refine loop_at (β := Nat) hJ tabA_ok (fun b => ⟨[(12, .int .i64 (match b with | 0 => 0 | 1 => 1 | _ => 2)), (11, .ptr 0 0), (3, .ptr 0 0), (0, .sl 5 ms .no)], (match b with | 0 => [.var [.int .i64 0, .int .i64 0, .int .i64 0, .int .i64 0, .int .i64 0, .int .i64 0, .int .i64 0, .int .i64 0, .int .i64 0, .int .i64 0, .int .i64 0, .int .i64 0, .int .i64 lo, .int .i64 lp, .int .i64 le, .int .i64 lc, .int .i64 lu, .bool lz, .nils, .int .i64 0, .nilm, .nilm, .int .i64 0, .int .i64 0, .int .i64 0, .int .i64 0, .bl false, .bl false]] | 1 => [.var [.int .i64 0, .int .i64 0, .int .i64 0, .int .i64 0, .int .i64 0, .int .i64 0, .int .i64 0, .int .i64 0, .int .i64 0, .int .i64 0, .int .i64 0, .int .i64 0, .int .i64 lo, .int .i64 lp, .int .i64 le, .int .i64 lc, .int .i64 lu, .bool lz, .nils, .int .i64 0, .mp 1, .nilm, .int .i64 0, .int .i64 0, .int .i64 0, .int .i64 0, .bl false, .bl false], .mp []] | _ => [.var [.int .i64 0, .int .i64 0, .int .i64 0, .int .i64 0, .int .i64 0, .int .i64 0, .int .i64 0, .int .i64 0, .int .i64 0, .int .i64 0, .int .i64 0, .int .i64 0, .int .i64 lo, .int .i64 lp, .int .i64 le, .int .i64 lc, .int .i64 lu, .bool lz, .nils, .int .i64 0, .mp 1, .mp 2, .int .i64 0, .int .i64 0, .int .i64 0, .int .i64 0, .bl false, .bl false], .mp [], .mp []]), 52⟩) (fun b => b ≤ 2) (fun b => 3 - b) 0 ?_ ?_ ?_ ?_
  · exact Nat.zero_le _
  · refine ⟨?_, ?_, rfl, rfl⟩
    · cbv
    · cbv
  · intro b; exact Nat.zero_le _
  · intro b hb Nx hNx
    have hcase : b = 0 ∨ b = 1 ∨ b = 2 := by have : b ≤ 2 := hb; omega
    rcases hcase with rfl | rfl | rfl
    · have hN0 : ∀ env v1 v2, wkEnv env [(12, .int .i64 1), (11, .ptr 0 0), (3, .ptr 0 0), (0, .sl 5 ms .no)] → v1 = Ent.var [.int .i64 0, .int .i64 0, .int .i64 0, .int .i64 0, .int .i64 0, .int .i64 0, .int .i64 0, .int .i64 0, .int .i64 0, .int .i64 0, .int .i64 0, .int .i64 0, .int .i64 lo, .int .i64 lp, .int .i64 le, .int .i64 lc, .int .i64 lu, .bool lz, .nils, .int .i64 0, .mp 1, .nilm, .int .i64 0, .int .i64 0, .int .i64 0, .int .i64 0, .bl false, .bl false] → v2 = Ent.mp [] → Nx ⟨env, [v1, v2], 52⟩ := by
        rintro env _ _ he rfl rfl
        exact hNx _ 1 (by decide) (by decide) ⟨he, by cbv, rfl, rfl⟩
      clear hNx
      cbv
      repeat' (first
        | with_reducible exact id
        | exact trivial
        | intro hh
        | with_reducible refine And.intro ?_ ?_
        | (with_reducible first | refine awp_go ?_ | refine aops_go ?_ | refine strip_go ?_ | refine draw_go ?_ | refine frames_go ?_); cbv)
      all_goals first
        | (refine hN0 _ _ _ (wkEnv_go ?_) rfl rfl; cbv; subst hJ; first | exact ⟨rfl, trivial⟩ | exact ⟨rfl, rfl, trivial⟩)
        | (clear hN0; subst hJ; simp only [std, stdOps] at *; first | rfl | decide | (simp at *; done))
        | skip
    · have hN0 : ∀ env v1 v2 v3, wkEnv env [(12, .int .i64 2), (11, .ptr 0 0), (3, .ptr 0 0), (0, .sl 5 ms .no)] → v1 = Ent.var [.int .i64 0, .int .i64 0, .int .i64 0, .int .i64 0, .int .i64 0, .int .i64 0, .int .i64 0, .int .i64 0, .int .i64 0, .int .i64 0, .int .i64 0, .int .i64 0, .int .i64 lo, .int .i64 lp, .int .i64 le, .int .i64 lc, .int .i64 lu, .bool lz, .nils, .int .i64 0, .mp 1, .mp 2, .int .i64 0, .int .i64 0, .int .i64 0, .int .i64 0, .bl false, .bl false] → v2 = Ent.mp [] → v3 = Ent.mp [] → Nx ⟨env, [v1, v2, v3], 52⟩ := by
        rintro env _ _ _ he rfl rfl rfl
        exact hNx _ 2 (by decide) (by decide) ⟨he, by cbv, rfl, rfl⟩
      clear hNx
      cbv
      repeat' (first
        | with_reducible exact id
        | exact trivial
        | intro hh
        | with_reducible refine And.intro ?_ ?_
        | (with_reducible first | refine awp_go ?_ | refine aops_go ?_ | refine strip_go ?_ | refine draw_go ?_ | refine frames_go ?_); cbv)
      all_goals first
        | (refine hN0 _ _ _ _ (wkEnv_go ?_) rfl rfl rfl; cbv; subst hJ; first | exact ⟨rfl, trivial⟩ | exact ⟨rfl, rfl, trivial⟩)
        | (clear hN0; subst hJ; simp only [std, stdOps] at *; first | rfl | decide | (simp at *; done))
        | skip
    · clear hNx
      cbv
      repeat' (first
        | with_reducible exact id
        | exact trivial
        | intro hh
        | with_reducible refine And.intro ?_ ?_
        | (with_reducible first | refine awp_go ?_ | refine aops_go ?_ | refine strip_go ?_ | refine draw_go ?_ | refine frames_go ?_); cbv)
      all_goals first
        | (exfalso; rename_i hc; rw [hJ] at hc; simp [std, stdOps] at hc; done)
        | (exfalso; rw [hJ] at hh; simp [std, stdOps] at hh; done)
        | (subst hJ; simp only [std, stdOps]; split <;> omega)
        | skip
      refine loop_turn_at (β := B) hJ tabA_ok (fun b => ⟨[(28, .int .i64 b.i), (27, .int .i64 m), (26, .sl 5 (J.o.sub ms 0 (J.o.mn (J.o.len ms) 400)) .no), (3, .ptr 0 0)], [.var [.int .i64 b.X.g.c, .int .i64 b.X.g.e, .int .i64 b.X.g.u, .int .i64 b.X.g.s, .int .i64 b.X.g.k, .int .i64 b.X.g.a, .int .i64 b.Y.g.c, .int .i64 b.Y.g.e, .int .i64 b.Y.g.u, .int .i64 b.Y.g.s, .int .i64 b.Y.g.k, .int .i64 b.Y.g.a, .int .i64 b.l.o, .int .i64 b.l.p, .int .i64 b.l.e, .int .i64 b.l.c, .int .i64 b.l.u, .bool b.l.z, .vs 3 5 0 b.N b.N, .int .i64 b.clk, .mp 1, .mp 2, .int .i64 b.X.a, .int .i64 b.X.o, .int .i64 b.Y.a, .int .i64 b.Y.o, .bool b.X.h, .bool b.Y.h], .mp b.es0, .mp b.es1, .vec 5 b.xs], 52⟩) (fun b => 0 ≤ b.i ∧ b.i ≤ m ∧ b.es0 = encM b.X.m ∧ b.es1 = encM b.Y.m ∧ b.xs = b.bag.map Lt.av ∧ IsLen b.N b.bag ∧ Nv.Inv b.i b.X b.Y b.l b.bag b.clk) (fun b => (m + 1 - b.i).toNat) ⟨0, ⟨⟨0, 0, 0, 0, 0, 0⟩, [], 0, 0, false⟩, ⟨⟨0, 0, 0, 0, 0, 0⟩, [], 0, 0, false⟩, ⟨lo, lp, le, lc, lu, lz⟩, [], 0, [], [], [], 0⟩ ?_ ?_ ?_ ?_
      · rw [hnew]
        exact ⟨Int.le_refl _, hm4.1, rfl, rfl, rfl, rfl, inv_0⟩
      · refine Turn.trans (turn_nil 0 18 5 rfl rfl (Nat.zero_le _)) (Turn.trans (Turn.pack [0, 1, 2, 3] (by decide) (Nat.zero_le _)) (Turn.le ⟨wkEnv_go ?_, ?_, rfl, rfl⟩ (Nat.zero_le _)))
        · cbv
          subst hm
          exact ⟨rfl, trivial⟩
        · cbv
      · intro b; exact Nat.zero_le _
      · rintro ⟨i, ⟨⟨c0, e0, u0, s0, k0, a0⟩, m0, qa0, qo0, h0⟩, ⟨⟨c1, e1, u1, s1, k1, a1⟩, m1, qa1, qo1, h1⟩, ⟨lo, lp, le, lc, lu, lz⟩, bag, clk, es0, es1, xs, N⟩ ⟨hi0, him, he0, he1, hx, hN, hinv⟩ Nx hNx
        replace hi0 : 0 ≤ i := hi0
        replace him : i ≤ m := him
        replace he0 : es0 = encM m0 := he0
        replace he1 : es1 = encM m1 := he1
        replace hx : xs = bag.map Lt.av := hx
        replace hN : IsLen N bag := hN
        replace hinv : Inv i ⟨⟨c0, e0, u0, s0, k0, a0⟩, m0, qa0, qo0, h0⟩ ⟨⟨c1, e1, u1, s1, k1, a1⟩, m1, qa1, qo1, h1⟩ ⟨lo, lp, le, lc, lu, lz⟩ bag clk := hinv
        have hl : Len bag i := hinv.len
        obtain ⟨i1, hi1⟩ : ∃ i1 : Int, i1 = i + 1 := ⟨_, rfl⟩
        have hN3 : ∀ env (c0 e0 u0 s0 k0 a0 c1 e1 u1 s1 k1 a1 lo lp le lc lu clk qa0 qo0 qa1 qo1 : Int) (lz h0 h1 : Bool) (m0 m1 : List (Int × Int × Int)) (bag : List Lt) (N : Int) (xs : List AV) (es0 es1 : List (AV × AV)) v4, es0 = encM m0 → es1 = encM m1 → xs = bag.map Lt.av → IsLen N bag → i < m → Inv i1 ⟨⟨c0, e0, u0, s0, k0, a0⟩, m0, qa0, qo0, h0⟩ ⟨⟨c1, e1, u1, s1, k1, a1⟩, m1, qa1, qo1, h1⟩ ⟨lo, lp, le, lc, lu, lz⟩ bag clk → wkEnv (env.map fun x => (x.1, Pt.ren (idx [0, 1, 2, 3]) 6 x.2)) [(28, .int .i64 i1), (27, .int .i64 m), (26, .sl 5 (J.o.sub ms 0 (J.o.mn (J.o.len ms) 400)) .no), (3, .ptr 0 0)] → Nx ⟨env, [.var [.int .i64 c0, .int .i64 e0, .int .i64 u0, .int .i64 s0, .int .i64 k0, .int .i64 a0, .int .i64 c1, .int .i64 e1, .int .i64 u1, .int .i64 s1, .int .i64 k1, .int .i64 a1, .int .i64 lo, .int .i64 lp, .int .i64 le, .int .i64 lc, .int .i64 lu, .bool lz, .vs 3 5 0 N N, .int .i64 clk, .mp 1, .mp 2, .int .i64 qa0, .int .i64 qo0, .int .i64 qa1, .int .i64 qo1, .bool h0, .bool h1], .mp es0, .mp es1, .vec 5 xs, v4], 52⟩ := by
          intro env c0 e0 u0 s0 k0 a0 c1 e1 u1 s1 k1 a1 lo lp le lc lu clk qa0 qo0 qa1 qo1 lz h0 h1 m0 m1 bag N xs es0 es1 v4 he0 he1 hx hN hlt hinv henv
          refine hNx _ ⟨i1, ⟨⟨c0, e0, u0, s0, k0, a0⟩, m0, qa0, qo0, h0⟩, ⟨⟨c1, e1, u1, s1, k1, a1⟩, m1, qa1, qo1, h1⟩, ⟨lo, lp, le, lc, lu, lz⟩, bag, clk, es0, es1, xs, N⟩ ⟨by show 0 ≤ i1; omega, by show i1 ≤ m; omega, he0, he1, hx, hN, hinv⟩ (by show (m + 1 - i1).toNat < (m + 1 - i).toNat; omega) (Turn.trans (Turn.pack [0, 1, 2, 3] (by decide) (Nat.zero_le _)) (Turn.le ⟨henv, ?_, okS_of (by rfl) ⟨okE_mp he0, okE_mp he1⟩, rfl⟩ (Nat.zero_le _)))
          simp only [St.packed, pack, rangeN, List.nil_append, List.map_cons, List.map_nil, nth, entOr, renE, ren_enc he0, ren_enc he1]
          cbv
        have hN5 : ∀ env (c0 e0 u0 s0 k0 a0 c1 e1 u1 s1 k1 a1 lo lp le lc lu clk qa0 qo0 qa1 qo1 : Int) (lz h0 h1 : Bool) (m0 m1 : List (Int × Int × Int)) (bag : List Lt) (N : Int) (xs : List AV) (es0 es1 : List (AV × AV)) v4, es0 = encM m0 → es1 = encM m1 → xs = bag.map Lt.av → IsLen N bag → i < m → Inv i1 ⟨⟨c0, e0, u0, s0, k0, a0⟩, m0, qa0, qo0, h0⟩ ⟨⟨c1, e1, u1, s1, k1, a1⟩, m1, qa1, qo1, h1⟩ ⟨lo, lp, le, lc, lu, lz⟩ bag clk → wkEnv (env.map fun x => (x.1, Pt.ren (idx [0, 1, 2, 5]) 6 x.2)) [(28, .int .i64 i1), (27, .int .i64 m), (26, .sl 5 (J.o.sub ms 0 (J.o.mn (J.o.len ms) 400)) .no), (3, .ptr 0 0)] → Nx ⟨env, [.var [.int .i64 c0, .int .i64 e0, .int .i64 u0, .int .i64 s0, .int .i64 k0, .int .i64 a0, .int .i64 c1, .int .i64 e1, .int .i64 u1, .int .i64 s1, .int .i64 k1, .int .i64 a1, .int .i64 lo, .int .i64 lp, .int .i64 le, .int .i64 lc, .int .i64 lu, .bool lz, .vs 5 5 0 N N, .int .i64 clk, .mp 1, .mp 2, .int .i64 qa0, .int .i64 qo0, .int .i64 qa1, .int .i64 qo1, .bool h0, .bool h1], .mp es0, .mp es1, .dead, v4, .vec 5 xs], 52⟩ := by
          intro env c0 e0 u0 s0 k0 a0 c1 e1 u1 s1 k1 a1 lo lp le lc lu clk qa0 qo0 qa1 qo1 lz h0 h1 m0 m1 bag N xs es0 es1 v4 he0 he1 hx hN hlt hinv henv
          refine hNx _ ⟨i1, ⟨⟨c0, e0, u0, s0, k0, a0⟩, m0, qa0, qo0, h0⟩, ⟨⟨c1, e1, u1, s1, k1, a1⟩, m1, qa1, qo1, h1⟩, ⟨lo, lp, le, lc, lu, lz⟩, bag, clk, es0, es1, xs, N⟩ ⟨by show 0 ≤ i1; omega, by show i1 ≤ m; omega, he0, he1, hx, hN, hinv⟩ (by show (m + 1 - i1).toNat < (m + 1 - i).toNat; omega) (Turn.trans (Turn.pack [0, 1, 2, 5] (by decide) (Nat.zero_le _)) (Turn.le ⟨henv, ?_, okS_of (by rfl) ⟨okE_mp he0, okE_mp he1⟩, rfl⟩ (Nat.zero_le _)))
          simp only [St.packed, pack, rangeN, List.nil_append, List.map_cons, List.map_nil, nth, entOr, renE, ren_enc he0, ren_enc he1]
          cbv
        clear hNx
        have hi2 : J.o.cmp BinOp.lss i m = true → 0 ≤ i + 1 ∧ i + 1 ≤ 400 := fun hh => by clear hN3 hN5; subst hJ; simp [std, stdOps] at hh; omega
        have hi : J.o.cmp BinOp.lss i m = true → 0 ≤ i ∧ i < 400 := fun hh => by clear hN3 hN5; subst hJ; simp [std, stdOps] at hh; omega
        cbv
        repeat' (first
          | with_reducible exact id
          | exact trivial
          | with_reducible refine fit_bool h ?_
          | (with_reducible refine get_mv hJ hms ?_; intro d r n w t; cbv)
          | (refine call_in hJ [0, 1, 2, 3] (by decide) rfl ?_ ?_ (moves_call c0 e0 u0 s0 k0 a0 c1 e1 u1 s1 k1 a1 lo lp le lc lu clk qa0 qo0 qa1 qo1 lz h0 h1 m0 m1 i bag N xs es0 es1 he0 he1 hx hN (hi (by assumption)) hl hinv d r n w t _ _ ?_ ?_)
             · rfl
             · simp only [pack, List.map_cons, List.map_nil, nth, entOr, renE, ren_enc he0, ren_enc he1]; rfl
             all_goals (intro c0' e0' u0' s0' k0' a0' c1' e1' u1' s1' k1' a1' lo' lp' le' lc' lu' clk' qa0' qo0' qa1' qo1' lz' h0' h1' m0' m1' bag' N' ys' es0' es1' he0' he1' hx' hN' hinv'; cbv))
          | (refine call_in hJ [0, 1, 2, 3] (by decide) rfl ?_ ?_ (drifts_call c0' e0' u0' s0' k0' a0' c1' e1' u1' s1' k1' a1' lo' lp' le' lc' lu' clk' qa0' qo0' qa1' qo1' lz' h0' h1' m0' m1' (i + 1) bag' (hi2 (by assumption)) hinv' N' ys' es0' es1' he0' he1' _ _ ?_)
             · rfl
             · refine heap4 rfl ?_ ?_ rfl
               · subst he0'; cases m0' <;> simp [nth, entOr, renE, encM, encP, Pt.ren, Function.comp_def]
               · subst he1'; cases m1' <;> simp [nth, entOr, renE, encM, encP, Pt.ren, Function.comp_def]
             intro rd es2 es3 he2 he3 hrd; cbv)
          | (refine call_in hJ [0, 1, 2, 5] (by decide) rfl ?_ ?_ (drifts_call c0' e0' u0' s0' k0' a0' c1' e1' u1' s1' k1' a1' lo' lp' le' lc' lu' clk' qa0' qo0' qa1' qo1' lz' h0' h1' m0' m1' (i + 1) bag' (hi2 (by assumption)) hinv' N' ys' es0' es1' he0' he1' _ _ ?_)
             · rfl
             · refine heap4 rfl ?_ ?_ rfl
               · subst he0'; cases m0' <;> simp [nth, entOr, renE, encM, encP, Pt.ren, Function.comp_def]
               · subst he1'; cases m1' <;> simp [nth, entOr, renE, encM, encP, Pt.ren, Function.comp_def]
             intro rd es2 es3 he2 he3 hrd; cbv)
          | (with_reducible refine bel_at hJ ?_; intros)
          | (with_reducible refine bel_pure hJ ?_; intros)
          | intro hh
          | with_reducible refine And.intro ?_ ?_
          | (with_reducible first | refine awp_go ?_ | refine aops_go ?_ | refine strip_go ?_ | refine draw_go ?_ | refine frames_go ?_); cbv)
        all_goals first
          | rfl
          | with_reducible assumption
          | (clear hN3 hN5; subst hJ; simp only [std, stdOps]; decide)
          | (refine hN3 _ c0' e0' u0' s0' k0' a0' c1' e1' u1' s1' k1' a1' lo' lp' le' lc' lu' clk' qa0' qo0' qa1' qo1' lz' h0' h1' m0' m1' bag' N' ys' _ _ _ ?_ ?_ ?_ ?_ ?_ ?_ ?_ <;> first | exact hx' | exact hN' | exact hinv' | (subst he2; cases m0' <;> simp [encM, encP, Pt.ren, Function.comp_def]; done) | (subst he3; cases m1' <;> simp [encM, encP, Pt.ren, Function.comp_def]; done) | (rw [hi1]; exact hinv') | (with_reducible refine wkEnv_go ?_; cbv; clear hN3 hN5 h; subst hJ; simp only [std, stdOps] at * <;> grind [wrap64]) | (clear hN3 hN5 h; subst hJ; simp only [std, stdOps] at * <;> grind [wrap64]))
          | (refine hN5 _ c0' e0' u0' s0' k0' a0' c1' e1' u1' s1' k1' a1' lo' lp' le' lc' lu' clk' qa0' qo0' qa1' qo1' lz' h0' h1' m0' m1' bag' N' ys' _ _ _ ?_ ?_ ?_ ?_ ?_ ?_ ?_ <;> first | exact hx' | exact hN' | exact hinv' | (subst he2; cases m0' <;> simp [encM, encP, Pt.ren, Function.comp_def]; done) | (subst he3; cases m1' <;> simp [encM, encP, Pt.ren, Function.comp_def]; done) | (rw [hi1]; exact hinv') | (with_reducible refine wkEnv_go ?_; cbv; clear hN3 hN5 h; subst hJ; simp only [std, stdOps] at * <;> grind [wrap64]) | (clear hN3 hN5 h; subst hJ; simp only [std, stdOps] at * <;> grind [wrap64]))
          | (exfalso; clear hN3 hN5 h; subst hJ; simp only [std, stdOps] at *; exact never_end hinv' (hrd (by grind)) (by grind) (by grind))
          | (have hj := hm; clear hN3 hN5 h; subst hJ; simp only [std, stdOps] at *; rw [← hj]; grind)
end Go.Proofs.Ytilffanmaicakaa.A
