/- many, inputs. -/
import Derived.Test.YtilffanmaicakaaGrSpecA
namespace Go.Proofs.Ytilffanmaicakaa.A
open Go Go.Pt Go.Gr

set_option maxHeartbeats 8000000 in
set_option maxRecDepth 100000 in
theorem many_call (n u ef ep : Int) (l : List Gr.Op) (os : List AV) (hos : os = l.map Gr.Op.av) (hu : 0 ≤ u ∧ u ≤ l.length) (hb : (flat l u.toNat).length < 2 ^ 60) (hll : (l.length : Int) < 2 ^ 60) (K E) (h : K (.int .i64 ((flat l u.toNat).count ⟨ef, ep⟩)) []) :
    CallA Try.prog 70 [.agg [.int .i64 n, .sl 5 os .no], .int .i64 u, .agg [.int .i64 ef, .int .i64 ep]] [] K E := by
  refine call_fn (n₀ := 0) tab_ok [] Try.func70 rfl rfl rfl rfl (by decide) ?_
  intro J hJ
  cbv
  refine loop_at (β := Int × Int) hJ tab_ok (fun b => ⟨[(7, .int .i64 b.2), (8, .int .i64 b.1), (5, .ptr 1 0), (3, .ptr 0 0), (1, .int .i64 u)], [.var [.int .i64 n, .sl 5 os .no], .var [.int .i64 ef, .int .i64 ep]], 40⟩) (fun b => 0 ≤ b.1 ∧ b.1 ≤ u ∧ b.2 = (flat l b.1.toNat).count ⟨ef, ep⟩) (fun b => (u + 1 - b.1).toNat) (0, 0) ?_ ?_ ?_ ?_
  · exact ⟨Int.le_refl _, hu.1, rfl⟩
  · refine ⟨?_, ?_, rfl, rfl⟩
    · cbv
    · cbv
  · intro b; exact Nat.zero_le _
  rintro ⟨i, c⟩ ⟨hi0, hiu, hc⟩ Nx hNx
  replace hi0 : 0 ≤ i := hi0
  replace hiu : i ≤ u := hiu
  replace hc : c = (flat l i.toNat).count ⟨ef, ep⟩ := hc
  obtain ⟨i1, hi1⟩ : ∃ i1 : Int, i1 = i + 1 := ⟨_, rfl⟩
  have hN' : ∀ env c' v, 0 ≤ i → i < u → c' = ((flat l (i.toNat + 1)).count ⟨ef, ep⟩ : Int) → wkEnv env [(7, .int .i64 c'), (8, .int .i64 i1), (5, .ptr 1 0), (3, .ptr 0 0), (1, .int .i64 u)] → Nx ⟨env, [.var [.int .i64 n, .sl 5 os .no], .var [.int .i64 ef, .int .i64 ep]] ++ v, 40⟩ := by
    intro env c' v h1 h2 h3 h4
    refine hNx _ (i1, c') ⟨by show 0 ≤ i1; omega, by show i1 ≤ u; omega, ?_⟩ (by show (u + 1 - i1).toNat < (u + 1 - i).toNat; omega) ⟨h4, by cbv, rfl, rfl⟩
    show c' = _
    rw [h3, show i1.toNat = i.toNat + 1 by omega]
  clear hNx
  cbv
  repeat' (first
    | with_reducible exact id
    | exact trivial
    | (with_reducible refine op_is hJ hos ho hoes ?_; cbv)
    | (with_reducible refine op_in hJ hos ?_; intro ok op of oa oes oil hoes hop; cbv)
    | (with_reducible refine ed_in hJ hes ?_; intro xf xp hed; cbv)
    | (with_reducible refine ed_in hJ hoes ?_; intro xf xp hed; cbv)
    | intro hh
    | with_reducible refine And.intro ?_ ?_
    | (with_reducible first | refine awp_go ?_ | refine aops_go ?_ | refine strip_go ?_ | refine draw_go ?_ | refine frames_go ?_); cbv)
  · replace hu : 0 ≤ u ∧ u ≤ (l.length : Int) := hu
    have hlt : i < u := by rw [hJ] at hh; simpa [std, stdOps] using hh
    obtain ⟨⟨ok, op, of, oa, oil⟩, ho⟩ : ∃ o, l[i.toNat]? = some o := ⟨_, List.getElem?_eq_getElem (by omega)⟩
    obtain ⟨oes, hoes⟩ : ∃ es, es = oil.map Ed.av := ⟨_, rfl⟩
    refine loop_at (β := Int × Int) hJ tab_ok (fun b => ⟨[(9, .int .i64 b.1), (7, .int .i64 b.2), (8, .int .i64 i), (5, .ptr 1 0), (3, .ptr 0 0), (1, .int .i64 u)], [.var [.int .i64 n, .sl 5 os .no], .var [.int .i64 ef, .int .i64 ep]], 40⟩) (fun b => 0 ≤ b.1 ∧ b.1 ≤ oil.length ∧ b.2 = (flat l i.toNat).count ⟨ef, ep⟩ + (oil.take b.1.toNat).count ⟨ef, ep⟩) (fun b => (oil.length + 1 - b.1).toNat) (0, c) ?_ ?_ ?_ ?_
    · exact ⟨Int.le_refl _, Int.natCast_nonneg _, by simp [hc]⟩
    · refine ⟨?_, ?_, rfl, rfl⟩
      · cbv
      · cbv
    · intro b; exact Nat.zero_le _
    rintro ⟨k, c'⟩ ⟨hk0, hku, hc'⟩ Ny hNy
    replace hk0 : 0 ≤ k := hk0
    replace hku : k ≤ oil.length := hku
    replace hc' : c' = (flat l i.toNat).count ⟨ef, ep⟩ + (oil.take k.toNat).count ⟨ef, ep⟩ := hc'
    obtain ⟨k1, hk1⟩ : ∃ k1 : Int, k1 = k + 1 := ⟨_, rfl⟩
    have hM : ∀ env c2 v, k < oil.length → c2 = ((flat l i.toNat).count ⟨ef, ep⟩ + (oil.take (k.toNat + 1)).count ⟨ef, ep⟩ : Int) → wkEnv env [(9, .int .i64 k1), (7, .int .i64 c2), (8, .int .i64 i), (5, .ptr 1 0), (3, .ptr 0 0), (1, .int .i64 u)] → Ny ⟨env, [.var [.int .i64 n, .sl 5 os .no], .var [.int .i64 ef, .int .i64 ep]] ++ v, 40⟩ := by
      intro env c2 v h2 h3 h4
      refine hNy _ (k1, c2) ⟨by show 0 ≤ k1; omega, by show k1 ≤ oil.length; omega, ?_⟩ (by show (oil.length + 1 - k1).toNat < (oil.length + 1 - k).toNat; omega) ⟨h4, by cbv, rfl, rfl⟩
      show c2 = _
      rw [h3, show k1.toNat = k.toNat + 1 by omega]
    clear hNy
    replace hu : 0 ≤ u ∧ u ≤ (l.length : Int) := hu
    have hcb : c' < 2 ^ 60 := by
      have h1 := List.count_le_length (a := (⟨ef, ep⟩ : Ed)) (l := flat l i.toNat ++ oil.take k.toNat)
      have h2 := flat_le l (n := i.toNat + 1) (m := u.toNat) (by omega)
      rw [flat_succ ho] at h2
      rw [List.count_append] at h1
      simp only [List.length_append, List.length_take] at h1 h2
      omega
    have hin : i < l.length := by omega
    have hol : k + 1 < 2 ^ 61 := by
      have h2 := flat_le l (n := i.toNat + 1) (m := u.toNat) (by omega)
      rw [flat_succ ho] at h2
      simp only [List.length_append] at h2
      have hku : k ≤ (oil.length : Int) := hku
      omega
    have hil : i + 1 < 2 ^ 61 := by
      have hll : (l.length : Int) < 2 ^ 60 := hll
      omega
    have hc0 : 0 ≤ c' := by rw [hc']; omega
    cbv
    repeat' (first
      | with_reducible exact id
      | exact trivial
      | (with_reducible refine op_is hJ hos ho hoes ?_; cbv)
      | (with_reducible refine op_in hJ hos ?_; intro ok op of oa oes oil hoes hop; cbv)
      | (with_reducible refine ed_in hJ hes ?_; intro xf xp hed; cbv)
      | (with_reducible refine ed_in hJ hoes ?_; intro xf xp hed; cbv)
      | intro hh
      | with_reducible refine And.intro ?_ ?_
      | (with_reducible first | refine awp_go ?_ | refine aops_go ?_ | refine strip_go ?_ | refine draw_go ?_ | refine frames_go ?_); cbv)
    all_goals
      replace hku : k ≤ (oil.length : Int) := hku
      replace hin : i < (l.length : Int) := hin
      replace hc' : c' = ((flat l i.toNat).count ⟨_, _⟩ : Int) + ((oil.take k.toNat).count ⟨_, _⟩ : Int) := hc'
      all_goals first
      | (refine hM _ c' [] ?_ ?_ ?_ <;> first
          | (with_reducible refine wkEnv_go' ?_; cbv; clear hM hN' h; subst hJ; simp only [std, stdOps] at * <;> grind [wrap64])
          | (rw [count_take hed]; clear hM hN' h; subst hJ; simp only [std, stdOps] at *; grind [wrap64])
          | (clear hM hN'; subst hJ; simp only [std, stdOps] at *; grind))
      | (refine hM _ (J.o.ar .add .i64 c' 1) [] ?_ ?_ ?_ <;> first
          | (with_reducible refine wkEnv_go' ?_; cbv; clear hM hN' h; subst hJ; simp only [std, stdOps] at * <;> grind [wrap64])
          | (rw [count_take hed]; clear hM hN' h; subst hJ; simp only [std, stdOps] at *; grind [wrap64])
          | (clear hM hN'; subst hJ; simp only [std, stdOps] at *; grind))
      | (refine hN' _ c' [] hi0 hlt ?_ ?_ <;> first
          | (with_reducible refine wkEnv_go' ?_; cbv; clear hM hN' h; subst hJ; simp only [std, stdOps] at * <;> grind [wrap64])
          | (rw [flat_succ ho, List.count_append, hc']; have hkk : k = oil.length := by (clear hM hN'; subst hJ hoes; simp [std, stdOps] at hh; omega)
             simp only [hkk, Int.toNat_natCast, List.take_length, Int.natCast_add]))
      | (clear hM hN'; subst hJ hos; simp only [std, stdOps] at *; grind)
  · have : i = u := by rw [hJ] at hh; simp [std, stdOps] at hh; omega
    subst this; rw [hc]; exact h

end Go.Proofs.Ytilffanmaicakaa.A
