/- What each call makes of a guard, in plain words. -/
import Derived.Test.YtilffanmaicakaaGdPure
namespace Go.Gd

theorem more_fine {a b : Int} (h : a ≤ 9007199254740992) (hb : 0 ≤ b) : a ≤ more a b ∧ more a b ≤ 9007199254740992 ∧ more a b ≤ a + b := by unfold more; omega

theorem fine_tick (g : G) (n : Int) : Fine (Gd.tick g n) := by
  obtain ⟨f1, f2, f3, f4, f5, f6, f7, f8, f9, f10, f11, f12, f13, f14, f15, f16, f17⟩ := fine_may g
  have h := more_fine (a := (may g).c) (b := max 0 n) f2 (by omega)
  unfold Gd.tick
  constructor <;> simp only <;> first | assumption | omega | (intro hk; have := f16 hk; omega)

theorem fine_ask (g : G) : Fine (Gd.ask g).1 := by
  obtain ⟨f1, f2, f3, f4, f5, f6, f7, f8, f9, f10, f11, f12, f13, f14, f15, f16, f17⟩ := fine_may g
  unfold Gd.ask asked
  split
  · exact fine_may g
  · split
    · exact fine_may g
    · constructor <;> simp only <;> grind

theorem fine_granted (g : G) (s e : Int) : Fine (Gd.granted g s e).1 := by
  obtain ⟨f1, f2, f3, f4, f5, f6, f7, f8, f9, f10, f11, f12, f13, f14, f15, f16, f17⟩ := fine_may g
  unfold Gd.granted
  split
  · exact fine_may g
  · rename_i hg
    have h := more_fine (a := (may g).a) (b := 12) f10 (by omega)
    simp only [granting, Bool.or_eq_true, not_or, beq_iff_eq, bne_iff_ne, decide_eq_true_eq, Bool.and_eq_true] at hg
    have := f16 (by omega)
    constructor <;> simp only <;> grind

theorem fine_yield (g : G) : Fine (Gd.yield g) := by
  obtain ⟨f1, f2, f3, f4, f5, f6, f7, f8, f9, f10, f11, f12, f13, f14, f15, f16, f17⟩ := fine_may g
  unfold Gd.yield
  constructor <;> simp only <;> grind

theorem fine_refused (g : G) (s : Int) : Fine (Gd.refused g s).1 := by
  obtain ⟨f1, f2, f3, f4, f5, f6, f7, f8, f9, f10, f11, f12, f13, f14, f15, f16, f17⟩ := fine_may g
  unfold Gd.refused
  split
  · exact fine_may g
  · constructor <;> simp only <;> grind

theorem fine_above (g : G) (e : Int) : Fine (Gd.above g e) := by
  unfold Gd.above
  split
  · exact fine_yield _
  · exact fine_may g

theorem chk_fine {g : G} (h : Fine g) : chk g = 0 := by simp [chk, ok_of_fine h]
theorem may_fine {g : G} (h : Fine g) : may g = g := by simp [may, chk_fine h]
theorem bel_may {g : G} : Gd.bel g = true → g.c < g.u ∧ g.e ≠ 0 := by
  intro h
  have hf := bel_fine g h
  unfold Gd.bel at h
  rw [may_fine hf] at h
  simp at h; omega


end Go.Gd
