/- The sink: the law Fenced. -/
import Derived.Test.YtjdbmfipciadfaaSkI

namespace Go.Proofs.Ytjdbmfipciadfaa.A
open Go Go.Pt

theorem presP_small {s : Sk} (hi : Inv 2 s) : (presP s).length ≤ 8 ∧ ∀ t ∈ presP s, t.r.length ≤ 4096 ∧ t.v.length ≤ 4096 := by
  refine ⟨by unfold presP; rw [List.length_map, List.length_mergeSort, List.length_map]; exact hi.pre.2.1, fun t ht => ?_⟩
  unfold presP at ht
  obtain ⟨k, hk, rfl⟩ := List.mem_map.1 ht
  unfold presOf
  cases hf : s.pre.find? (fun u => decide (k = u.key)) with
  | none => exact ⟨Nat.zero_le _, Nat.zero_le _⟩
  | some u =>
    have hu := hi.pre.2.2 u (List.mem_of_find?_eq_some hf)
    have := cntB_len (mayB_cnt hu)
    exact ⟨(mayB_small hu).2.2, by show u.v.length ≤ _; omega⟩

theorem f4_is {fuel : Nat} {l m : List SOp} (hf : l.length + 5000 < fuel ∧ m.length < fuel) (hl : l.length < 2 ^ 41 ∧ m.length < 2 ^ 60) (h5 : ∀ o ∈ l, o.t.v.length < fuel ∧ o.t.v.length < 2 ^ 60) (h6 : ∀ o ∈ m, o.t.v.length < fuel ∧ o.t.v.length < 2 ^ 60) :
    f4 stdOps fuel (l.map SOp.av) (m.map SOp.av) = some (.v0 true) := by
  unfold f4
  rw [bindR_eq (f13_is (by omega))]
  dsimp only
  rw [ifB_f (by simp [stdOps]), bindR_eq f14_two]
  dsimp only
  obtain ⟨s, p, ⟨hi, hb⟩, hd, h0⟩ := f4_l0_is (a1 := m.map SOp.av) l.length fuel fuel 0 l 0 newS (by omega) (by omega) (by omega) (by omega) h5 inv_new (by decide)
  change f4_l0 stdOps fuel _ _ fuel 0 0 0 0 [] ([0, 0].map iav) [] [] = _ at h0
  have hd' : s.done.length < 2 ^ 42 := by simp [newS] at hd; omega
  rw [ifB_f (by simp [stdOps]), bindR_eq h0]
  dsimp only
  rw [bindR_eq f19_two]
  dsimp only
  have hdl : s.done.length ≤ l.length := by simp [newS] at hd; omega
  rw [bindR_eq (f18_is hi (by omega) hd' ⟨by omega, by omega⟩)]
  dsimp only
  obtain ⟨q, h2⟩ := f4_l1_is (r212 := 0) (r217 := s.fence) (r213 := []) (r214 := [0, 0].map iav) (r215 := []) (r216 := []) (r218 := s.out.map Rec.av) (r219 := s.vec.map iav) (r220 := (donesP s).map iav) (r221 := (presP s).map Txn.av) m.length fuel fuel 0 m p s (by omega) (by omega) (by omega) (by omega) h6 hi hb
  change f4_l1 stdOps fuel _ _ _ _ _ _ _ _ _ _ _ _ _ fuel p 0 _ _ _ _ _ = _ at h2
  rw [bindR_eq h2]
  dsimp only
  rw [bindR_eq (f18_is hi (by omega) hd' ⟨by omega, by omega⟩)]
  dsimp only
  have hv := cntB_len hi.vec
  have hdp : (donesP s).length = s.done.length := by unfold donesP; rw [List.length_map, List.length_mergeSort]
  rw [bindR_eq (f23_self hi.out (by omega) ⟨by omega, by omega⟩ (presP_small hi).1 (presP_small hi).2 (by omega))]
end Go.Proofs.Ytjdbmfipciadfaa.A
