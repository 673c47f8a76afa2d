/- The sink: the one walk that shows that it lives. -/
import Derived.Test.YtjdbmfipciadfaaSkE

namespace Go.Proofs.Ytjdbmfipciadfaa.A
open Go Go.Pt

theorem f60_l0_is {a0 a1 a2 a3 : Int} : ∀ (d f fuel i : Nat) (l : List Int) (w : Nat) (acc : List Rec), i + d = l.length → d < f → l.length < 2 ^ 40 → acc.length = i →
    ∃ p', f60_l0 stdOps fuel (l.map iav) a0 a1 a2 a3 f w i (acc.map Rec.av) = some (.x0 ((acc ++ (l.drop i).map (Rec.mk 0)).map Rec.av) p') := by
  intro d
  induction d with
  | zero =>
    intro f fuel i l w acc h1 h2 h3 h4
    obtain ⟨f, rfl⟩ : ∃ g, f = g + 1 := ⟨f - 1, by omega⟩
    unfold f60_l0
    rw [len_av, ifB_f (lss_f (by omega)), List.drop_of_length_le (by omega), List.map_nil, List.append_nil]
    exact ⟨_, rfl⟩
  | succ d ih =>
    intro f fuel i l w acc h1 h2 h3 h4
    obtain ⟨f, rfl⟩ : ∃ g, f = g + 1 := ⟨f - 1, by omega⟩
    have hi : i < l.length := by omega
    unfold f60_l0
    rw [len_av, ifB_t (lss_t hi), ← len_av (f := iav), inbR hi, getI hi]
    rw [req_eq _ (show stdOps.room (acc.map Rec.av) [.agg [.int .i64 0, .int .i64 l[i]]] 16 by show _ * 16 ≤ 2 ^ 47; simp only [List.length_map, List.length_cons, List.length_nil]; omega), add1 (by omega)]
    obtain ⟨p', hp⟩ := ih f fuel (i + 1) l (stdOps.padd w [.agg [.int .i64 0, .int .i64 l[i]]]) (acc ++ [(⟨0, l[i]⟩ : Rec)]) (by omega) (by omega) h3 (by simp [h4])
    refine ⟨p', ?_⟩
    rw [drop_all hi]
    have e : stdOps.apnd (acc.map Rec.av) [.agg [.int .i64 0, .int .i64 l[i]]] = (acc ++ [(⟨0, l[i]⟩ : Rec)]).map Rec.av := by
      show acc.map Rec.av ++ _ = _
      rw [List.map_append]; rfl
    rw [e, hp, List.append_assoc, List.map_cons]; rfl
theorem f60_is {a0 a1 a2 a3 : Int} {fuel : Nat} {l : List Int} (hf : l.length < fuel) (hl : l.length < 2 ^ 40) : f60 stdOps fuel a0 a1 a2 a3 (l.map iav) = some (.v0 a0 a1 a2 ((l.map (Rec.mk 0)).map Rec.av) ([a3].map iav)) := by
  obtain ⟨p', h⟩ := f60_l0_is (a0 := a0) (a1 := a1) (a2 := a2) (a3 := a3) l.length fuel fuel 0 l 0 [] (by omega) hf hl rfl
  rw [List.nil_append, List.drop_zero] at h
  change f60_l0 stdOps fuel _ _ _ _ _ fuel 0 0 [] = _ at h
  unfold f60
  rw [bindR_eq h]
  rfl

def l0 : Sk := ⟨0, [], [0], [], []⟩
def lt1 : Txn := ⟨1, 1, 0, [⟨0, 7⟩, ⟨0, 8⟩], [2]⟩
def l1 : Sk := ⟨1, [], [0], [], [lt1]⟩
def l2 : Sk := ⟨1, [⟨0, 7⟩, ⟨0, 8⟩], [2], [(1, 1)], []⟩
def lt2 : Txn := ⟨2, 5, 1, [⟨0, 8⟩, ⟨0, 9⟩], [3]⟩
def l3 : Sk := ⟨2, [⟨0, 7⟩, ⟨0, 8⟩], [2], [], [lt2]⟩
def l4 : Sk := ⟨2, [⟨0, 7⟩, ⟨0, 8⟩, ⟨0, 9⟩], [3], [(2, 5)], []⟩
def lt3 : Txn := ⟨2, 6, 1, [⟨0, 9⟩], [4]⟩
theorem p1 : preF 1 l0 lt1 = (0, l1) := by rfl
theorem p2 : comF l1 (1, 1) = (0, l2) := by rfl
theorem p3 : preF 1 l2 lt2 = (0, l3) := by rfl
theorem p4 : comF l3 (2, 5) = (0, l4) := by rfl
theorem p5 : comF l4 (1, 2) = (150, l4) := by rfl
theorem p6 : preF 1 l4 lt3 = (152, l4) := by rfl
theorem i0 : Inv 1 l0 := ⟨by decide, by decide, by decide, by decide⟩
theorem i1 : Inv 1 l1 := ⟨by decide, by decide, by decide, by decide⟩
theorem i2 : Inv 1 l2 := ⟨by decide, by decide, by decide, by decide⟩
theorem i3 : Inv 1 l3 := ⟨by decide, by decide, by decide, by decide⟩
theorem i4 : Inv 1 l4 := ⟨by decide, by decide, by decide, by decide⟩
theorem f14_one {fuel : Nat} : f14 stdOps fuel 1 = some (.v1 0 0 [] 0 ([0].map iav) [] []) := by
  unfold f14
  rw [ifB_f (by simp [stdOps]), req_eq _ (by simp [stdOps])]
  rfl

theorem f13_is {fuel : Nat} (hf : 4097 < fuel) : f13 stdOps fuel = some (.v0 true) := by
  unfold f13
  rw [bindR_eq f14_one]
  dsimp only
  rw [ifB_f (by simp [stdOps])]
  have e1 := f60_is (a0 := 1) (a1 := 1) (a2 := 0) (a3 := 2) (fuel := fuel) (l := [7, 8]) (by simp; omega) (by simp)
  rw [bindR_eq (show f60 stdOps fuel 1 1 0 2 [.int .i64 7, .int .i64 8] = some (.v0 lt1.e lt1.i lt1.b (lt1.r.map Rec.av) (lt1.v.map iav)) from e1)]
  dsimp only
  have e2 := f15_is (fuel := fuel) (p := 0) (t := lt1) i0 (by omega) ⟨by simp [lt1]; omega, hf⟩ (by simp [lt1])
  rw [p1] at e2
  rw [bindR_eq (show f15 stdOps fuel 0 lt1.e lt1.i lt1.b (lt1.r.map Rec.av) (lt1.v.map iav) 1 0 [] ([0].map iav) [] [] = _ from e2)]
  dsimp only
  rw [ifB_f (by simp [stdOps])]
  obtain ⟨q1, e3⟩ := f16_is (fuel := fuel) (p := 0) (k1 := 1) (k2 := 1) i1 (by omega) hf
  rw [p2] at e3
  rw [bindR_eq (show f16 stdOps fuel 0 1 1 1 l1.fence [] ([0].map iav) (dM l1.done) (pM l1.pre) = _ from e3)]
  dsimp only
  rw [ifB_f (by simp [stdOps]), bindR_eq (show f58 stdOps fuel q1 1 l2.fence (l2.out.map Rec.av) (l2.vec.map iav) (dM l2.done) (pM l2.pre) = some (.v0 2) from rfl)]
  dsimp only
  rw [ifB_f (by simp [stdOps])]
  have e4 := f60_is (a0 := 2) (a1 := 5) (a2 := 1) (a3 := 3) (fuel := fuel) (l := [8, 9]) (by simp; omega) (by simp)
  rw [bindR_eq (show f60 stdOps fuel 2 5 1 3 [.int .i64 8, .int .i64 9] = some (.v0 lt2.e lt2.i lt2.b (lt2.r.map Rec.av) (lt2.v.map iav)) from e4)]
  dsimp only
  have e5 := f15_is (fuel := fuel) (p := q1) (t := lt2) i2 (by omega) ⟨by simp [lt2]; omega, hf⟩ (by simp [lt2])
  rw [p3] at e5
  rw [bindR_eq e5]
  dsimp only
  rw [ifB_t (by simp [stdOps]), bindR_eq (show f25 stdOps fuel q1 1 l3.fence (l2.out.map Rec.av) (l2.vec.map iav) (dM l3.done) (pM l3.pre) = some (.v0 2) from rfl)]
  dsimp only
  rw [ifB_t (by simp [stdOps])]
  obtain ⟨q2, e6⟩ := f16_is (fuel := fuel) (p := q1) (k1 := 2) (k2 := 5) i3 (by omega) hf
  rw [p4] at e6
  rw [bindR_eq (show f16 stdOps fuel q1 2 5 1 l3.fence (l2.out.map Rec.av) (l2.vec.map iav) (dM l3.done) (pM l3.pre) = _ from e6)]
  dsimp only
  rw [ifB_t (by simp [stdOps]), bindR_eq (show f58 stdOps fuel q2 1 l4.fence (l4.out.map Rec.av) (l4.vec.map iav) (dM l4.done) (pM l4.pre) = some (.v0 3) from rfl)]
  dsimp only
  rw [ifB_t (by simp [stdOps])]
  obtain ⟨q3, e7⟩ := f16_is (fuel := fuel) (p := q2) (k1 := 1) (k2 := 2) i4 (by omega) hf
  rw [p5] at e7
  rw [bindR_eq e7]
  dsimp only
  have e8 := f60_is (a0 := 2) (a1 := 6) (a2 := 1) (a3 := 4) (fuel := fuel) (l := [9]) (by simp; omega) (by simp)
  rw [ifB_t (by simp [stdOps]), bindR_eq (show f60 stdOps fuel 2 6 1 4 [.int .i64 9] = some (.v0 lt3.e lt3.i lt3.b (lt3.r.map Rec.av) (lt3.v.map iav)) from e8)]
  dsimp only
  have e9 := f15_is (fuel := fuel) (p := q3) (t := lt3) i4 (by omega) ⟨by simp [lt3]; omega, hf⟩ (by simp [lt3])
  rw [p6] at e9
  rw [bindR_eq e9]
  rfl
end Go.Proofs.Ytjdbmfipciadfaa.A
