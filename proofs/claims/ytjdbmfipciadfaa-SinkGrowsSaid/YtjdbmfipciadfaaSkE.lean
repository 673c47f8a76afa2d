/- The sink: two that are one are the same; the law Once. -/
import Derived.Test.YtjdbmfipciadfaaSkD

namespace Go.Proofs.Ytjdbmfipciadfaa.A
open Go Go.Pt

theorem f61_self {fuel : Nat} {t : Txn} (hf : t.r.length < fuel ∧ t.v.length < fuel) (hl : t.r.length < 2 ^ 60 ∧ t.v.length < 2 ^ 60) :
    f61 stdOps fuel t.e t.i t.b (t.r.map Rec.av) (t.v.map iav) t.e t.i t.b (t.r.map Rec.av) (t.v.map iav) = some (.v0 true) := by
  unfold f61
  rw [ifB_t (by simp [stdOps]), bindR_eq (f84_is hf.1 hl.1)]
  dsimp only
  rw [ifB_t (by simp), bindR_eq (f85_is hf.2 hl.2)]
  simp

theorem f23_l0_self {a0 a5 : Int} {a1 a2 a3 a6 a7 a8 : List AV} : ∀ (d f fuel i : Nat) (l : List Txn), i + d = l.length → d < f → l.length ≤ 8 → (∀ t ∈ l, t.r.length ≤ 4096 ∧ t.v.length ≤ 4096) → 4096 < fuel →
    f23_l0 stdOps fuel (l.map Txn.av) (l.map Txn.av) a0 a1 a2 a3 a5 a6 a7 a8 f i = some .x1 := by
  intro d
  induction d with
  | zero =>
    intro f fuel i l h1 h2 h3 h4 h5
    obtain ⟨f, rfl⟩ : ∃ g, f = g + 1 := ⟨f - 1, by omega⟩
    unfold f23_l0
    rw [len_av, ifB_f (lss_f (by omega))]
  | succ d ih =>
    intro f fuel i l h1 h2 h3 h4 h5
    obtain ⟨f, rfl⟩ : ∃ g, f = g + 1 := ⟨f - 1, by omega⟩
    have hi : i < l.length := by omega
    have ht := h4 l[i] (List.getElem_mem hi)
    unfold f23_l0
    rw [len_av, ifB_t (lss_t hi), ← len_av (f := Txn.av), inbR hi, getT hi, inbR hi, getT hi, bindR_eq (f61_self ⟨by omega, by omega⟩ ⟨by omega, by omega⟩)]
    dsimp only
    rw [ifB_f (show stdOps.bnot true = false from rfl), add1 (by omega)]
    exact ih f fuel (i + 1) l (by omega) (by omega) h3 h4 h5

theorem f23_self {fuel : Nat} {fe : Int} {out : List Rec} {vec done : List Int} {pre : List Txn} (h1 : out.length ≤ 4096) (h2 : vec.length ≤ 4096) (h3 : done.length < 2 ^ 42 ∧ done.length < fuel) (h4 : pre.length ≤ 8) (h5 : ∀ t ∈ pre, t.r.length ≤ 4096 ∧ t.v.length ≤ 4096) (h6 : 4097 < fuel) :
    f23 stdOps fuel fe (out.map Rec.av) (vec.map iav) (done.map iav) (pre.map Txn.av) fe (out.map Rec.av) (vec.map iav) (done.map iav) (pre.map Txn.av) = some (.v0 true) := by
  unfold f23
  rw [ifB_f (by simp [stdOps]), bindR_eq (f84_is (by omega) (by omega))]
  dsimp only
  rw [ifB_f (by simp [stdOps]), bindR_eq (f85_is (by omega) (by omega))]
  dsimp only
  rw [ifB_f (by simp [stdOps]), bindR_eq (f85_is (by omega) (by omega))]
  dsimp only
  have h := f23_l0_self (a0 := fe) (a5 := fe) (a1 := out.map Rec.av) (a2 := vec.map iav) (a3 := done.map iav) (a6 := out.map Rec.av) (a7 := vec.map iav) (a8 := done.map iav) pre.length fuel fuel 0 pre (by omega) (by omega) h4 h5 (by omega)
  change f23_l0 stdOps fuel _ _ _ _ _ _ _ _ _ _ fuel 0 = _ at h
  rw [ifB_f (by simp [stdOps]), bindR_eq h]

theorem f14_two {fuel : Nat} : f14 stdOps fuel 2 = some (.v1 0 0 [] 0 ([0, 0].map iav) [] []) := by
  unfold f14
  rw [ifB_f (by simp [stdOps]), req_eq _ (by simp [stdOps])]
  rfl
theorem f19_two {fuel : Nat} : f19 stdOps fuel = some (.v0 0 2 0 [] ([0, 0].map iav) [] []) := by
  unfold f19
  rw [req_eq _ (by simp [stdOps])]
  rfl
/-- A new sink. -/
def newS : Sk := ⟨0, [], [0, 0], [], []⟩
theorem inv_new : Inv 2 newS := ⟨by simp [newS], by decide, ⟨List.nodup_nil, by simp [newS]⟩, List.nodup_nil, by simp [newS], by simp [newS]⟩
end Go.Proofs.Ytjdbmfipciadfaa.A
