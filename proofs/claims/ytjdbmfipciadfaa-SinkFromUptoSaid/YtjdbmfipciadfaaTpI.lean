/- The sink: the law From. -/
import Derived.Test.YtjdbmfipciadfaaTpH

namespace Go.Proofs.Ytjdbmfipciadfaa.A
open Go Go.Pt

theorem okK_rel {n : Int} {x : Kp} (h : okK n x) : Inv n x.sk ∧ RelS x.sk x.rf := by
  obtain ⟨h1, h2, h3, h4, h5, h6, h7, h8⟩ := h
  have hd := incB_sorted h6
  have hp := incT_sorted h7
  have hdp := incB_pos h6
  have htp := incT_pos h7
  have hdn : x.done.Nodup := hd.imp fun {a b} h e => by omega
  have hfe : x.done ≠ [] → posB x.fence = true := fun hne => by
    rw [posB_iff]
    have : x.fence ≠ 0 := fun h0 => hne (h8 h0).2.1
    omega
  constructor
  · refine ⟨h3, h4, ⟨?_, ?_⟩, ?_, h5, fun t ht => (htp t ht).1⟩
    · show (x.done.map fun i => (x.fence, i)).Nodup
      rw [List.nodup_iff_pairwise_ne, List.pairwise_map]
      exact hd.imp fun {a b} h e => by simp only [Prod.mk.injEq] at e; omega
    · intro k hk
      obtain ⟨i, hi, rfl⟩ := List.mem_map.1 hk
      exact ⟨hfe (List.ne_nil_of_mem hi), (hdp i hi).1⟩
    · show (x.pre.map Txn.key).Nodup
      rw [List.nodup_iff_pairwise_ne, List.pairwise_map]
      exact hp.imp fun {a b} h e => by simp only [Txn.key, Prod.mk.injEq] at e; omega
  · refine ⟨rfl, rfl, rfl, ⟨?_, fun t ht => (htp t ht).2.1⟩, ?_, hd, List.Perm.refl _, hp⟩
    · intro k hk
      obtain ⟨i, hi, rfl⟩ := List.mem_map.1 hk
      rfl
    · show x.done.Perm ((x.done.map fun i => (x.fence, i)).map Prod.snd)
      rw [List.map_map]
      have : x.done.map (Prod.snd ∘ fun i => (x.fence, i)) = x.done := by
        conv => rhs; rw [← List.map_id x.done]
        exact List.map_congr_left fun _ _ => rfl
      rw [this]

theorem f8_is {fuel : Nat} {n : Int} {x : Kp} {o : SOp} {v : List Int} (hs : SmallK x) (hf : FuelK fuel x) (ho : o.t.v.length < fuel ∧ o.t.v.length < 2 ^ 60) (hv : v.length < fuel ∧ v.length < 2 ^ 60) (hd : x.done.length + 1 < fuel) :
    f8 stdOps fuel n x.fence (x.out.map Rec.av) (x.vec.map iav) (x.done.map iav) (x.pre.map Txn.av) o.d o.t.e o.t.i o.t.b (o.t.r.map Rec.av) (o.t.v.map iav) (v.map iav) = some (.v0 true) := by
  have hfa := hf.a
  have hsd := hs.done
  unfold f8
  rw [bindR_eq (f13_is (by omega))]
  dsimp only
  rw [ifB_f (by simp [stdOps])]
  rcases f44_is (n := n) hs hf with ⟨hok, h1⟩ | ⟨hok, h1⟩
  · rcases f45_is (n := n) hs hf with ⟨_, h2⟩ | ⟨hno, _⟩
    case inr => exact absurd hok hno
    obtain ⟨hi, hr⟩ := okK_rel hok
    have hn4 := hok.1.2
    have hdl : x.sk.done.length = x.done.length := by simp [Kp.sk]
    rw [bindR_eq h1]
    dsimp only
    rw [bindR_eq h2]
    dsimp only
    rw [bindR_eq (f46_is hv.1 hv.2)]
    dsimp only
    rw [bindR_eq (f29_is hv.1 hv.2)]
    dsimp only
    rw [ifB_f (by simp [stdOps])]
    obtain ⟨p', h3⟩ := f27_is (fuel := fuel) (p := x.out.length) (o := o) hi hn4 hr (by omega) ⟨ho.1, by omega, by omega⟩ ho.2
    have h3' : f27 stdOps fuel x.out.length o.d o.t.e o.t.i o.t.b (o.t.r.map Rec.av) (o.t.v.map iav) n x.fence (x.out.map Rec.av) (x.vec.map iav) n x.fence (x.out.map Rec.av) (x.vec.map iav) (x.done.map iav) (x.pre.map Txn.av) (dM x.sk.done) (pM x.sk.pre) = _ := h3
    rw [bindR_eq h3']
    dsimp only
    have hd2 := done_do (n := n) (s := x.sk) (o := o)
    rw [ifB_t rfl, bindR_eq (f47_is (inv_do hi o) hn4 (rel_do hr hi o) (by omega) ⟨by omega, by omega⟩)]
  · rcases f45_is (n := n) hs hf with ⟨hyes, _⟩ | ⟨_, h2⟩
    · exact absurd hyes hok
    rw [bindR_eq h1]
    dsimp only
    rw [bindR_eq h2]
    dsimp only
    rw [bindR_eq (f46_is hv.1 hv.2)]
    dsimp only
    rw [bindR_eq (f29_is hv.1 hv.2)]
    dsimp only
    rw [ifB_f (by simp [stdOps])]

end Go.Proofs.Ytjdbmfipciadfaa.A
