/- The row of the law SinkGrows: whatever comes, what is committed stays, the vector never falls, and neither does the register. It holds for every list of operations; no condition. -/
import Derived.Test.YtjdbmfipciadfaaRows
import Derived.ProofKit
import Derived.SizedLaws
import Derived.Test.YtjdbmfipciadfaaSkO
import Derived.Test.YtjdbmfipciadfaaSkRd

namespace Go.Proofs.Ytjdbmfipciadfaa.A
open Go Go.Pt Go.ChangeShapes Go.WideShapes Go.ChangeAt Go.RowKit

set_option maxRecDepth 100000 in
theorem sinkGrows_lifted {α0 : Type} {mk0 : α0 → AV} {ok0 : α0 → Prop} (r0 : Rd Try.prog 22 α0 mk0 ok0) (hk0 : ∀ x, (mk0 x).cells = [mk0 x])
    (hcall : ∀ (x0 : α0), ok0 x0 → CallA Try.prog 5 [mk0 x0] [] (fun r _ => r = .bool true) (fun _ _ => False)) (os : Os) (started : os.Started) (H : Type) (enc : TypeId × Value → H) :
    ReturnsInHanded {} Try.checked os 5 .any (Rows.sinkGrowsSpec.pre6 enc Try.prog Try.f5 Rows.sinkGrowsRow.domain false) (Rows.sinkGrowsSpec.post enc Try.prog Try.f5 false true false false) := by
  refine returnsInHanded_of_change_sized (C := Try.checked) own started (by kernel_rfl) Try.func5
    (ChangeSpec.witness6 (enc := enc) (C := Try.checked) false ⟨#[], #[.slice none 0 0], []⟩ 8 (by kernel_rfl) (by kernel_rfl) (by kernel_rfl) (by kernel_rfl)) ?_
  intro W base args ds gs before hval0 hW hcnd hsz0 _
  have hval : ∀ (j : Nat) t v, Try.f5.params[j]? = some t → args[j]? = some v → Value.okWide Try.prog W .any base t v := hval0
  have hW' := hW
  obtain ⟨p, q, hA0, hV, rfl, hfz, hnd⟩ := hW
  have hA : DataW.TrodAll enc Try.prog W 0 (fun _ => true) true Try.f5.params.toList args.toList ds p := hA0
  rw [Try.params5] at hA hval
  obtain ⟨v0, d0, rfl, rfl, ⟨f0, h0⟩⟩ := trodAll_one hA
  obtain ⟨rfl, rfl⟩ := trodVars_none hV
  have hsz := List.all_eq_true.1 hsz0
  have hw0 : ∀ n ∈ d0.weights Try.prog 22, n ≤ reachBytes := fun n hn => by simpa using hsz n (DataW.weights_mem_each (j := 0) (t := 22) (d := d0) rfl rfl n hn)
  obtain ⟨a0, n0, m0, rfl⟩ := okWide_slice Try.underlying22 (hval 0 22 v0 rfl rfl)
  obtain ⟨x0, hx0, hg0, _⟩ := r0.rd h0 hw0
  have hv : All2 (V0 W) [mk0 x0] #[Value.slice a0 n0 m0].toList := ⟨(arg_one hg0 (hk0 x0) rfl), trivial⟩
  refine post_true (P := Try.prog) (f := 5) (tb := 4) laidOut ?_ rfl rfl Try.underlying4 rfl rfl rfl hW' hv (hcall x0 hx0)
  rw [Try.params5]
  intro t ht
  simp only [List.mem_cons, List.not_mem_nil, or_false] at ht
  subst ht
  exact ⟨by kernel_rfl, of_decide_eq_true (by kernel_rfl)⟩

theorem sinkGrows_of {α0 : Type} {mk0 : α0 → AV} {ok0 : α0 → Prop} (r0 : Rd Try.prog 22 α0 mk0 ok0) (hk0 : ∀ x, (mk0 x).cells = [mk0 x])
    (hcall : ∀ (x0 : α0), ok0 x0 → CallA Try.prog 5 [mk0 x0] [] (fun r _ => r = .bool true) (fun _ _ => False)) : Rows.SinkGrowsSaid :=
  OpenClaim.holds_of_wide 5 Try.f5 rfl rfl rfl rfl rfl rfl rfl ⟨rfl, rfl, rfl, rfl, rfl⟩ rfl rfl rfl rfl rfl (by kernel_rfl) Try.func5 (by kernel_rfl)
    (of_decide_eq_true (by kernel_rfl)) (by unfold Func.isWrapper; first | (rw [if_pos (by decide +kernel)]; kernel_rfl) | (rw [if_neg (by decide +kernel)]; exact ⟨rfl, rfl⟩))
    (fun os started H enc _ => sinkGrows_lifted r0 hk0 hcall os started H enc)

theorem sinkGrows_holds : Rows.SinkGrowsSaid := by
  refine sinkGrows_of rdSOps (fun b => rfl) fun l ⟨hl, hll⟩ => ?_
  rw [show Try.prog.bytesOf 33 = 80 by kernel_rfl] at hll
  unfold reachBytes at hll
  have hvl := vecs_small hl
  have h := f5_is (fuel := l.length + vmax l + 6000) (l := l) (by omega) (by omega)
    (fun o ho => ⟨by have := vmax_le ho; omega, by have := hvl o ho; omega⟩)
  exact f5_call stdOps rfl _ _ h (fun r _ => r = .bool true) (fun _ _ => False) rfl
end Go.Proofs.Ytjdbmfipciadfaa.A
