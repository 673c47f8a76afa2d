/- The row of the law SinkDoes: whatever comes to a sink, from whatever epochs. It holds for every number of partitions and every list of operations; no condition. -/
import Derived.Test.YtjdbmfipciadfaaRows
import Derived.ProofKit
import Derived.SizedLaws
import Derived.Test.YtjdbmfipciadfaaTpJ
import Derived.Test.YtjdbmfipciadfaaTpRd

namespace Go.Proofs.Ytjdbmfipciadfaa.A
open Go Go.Pt Go.ChangeShapes Go.WideShapes Go.ChangeAt Go.RowKit

set_option maxRecDepth 100000 in
theorem sinkDoes_lifted {α0 : Type} {mk0 : α0 → AV} {ok0 : α0 → Prop} (r0 : Rd Try.prog 3 α0 mk0 ok0) {α1 : Type} {mk1 : α1 → AV} {ok1 : α1 → Prop} (r1 : Rd Try.prog 22 α1 mk1 ok1) (hk0 : ∀ x, (mk0 x).cells = [mk0 x]) (hk1 : ∀ x, (mk1 x).cells = [mk1 x])
    (hcall : ∀ (x0 : α0) (x1 : α1), ok0 x0 → ok1 x1 → CallA Try.prog 10 [mk0 x0, mk1 x1] [] (fun r _ => r = .bool true) (fun _ _ => False)) (os : Os) (started : os.Started) (H : Type) (enc : TypeId × Value → H) :
    ReturnsInHanded {} Try.checked os 10 .any (Rows.sinkDoesSpec.pre6 enc Try.prog Try.f10 Rows.sinkDoesRow.domain false) (Rows.sinkDoesSpec.post enc Try.prog Try.f10 false true false false) := by
  refine returnsInHanded_of_change_sized (C := Try.checked) own started (by kernel_rfl) Try.func10
    (ChangeSpec.witness6 (enc := enc) (C := Try.checked) false ⟨#[], #[.int .i64 0, .slice none 0 0], []⟩ 8 (by kernel_rfl) (by kernel_rfl) (by kernel_rfl) (by kernel_rfl)) ?_
  intro W base args ds gs before hval0 hW hcnd hsz0 _
  have hval : ∀ (j : Nat) t v, Try.f10.params[j]? = some t → args[j]? = some v → Value.okWide Try.prog W .any base t v := hval0
  have hW' := hW
  obtain ⟨p, q, hA0, hV, rfl, hfz, hnd⟩ := hW
  have hA : DataW.TrodAll enc Try.prog W 0 (fun _ => true) true Try.f10.params.toList args.toList ds p := hA0
  rw [Try.params10] at hA hval
  obtain ⟨v0, v1, d0, d1, p0, p1, rfl, rfl, rfl, ⟨f0, h0⟩, ⟨f1, h1⟩⟩ := trodAll_two hA
  obtain ⟨rfl, rfl⟩ := trodVars_none hV
  have hsz := List.all_eq_true.1 hsz0
  have hw0 : ∀ n ∈ d0.weights Try.prog 3, n ≤ reachBytes := fun n hn => by simpa using hsz n (DataW.weights_mem_each (j := 0) (t := 3) (d := d0) rfl rfl n hn)
  obtain ⟨n0, rfl⟩ := okWide_int Try.underlying3 (hval 0 3 v0 rfl rfl)
  obtain ⟨x0, hx0, hg0, _⟩ := r0.rd h0 hw0
  have hw1 : ∀ n ∈ d1.weights Try.prog 22, n ≤ reachBytes := fun n hn => by simpa using hsz n (DataW.weights_mem_each (j := 1) (t := 22) (d := d1) rfl rfl n hn)
  obtain ⟨a1, n1, m1, rfl⟩ := okWide_slice Try.underlying22 (hval 1 22 v1 rfl rfl)
  obtain ⟨x1, hx1, hg1, _⟩ := r1.rd h1 hw1
  have hv : All2 (V0 W) [mk0 x0, mk1 x1] #[Value.int _ n0, Value.slice a1 n1 m1].toList := ⟨(arg_one hg0 (hk0 x0) rfl), (arg_one hg1 (hk1 x1) rfl), trivial⟩
  refine post_true (P := Try.prog) (f := 10) (tb := 4) laidOut ?_ rfl rfl Try.underlying4 rfl rfl rfl hW' hv (hcall x0 x1 hx0 hx1)
  rw [Try.params10]
  intro t ht
  simp only [List.mem_cons, List.not_mem_nil, or_false] at ht
  rcases ht with rfl | rfl
  · exact ⟨by kernel_rfl, of_decide_eq_true (by kernel_rfl)⟩
  · exact ⟨by kernel_rfl, of_decide_eq_true (by kernel_rfl)⟩

theorem sinkDoes_of {α0 : Type} {mk0 : α0 → AV} {ok0 : α0 → Prop} (r0 : Rd Try.prog 3 α0 mk0 ok0) {α1 : Type} {mk1 : α1 → AV} {ok1 : α1 → Prop} (r1 : Rd Try.prog 22 α1 mk1 ok1) (hk0 : ∀ x, (mk0 x).cells = [mk0 x]) (hk1 : ∀ x, (mk1 x).cells = [mk1 x])
    (hcall : ∀ (x0 : α0) (x1 : α1), ok0 x0 → ok1 x1 → CallA Try.prog 10 [mk0 x0, mk1 x1] [] (fun r _ => r = .bool true) (fun _ _ => False)) : Rows.SinkDoesSaid :=
  OpenClaim.holds_of_wide 10 Try.f10 rfl rfl rfl rfl rfl rfl rfl ⟨rfl, rfl, rfl, rfl, rfl⟩ rfl rfl rfl rfl rfl (by kernel_rfl) Try.func10 (by kernel_rfl)
    (of_decide_eq_true (by kernel_rfl)) (by unfold Func.isWrapper; first | (rw [if_pos (by decide +kernel)]; kernel_rfl) | (rw [if_neg (by decide +kernel)]; exact ⟨rfl, rfl⟩))
    (fun os started H enc _ => sinkDoes_lifted r0 r1 hk0 hk1 hcall os started H enc)

theorem sinkDoes_holds : Rows.SinkDoesSaid := by
  refine sinkDoes_of (rd_int Try.underlying3) rdSOps (fun b => rfl) (fun b => rfl) fun n l _ ⟨hl, hll⟩ => ?_
  rw [show Try.prog.bytesOf 33 = 80 by kernel_rfl] at hll
  unfold reachBytes at hll
  have hvl := vecs_small hl
  have h := f10_is (fuel := l.length + vmax l + 7000) (n := n) (l := l) (by omega) (by omega) (fun o ho => ⟨by have := vmax_le ho; omega, by have := hvl o ho; omega⟩)
  exact f10_call stdOps rfl _ _ _ h (fun r _ => r = .bool true) (fun _ _ => False) rfl
end Go.Proofs.Ytjdbmfipciadfaa.A
