/- The row of the law StoreRefuses: a refused call changes nothing; all sizes together are never above the room. It holds for every room and every list of operations; no condition. -/import Derived.Test.YtjdbmfipciadfaaRows
import Derived.ProofKit
import Derived.SizedLaws
import Derived.Test.YtjdbmfipciadfaaSpL
import Derived.Test.YtjdbmfipciadfaaSpRd
namespace Go.Proofs.Ytjdbmfipciadfaa.A
open Go Go.Pt Go.ChangeShapes Go.WideShapes Go.ChangeAt Go.RowKit
set_option maxRecDepth 100000 in
theorem storeRefuses_lifted {α0 : Type} {mk0 : α0 → AV} {ok0 : α0 → Prop} (r0 : Rd Try.prog 5 α0 mk0 ok0) {α1 : Type} {mk1 : α1 → AV} {ok1 : α1 → Prop} (r1 : Rd Try.prog 59 α1 mk1 ok1) (hk0 : ∀ x, (mk0 x).cells = [mk0 x]) (hk1 : ∀ x, (mk1 x).cells = [mk1 x])
    (hcall : ∀ (x0 : α0) (x1 : α1), ok0 x0 → ok1 x1 → CallA Try.prog 9 [mk0 x0, mk1 x1] [.fam 0 []] (fun r _ => r = .bool true) (fun _ _ => False)) (os : Os) (started : os.Started) (H : Type) (enc : TypeId × Value → H) :
    ReturnsInHanded {} Try.checked os 9 .any (Rows.storeRefusesSpec.pre6 enc Try.prog Try.f9 Rows.storeRefusesRow.domain false) (Rows.storeRefusesSpec.post enc Try.prog Try.f9 false true false false) := by
  refine returnsInHanded_of_change_sized (C := Try.checked) own started (by kernel_rfl) Try.func9
    (ChangeSpec.witness6 (enc := enc) (C := Try.checked) false ⟨#[], #[.int .u8 0, .slice none 0 0], []⟩ 8 (by kernel_rfl) (by kernel_rfl) (by kernel_rfl) (by kernel_rfl)) ?_
  intro W base args ds gs before hval0 hW hcnd hsz0 _
  have hval : ∀ (j : Nat) t v, Try.f9.params[j]? = some t → args[j]? = some v → Value.okWide Try.prog W .any base t v := hval0
  have hW' := hW
  obtain ⟨p, q, hA0, hV, rfl, hfz, hnd⟩ := hW
  have hA : DataW.TrodAll enc Try.prog W 0 (fun _ => true) true Try.f9.params.toList args.toList ds p := hA0
  rw [Try.params9] at hA hval
  obtain ⟨v0, v1, d0, d1, p0, p1, rfl, rfl, rfl, ⟨f0, h0⟩, ⟨f1, h1⟩⟩ := trodAll_two hA
  obtain ⟨rfl, rfl⟩ := trodVars_none hV
  have hsz := List.all_eq_true.1 hsz0
  have hw0 : ∀ n ∈ d0.weights Try.prog 5, n ≤ reachBytes := fun n hn => by simpa using hsz n (DataW.weights_mem_each (j := 0) (t := 5) (d := d0) rfl rfl n hn)
  obtain ⟨n0, rfl⟩ := okWide_int Try.underlying5 (hval 0 5 v0 rfl rfl)
  obtain ⟨x0, hx0, hg0, _⟩ := r0.rd h0 hw0
  have hw1 : ∀ n ∈ d1.weights Try.prog 59, n ≤ reachBytes := fun n hn => by simpa using hsz n (DataW.weights_mem_each (j := 1) (t := 59) (d := d1) rfl rfl n hn)
  obtain ⟨a1, n1, m1, rfl⟩ := okWide_slice Try.underlying59 (hval 1 59 v1 rfl rfl)
  obtain ⟨x1, hx1, hg1, _⟩ := r1.rd h1 hw1
  have hv : All2 (V0 W) [mk0 x0, mk1 x1] #[Value.int _ n0, Value.slice a1 n1 m1].toList := ⟨(arg_one hg0 (hk0 x0) rfl), (arg_one hg1 (hk1 x1) rfl), trivial⟩
  refine post_trueB (P := Try.prog) (f := 9) (tb := 4) bare_fam laidOut ?_ rfl rfl Try.underlying4 rfl rfl rfl hW' hv (hcall x0 x1 hx0 hx1)
  rw [Try.params9]
  intro t ht
  simp only [List.mem_cons, List.not_mem_nil, or_false] at ht
  rcases ht with rfl | rfl
  · exact ⟨by kernel_rfl, of_decide_eq_true (by kernel_rfl)⟩
  · exact ⟨by kernel_rfl, of_decide_eq_true (by kernel_rfl)⟩
theorem storeRefuses_of {α0 : Type} {mk0 : α0 → AV} {ok0 : α0 → Prop} (r0 : Rd Try.prog 5 α0 mk0 ok0) {α1 : Type} {mk1 : α1 → AV} {ok1 : α1 → Prop} (r1 : Rd Try.prog 59 α1 mk1 ok1) (hk0 : ∀ x, (mk0 x).cells = [mk0 x]) (hk1 : ∀ x, (mk1 x).cells = [mk1 x])
    (hcall : ∀ (x0 : α0) (x1 : α1), ok0 x0 → ok1 x1 → CallA Try.prog 9 [mk0 x0, mk1 x1] [.fam 0 []] (fun r _ => r = .bool true) (fun _ _ => False)) : Rows.StoreRefusesSaid :=
  OpenClaim.holds_of_wide 9 Try.f9 rfl rfl rfl rfl rfl rfl rfl ⟨rfl, rfl, rfl, rfl, rfl⟩ rfl rfl rfl rfl rfl (by kernel_rfl) Try.func9 (by kernel_rfl)
    (of_decide_eq_true (by kernel_rfl)) (by unfold Func.isWrapper; first | (rw [if_pos (by decide +kernel)]; kernel_rfl) | (rw [if_neg (by decide +kernel)]; exact ⟨rfl, rfl⟩))
    (fun os started H enc _ => storeRefuses_lifted r0 r1 hk0 hk1 hcall os started H enc)
theorem storeRefuses_holds : Rows.StoreRefusesSaid := by
  refine storeRefuses_of (rd_int Try.underlying5) rdSops (fun b => rfl) (fun b => rfl) fun n l h0 ⟨hl, hll⟩ => ?_
  have hn := wf8 h0
  have hb := sops_len hll
  obtain ⟨A, h⟩ := f9_is (fuel := l.length + 6000) hl (by omega) (by omega) hn.1 hn.2
  exact f9_call stdOps rfl _ _ _ _ h (fun r _ => r = .bool true) (fun _ _ => False) rfl
end Go.Proofs.Ytjdbmfipciadfaa.A
