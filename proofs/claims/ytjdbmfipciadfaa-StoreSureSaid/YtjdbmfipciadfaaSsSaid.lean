/- The row of the law StoreSure: no byte that is sure is lost or changed, but under a write that was not sure. It holds for every list of operations and every crash; no condition. -/import Derived.Test.YtjdbmfipciadfaaRows
import Derived.ProofKit
import Derived.SizedLaws
import Derived.Test.YtjdbmfipciadfaaMb8
namespace Go.Proofs.Ytjdbmfipciadfaa.A
open Go Go.Pt Go.ChangeShapes Go.WideShapes Go.ChangeAt Go.RowKit
set_option maxRecDepth 100000 in
theorem storeSure_lifted {α0 : Type} {mk0 : α0 → AV} {ok0 : α0 → Prop} (r0 : Rd Try.prog 59 α0 mk0 ok0) {α1 : Type} {mk1 : α1 → AV} {ok1 : α1 → Prop} (r1 : Rd Try.prog 3 α1 mk1 ok1) {α2 : Type} {mk2 : α2 → AV} {ok2 : α2 → Prop} (r2 : Rd Try.prog 3 α2 mk2 ok2) (hk0 : ∀ x, (mk0 x).cells = [mk0 x]) (hk1 : ∀ x, (mk1 x).cells = [mk1 x]) (hk2 : ∀ x, (mk2 x).cells = [mk2 x])
    (hcall : ∀ (x0 : α0) (x1 : α1) (x2 : α2), ok0 x0 → ok1 x1 → ok2 x2 → CallA Try.prog 7 [mk0 x0, mk1 x1, mk2 x2] [.fam 0 []] (fun r _ => r = .bool true) (fun _ _ => False)) (os : Os) (started : os.Started) (H : Type) (enc : TypeId × Value → H) :
    ReturnsInHanded {} Try.checked os 7 .any (Rows.storeSureSpec.pre6 enc Try.prog Try.f7 Rows.storeSureRow.domain false) (Rows.storeSureSpec.post enc Try.prog Try.f7 false true false false) := by
  refine returnsInHanded_of_change_sized (C := Try.checked) own started (by kernel_rfl) Try.func7
    (ChangeSpec.witness6 (enc := enc) (C := Try.checked) false ⟨#[], #[.slice none 0 0, .int .i64 0, .int .i64 0], []⟩ 8 (by kernel_rfl) (by kernel_rfl) (by kernel_rfl) (by kernel_rfl)) ?_
  intro W base args ds gs before hval0 hW hcnd hsz0 _
  have hval : ∀ (j : Nat) t v, Try.f7.params[j]? = some t → args[j]? = some v → Value.okWide Try.prog W .any base t v := hval0
  have hW' := hW
  obtain ⟨p, q, hA0, hV, rfl, hfz, hnd⟩ := hW
  have hA : DataW.TrodAll enc Try.prog W 0 (fun _ => true) true Try.f7.params.toList args.toList ds p := hA0
  rw [Try.params7] at hA hval
  obtain ⟨v0, v1, v2, d0, d1, d2, p0, p1, p2, rfl, rfl, rfl, ⟨f0, h0⟩, ⟨f1, h1⟩, ⟨f2, h2⟩⟩ := trodAll_three hA
  obtain ⟨rfl, rfl⟩ := trodVars_none hV
  have hsz := List.all_eq_true.1 hsz0
  have hw0 : ∀ n ∈ d0.weights Try.prog 59, n ≤ reachBytes := fun n hn => by simpa using hsz n (DataW.weights_mem_each (j := 0) (t := 59) (d := d0) rfl rfl n hn)
  obtain ⟨a0, n0, m0, rfl⟩ := okWide_slice Try.underlying59 (hval 0 59 v0 rfl rfl)
  obtain ⟨x0, hx0, hg0, _⟩ := r0.rd h0 hw0
  have hw1 : ∀ n ∈ d1.weights Try.prog 3, n ≤ reachBytes := fun n hn => by simpa using hsz n (DataW.weights_mem_each (j := 1) (t := 3) (d := d1) rfl rfl n hn)
  obtain ⟨n1, rfl⟩ := okWide_int Try.underlying3 (hval 1 3 v1 rfl rfl)
  obtain ⟨x1, hx1, hg1, _⟩ := r1.rd h1 hw1
  have hw2 : ∀ n ∈ d2.weights Try.prog 3, n ≤ reachBytes := fun n hn => by simpa using hsz n (DataW.weights_mem_each (j := 2) (t := 3) (d := d2) rfl rfl n hn)
  obtain ⟨n2, rfl⟩ := okWide_int Try.underlying3 (hval 2 3 v2 rfl rfl)
  obtain ⟨x2, hx2, hg2, _⟩ := r2.rd h2 hw2
  have hv : All2 (V0 W) [mk0 x0, mk1 x1, mk2 x2] #[Value.slice a0 n0 m0, Value.int _ n1, Value.int _ n2].toList := ⟨(arg_one hg0 (hk0 x0) rfl), (arg_one hg1 (hk1 x1) rfl), (arg_one hg2 (hk2 x2) rfl), trivial⟩
  refine post_trueB (P := Try.prog) (f := 7) (tb := 4) bare_fam laidOut ?_ rfl rfl Try.underlying4 rfl rfl rfl hW' hv (hcall x0 x1 x2 hx0 hx1 hx2)
  rw [Try.params7]
  intro t ht
  simp only [List.mem_cons, List.not_mem_nil, or_false] at ht
  rcases ht with rfl | rfl | rfl
  · exact ⟨by kernel_rfl, of_decide_eq_true (by kernel_rfl)⟩
  · exact ⟨by kernel_rfl, of_decide_eq_true (by kernel_rfl)⟩
  · exact ⟨by kernel_rfl, of_decide_eq_true (by kernel_rfl)⟩
theorem storeSure_of {α0 : Type} {mk0 : α0 → AV} {ok0 : α0 → Prop} (r0 : Rd Try.prog 59 α0 mk0 ok0) {α1 : Type} {mk1 : α1 → AV} {ok1 : α1 → Prop} (r1 : Rd Try.prog 3 α1 mk1 ok1) {α2 : Type} {mk2 : α2 → AV} {ok2 : α2 → Prop} (r2 : Rd Try.prog 3 α2 mk2 ok2) (hk0 : ∀ x, (mk0 x).cells = [mk0 x]) (hk1 : ∀ x, (mk1 x).cells = [mk1 x]) (hk2 : ∀ x, (mk2 x).cells = [mk2 x])
    (hcall : ∀ (x0 : α0) (x1 : α1) (x2 : α2), ok0 x0 → ok1 x1 → ok2 x2 → CallA Try.prog 7 [mk0 x0, mk1 x1, mk2 x2] [.fam 0 []] (fun r _ => r = .bool true) (fun _ _ => False)) : Rows.StoreSureSaid :=
  OpenClaim.holds_of_wide 7 Try.f7 rfl rfl rfl rfl rfl rfl rfl ⟨rfl, rfl, rfl, rfl, rfl⟩ rfl rfl rfl rfl rfl (by kernel_rfl) Try.func7 (by kernel_rfl)
    (of_decide_eq_true (by kernel_rfl)) (by unfold Func.isWrapper; first | (rw [if_pos (by decide +kernel)]; kernel_rfl) | (rw [if_neg (by decide +kernel)]; exact ⟨rfl, rfl⟩))
    (fun os started H enc _ => storeSure_lifted r0 r1 r2 hk0 hk1 hk2 hcall os started H enc)
theorem storeSure_holds : Rows.StoreSureSaid := by
  refine storeSure_of rdSops (rd_int Try.underlying3) (rd_int Try.underlying3) (fun b => rfl) (fun b => rfl) (fun b => rfl) fun l k t ⟨hl, hll⟩ hk ht => ?_
  have hb := sops_len hll
  obtain ⟨A, h⟩ := f7_is (fuel := l.length + 6000000) hl (by omega) (by omega) (wf64 hk) (wf64 ht)
  exact f7_call stdOps rfl _ _ _ _ _ h (fun r _ => r = .bool true) (fun _ _ => False) rfl
end Go.Proofs.Ytjdbmfipciadfaa.A
