/- The row of the law GuardNever. -/
import Derived.Test.YtilffanmaicakaaRows
import Derived.ProofKit
import Derived.SizedLaws
import Derived.Test.YtilffanmaicakaaNvLaw
import Derived.Test.YtilffanmaicakaaAmSaid
import Derived.Test.YtilffanmaicakaaAmRead
namespace Go.Proofs.Ytilffanmaicakaa.A
open Go Go.Pt Go.ChangeShapes Go.WideShapes Go.ChangeAt Go.RowKit

theorem rdMv : Rd Try.prog 52 Mv Mv.av (fun _ => True) :=
  rd_conv (rd_struct Try.underlying52 (rdf_cons rfl (rd_int Try.underlying3) (rdf_cons (by kernel_rfl) (rd_int Try.underlying3) (rdf_cons (by kernel_rfl) (rd_int Try.underlying3) (rdf_cons (by kernel_rfl) (rd_int Try.underlying3) (rdf_cons (by kernel_rfl) (rd_bool Try.underlying4) (rdf_end (by kernel_rfl))))))))
    (fun x => ⟨x.1, x.2.1, x.2.2.1, x.2.2.2.1, x.2.2.2.2.1⟩) (fun _ => rfl) (fun _ _ => trivial)

theorem rdMvs : Rd Try.prog 36 (List Mv) (fun l => .sl 5 (l.map Mv.av) .no) (fun l => (∀ x ∈ l, True) ∧ l.length * Try.prog.bytesOf 52 ≤ reachBytes) := rd_slice Try.underlying36 (by kernel_rfl) (by decide) rdMv

theorem own : ownKnob Try.prog.godebug = none := by kernel_rfl
theorem laidOut : laidOutB Try.prog = true := by kernel_rfl

set_option maxRecDepth 100000 in
theorem guardNever_lifted {α0 : Type} {mk0 : α0 → AV} {ok0 : α0 → Prop} (r0 : Rd Try.prog 36 α0 mk0 ok0) (hk0 : ∀ x, (mk0 x).cells = [mk0 x])
    (hcall : ∀ (x0 : α0), ok0 x0 → CallA Try.prog 5 [mk0 x0] [] (fun r _ => r = .bool true) (fun _ _ => False)) (os : Os) (started : os.Started) (H : Type) (enc : TypeId × Value → H) :
    ReturnsInHanded {} Try.checked os 5 .any (Rows.guardNeverSpec.pre6 enc Try.prog Try.f5 Rows.guardNeverRow.domain false) (Rows.guardNeverSpec.post enc Try.prog Try.f5 false true false false) := by
  refine returnsInHanded_of_change_sized (C := Try.checked) own started (by kernel_rfl) Try.func5
    (ChangeSpec.witness6 (enc := enc) (C := Try.checked) false ⟨#[], #[.slice none 0 0], []⟩ 8 (by kernel_rfl) (by kernel_rfl) (by kernel_rfl) (by kernel_rfl)) ?_
  intro W base args ds gs before hval0 hW hcnd hsz0 _
  have hval : ∀ (j : Nat) t v, Try.f5.params[j]? = some t → args[j]? = some v → Value.okWide Try.prog W .any base t v := hval0
  have hW' := hW
  obtain ⟨p, q, hA0, hV, rfl, hfz, hnd⟩ := hW
  have hA : DataW.TrodAll enc Try.prog W 0 (fun _ => true) true Try.f5.params.toList args.toList ds p := hA0
  rw [Try.params5] at hA hval
  obtain ⟨v0, d0, rfl, rfl, ⟨f0, h0⟩⟩ := trodAll_one hA
  obtain ⟨rfl, rfl⟩ := trodVars_none hV
  have hsz := List.all_eq_true.1 hsz0
  have hw0 : ∀ n ∈ d0.weights Try.prog 36, n ≤ reachBytes := fun n hn => by simpa using hsz n (DataW.weights_mem_each (j := 0) (t := 36) (d := d0) rfl rfl n hn)
  obtain ⟨a0, n0, m0, rfl⟩ := okWide_slice Try.underlying36 (hval 0 36 v0 rfl rfl)
  obtain ⟨x0, hx0, hg0, _⟩ := r0.rd h0 hw0
  have hv : All2 (V0 W) [mk0 x0] #[Value.slice a0 n0 m0].toList := ⟨(arg_one hg0 (hk0 x0) rfl), trivial⟩
  refine post_true (P := Try.prog) (f := 5) (tb := 4) laidOut ?_ rfl rfl Try.underlying4 rfl rfl rfl hW' hv (hcall x0 hx0)
  rw [Try.params5]
  intro t ht
  simp only [List.mem_cons, List.not_mem_nil, or_false] at ht
  subst ht
  exact ⟨by kernel_rfl, of_decide_eq_true (by kernel_rfl)⟩

theorem guardNever_of {α0 : Type} {mk0 : α0 → AV} {ok0 : α0 → Prop} (r0 : Rd Try.prog 36 α0 mk0 ok0) (hk0 : ∀ x, (mk0 x).cells = [mk0 x])
    (hcall : ∀ (x0 : α0), ok0 x0 → CallA Try.prog 5 [mk0 x0] [] (fun r _ => r = .bool true) (fun _ _ => False)) : Rows.GuardNeverSaid :=
  OpenClaim.holds_of_wide 5 Try.f5 rfl rfl rfl rfl rfl rfl rfl ⟨rfl, rfl, rfl, rfl, rfl⟩ rfl rfl rfl rfl rfl (by kernel_rfl) Try.func5 (by kernel_rfl)
    (of_decide_eq_true (by kernel_rfl)) (by unfold Func.isWrapper; first | (rw [if_pos (by decide +kernel)]; kernel_rfl) | (rw [if_neg (by decide +kernel)]; exact ⟨rfl, rfl⟩))
    (fun os started H enc _ => guardNever_lifted r0 hk0 hcall os started H enc)

theorem guardNever_holds : Rows.GuardNeverSaid := by
  refine guardNever_of rdMvs (fun _ => rfl) fun l hl => ?_
  obtain ⟨_, hl⟩ := hl
  have hlen : (l.length : Int) < 2 ^ 48 := by
    rw [show Try.prog.bytesOf 52 = 40 by kernel_rfl] at hl
    unfold reachBytes at hl; omega
  exact guardNever_call l _ rfl hlen _ _ rfl
end Go.Proofs.Ytilffanmaicakaa.A
