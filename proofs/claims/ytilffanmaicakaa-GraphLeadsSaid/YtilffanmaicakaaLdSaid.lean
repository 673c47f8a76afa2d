/- The row of the law GraphLeads: in a graph that may be, each port leads to an operator behind it, there are as many ports as inputs, and from each operator one comes to the sink. -/
import Derived.Test.YtilffanmaicakaaRows
import Derived.ProofKit
import Derived.SizedLaws
import Derived.Test.YtilffanmaicakaaGrSpecQ
import Derived.Test.YtilffanmaicakaaAmSaid
import Derived.Test.YtilffanmaicakaaAmRead
namespace Go.Proofs.Ytilffanmaicakaa.A
open Go Go.Pt Go.Gr Go.ChangeShapes Go.WideShapes Go.ChangeAt Go.RowKit

theorem rdEd : Rd Try.prog 74 Ed Ed.av (fun _ => True) :=
  rd_conv (rd_struct Try.underlying74 (rdf_cons rfl (rd_int Try.underlying3) (rdf_cons (by kernel_rfl) (rd_int Try.underlying3) (rdf_end (by kernel_rfl)))))
    (fun x => ⟨x.1, x.2.1⟩) (fun _ => rfl) (fun _ _ => trivial)
theorem rdEds : Rd Try.prog 60 (List Ed) (fun l => .sl 2 (l.map Ed.av) .no) (fun l => (∀ x ∈ l, True) ∧ l.length * Try.prog.bytesOf 74 ≤ reachBytes) := rd_slice Try.underlying60 (by kernel_rfl) (by decide) rdEd
theorem rdOp : Rd Try.prog 62 Gr.Op Gr.Op.av (fun _ => True) :=
  rd_conv (rd_struct Try.underlying62 (rdf_cons rfl (rd_int Try.underlying3) (rdf_cons (by kernel_rfl) (rd_int Try.underlying3) (rdf_cons (by kernel_rfl) (rd_int Try.underlying3) (rdf_cons (by kernel_rfl) (rd_int Try.underlying2) (rdf_cons (by kernel_rfl) rdEds (rdf_end (by kernel_rfl))))))))
    (fun x => ⟨x.1, x.2.1, x.2.2.1, x.2.2.2.1, x.2.2.2.2.1⟩) (fun _ => rfl) (fun _ _ => trivial)
theorem rdOps : Rd Try.prog 55 (List Gr.Op) (fun l => .sl 5 (l.map Gr.Op.av) .no) (fun l => (∀ x ∈ l, True) ∧ l.length * Try.prog.bytesOf 62 ≤ reachBytes) := rd_slice Try.underlying55 (by kernel_rfl) (by decide) rdOp
def gav (g : G) : AV := .agg [.int .i64 g.n, .sl 5 (g.o.map Gr.Op.av) .no]
theorem rdG : Rd Try.prog 57 G gav (fun g => g.o.length * Try.prog.bytesOf 62 ≤ reachBytes) :=
  rd_conv (rd_struct Try.underlying57 (rdf_cons rfl (rd_int Try.underlying3) (rdf_cons (by kernel_rfl) rdOps (rdf_end (by kernel_rfl)))))
    (fun x => ⟨x.1, x.2.1⟩) (fun _ => rfl) (fun _ h => h.2.1.2)

theorem own : ownKnob Try.prog.godebug = none := by kernel_rfl
theorem laidOut : laidOutB Try.prog = true := by kernel_rfl

set_option maxRecDepth 100000 in
theorem graphLeads_lifted {α0 : Type} {mk0 : α0 → AV} {ok0 : α0 → Prop} (r0 : Rd Try.prog 57 α0 mk0 ok0) (hk0 : ∀ x, ∃ l, mk0 x = .agg l)
    (hcall : ∀ (x0 : α0), ok0 x0 → CallA Try.prog 7 [mk0 x0] [] (fun r _ => r = .bool true) (fun _ _ => False)) (os : Os) (started : os.Started) (H : Type) (enc : TypeId × Value → H) :
    ReturnsInHanded {} Try.checked os 7 .any (Rows.graphLeadsSpec.pre6 enc Try.prog Try.f7 Rows.graphLeadsRow.domain false) (Rows.graphLeadsSpec.post enc Try.prog Try.f7 false true false false) := by
  refine returnsInHanded_of_change_sized (C := Try.checked) own started (by kernel_rfl) Try.func7
    (ChangeSpec.witness6 (enc := enc) (C := Try.checked) false ⟨#[], #[.agg #[.int .i64 0, .slice none 0 0]], []⟩ 8 (by kernel_rfl) (by kernel_rfl) (by kernel_rfl) (by kernel_rfl)) ?_
  intro W base args ds gs before hval0 hW hcnd hsz0 _
  have hval : ∀ (j : Nat) t v, Try.f7.params[j]? = some t → args[j]? = some v → Value.okWide Try.prog W .any base t v := hval0
  have hW' := hW
  obtain ⟨p, q, hA0, hV, rfl, hfz, hnd⟩ := hW
  have hA : DataW.TrodAll enc Try.prog W 0 (fun _ => true) true Try.f7.params.toList args.toList ds p := hA0
  rw [Try.params7] at hA hval
  obtain ⟨v0, d0, rfl, rfl, ⟨f0, h0⟩⟩ := trodAll_one hA
  obtain ⟨rfl, rfl⟩ := trodVars_none hV
  have hsz := List.all_eq_true.1 hsz0
  have hw0 : ∀ n ∈ d0.weights Try.prog 57, n ≤ reachBytes := fun n hn => by simpa using hsz n (DataW.weights_mem_each (j := 0) (t := 57) (d := d0) rfl rfl n hn)
  obtain ⟨c0, rfl, _⟩ := okWide_struct Try.underlying57 (hval 0 57 v0 rfl rfl)
  obtain ⟨x0, hx0, hg0, _⟩ := r0.rd h0 hw0
  obtain ⟨l0, hl0⟩ := hk0 x0
  rw [hl0] at hg0
  have hv : All2 (V0 W) [mk0 x0] #[Value.agg c0].toList := ⟨(hl0 ▸ arg_agg hg0), trivial⟩
  refine post_true (P := Try.prog) (f := 7) (tb := 4) laidOut ?_ rfl rfl Try.underlying4 rfl rfl rfl hW' hv (hcall x0 hx0)
  rw [Try.params7]
  intro t ht
  simp only [List.mem_cons, List.not_mem_nil, or_false] at ht
  subst ht
  exact ⟨by kernel_rfl, of_decide_eq_true (by kernel_rfl)⟩

theorem graphLeads_of {α0 : Type} {mk0 : α0 → AV} {ok0 : α0 → Prop} (r0 : Rd Try.prog 57 α0 mk0 ok0) (hk0 : ∀ x, ∃ l, mk0 x = .agg l)
    (hcall : ∀ (x0 : α0), ok0 x0 → CallA Try.prog 7 [mk0 x0] [] (fun r _ => r = .bool true) (fun _ _ => False)) : Rows.GraphLeadsSaid :=
  OpenClaim.holds_of_wide 7 Try.f7 rfl rfl rfl rfl rfl rfl rfl ⟨rfl, rfl, rfl, rfl, rfl⟩ rfl rfl rfl rfl rfl (by kernel_rfl) Try.func7 (by kernel_rfl)
    (of_decide_eq_true (by kernel_rfl)) (by unfold Func.isWrapper; first | (rw [if_pos (by decide +kernel)]; kernel_rfl) | (rw [if_neg (by decide +kernel)]; exact ⟨rfl, rfl⟩))
    (fun os started H enc _ => graphLeads_lifted r0 hk0 hcall os started H enc)

theorem graphLeads_holds : Rows.GraphLeadsSaid := by
  refine graphLeads_of rdG (fun g => ⟨_, rfl⟩) fun g hl => ?_
  have hlen : (g.o.length : Int) < 2 ^ 48 := by
    rw [show Try.prog.bytesOf 62 = 56 by kernel_rfl] at hl
    unfold reachBytes at hl; omega
  exact graphLeads_call g.n g.o _ rfl _ rfl hlen _ _ rfl
end Go.Proofs.Ytilffanmaicakaa.A
