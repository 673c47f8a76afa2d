/- The rows of the guard laws. -/
import Derived.Test.YtilffanmaicakaaRows
import Derived.ProofKit
import Derived.SizedLaws
import Derived.Test.YtilffanmaicakaaGdStays
import Derived.Test.YtilffanmaicakaaAmRead
namespace Go.Proofs.Ytilffanmaicakaa.A
open Go Go.Pt Go.Gd Go.ChangeShapes Go.WideShapes Go.ChangeAt Go.RowKit

def G.av (g : G) : AV := .agg [.int .i64 g.c, .int .i64 g.e, .int .i64 g.u, .int .i64 g.s, .int .i64 g.k, .int .i64 g.a]

theorem rdG : Rd Try.prog 23 G G.av (fun _ => True) :=
  rd_conv (rd_struct Try.underlying23 (rdf_cons rfl (rd_int Try.underlying2) (rdf_cons (by kernel_rfl) (rd_int Try.underlying2) (rdf_cons (by kernel_rfl) (rd_int Try.underlying2) (rdf_cons (by kernel_rfl) (rd_int Try.underlying2) (rdf_cons (by kernel_rfl) (rd_int Try.underlying3) (rdf_cons (by kernel_rfl) (rd_int Try.underlying2) (rdf_end (by kernel_rfl)))))))))
    (fun x => ⟨x.1, x.2.1, x.2.2.1, x.2.2.2.1, x.2.2.2.2.1, x.2.2.2.2.2.1⟩) (fun _ => rfl) (fun _ _ => trivial)

theorem rdC : Rd Try.prog 27 C C.av (fun _ => True) :=
  rd_conv (rd_struct Try.underlying27 (rdf_cons rfl (rd_int Try.underlying3) (rdf_cons (by kernel_rfl) (rd_int Try.underlying2) (rdf_cons (by kernel_rfl) (rd_int Try.underlying2) (rdf_cons (by kernel_rfl) (rd_bool Try.underlying4) (rdf_cons (by kernel_rfl) (rd_int Try.underlying2) (rdf_end (by kernel_rfl))))))))
    (fun x => ⟨x.1, x.2.1, x.2.2.1, x.2.2.2.1, x.2.2.2.2.1⟩) (fun _ => rfl) (fun _ _ => trivial)

theorem rdCs : Rd Try.prog 24 (List C) (fun l => .sl 5 (l.map C.av) .no) (fun l => (∀ x ∈ l, True) ∧ l.length * Try.prog.bytesOf 27 ≤ reachBytes) := rd_slice Try.underlying24 (by kernel_rfl) (by decide) rdC

theorem own : ownKnob Try.prog.godebug = none := by kernel_rfl
theorem laidOut : laidOutB Try.prog = true := by kernel_rfl

set_option maxRecDepth 100000 in
theorem guardStays_lifted {α0 : Type} {mk0 : α0 → AV} {ok0 : α0 → Prop} (r0 : Rd Try.prog 23 α0 mk0 ok0) {α1 : Type} {mk1 : α1 → AV} {ok1 : α1 → Prop} (r1 : Rd Try.prog 24 α1 mk1 ok1) (hk0 : ∀ x, ∃ l, mk0 x = .agg l) (hk1 : ∀ x, (mk1 x).cells = [mk1 x])
    (hcall : ∀ (x0 : α0) (x1 : α1), ok0 x0 → ok1 x1 → CallA Try.prog 3 [mk0 x0, mk1 x1] [] (fun r _ => r = .bool true) (fun _ _ => False)) (os : Os) (started : os.Started) (H : Type) (enc : TypeId × Value → H) :
    ReturnsInHanded {} Try.checked os 3 .any (Rows.guardStaysSpec.pre6 enc Try.prog Try.f3 Rows.guardStaysRow.domain false) (Rows.guardStaysSpec.post enc Try.prog Try.f3 false true false false) := by
  refine returnsInHanded_of_change_sized (C := Try.checked) own started (by kernel_rfl) Try.func3
    (ChangeSpec.witness6 (enc := enc) (C := Try.checked) false ⟨#[], #[.agg #[.int .i64 0, .int .i64 0, .int .i64 0, .int .i64 0, .int .i64 0, .int .i64 0], .slice none 0 0], []⟩ 8 (by kernel_rfl) (by kernel_rfl) (by kernel_rfl) (by kernel_rfl)) ?_
  intro W base args ds gs before hval0 hW hcnd hsz0 _
  have hval : ∀ (j : Nat) t v, Try.f3.params[j]? = some t → args[j]? = some v → Value.okWide Try.prog W .any base t v := hval0
  have hW' := hW
  obtain ⟨p, q, hA0, hV, rfl, hfz, hnd⟩ := hW
  have hA : DataW.TrodAll enc Try.prog W 0 (fun _ => true) true Try.f3.params.toList args.toList ds p := hA0
  rw [Try.params3] at hA hval
  obtain ⟨v0, v1, d0, d1, p0, p1, rfl, rfl, rfl, ⟨f0, h0⟩, ⟨f1, h1⟩⟩ := trodAll_two hA
  obtain ⟨rfl, rfl⟩ := trodVars_none hV
  have hsz := List.all_eq_true.1 hsz0
  have hw0 : ∀ n ∈ d0.weights Try.prog 23, n ≤ reachBytes := fun n hn => by simpa using hsz n (DataW.weights_mem_each (j := 0) (t := 23) (d := d0) rfl rfl n hn)
  obtain ⟨c0, rfl, _⟩ := okWide_struct Try.underlying23 (hval 0 23 v0 rfl rfl)
  obtain ⟨x0, hx0, hg0, _⟩ := r0.rd h0 hw0
  obtain ⟨l0, hl0⟩ := hk0 x0
  rw [hl0] at hg0
  have hw1 : ∀ n ∈ d1.weights Try.prog 24, n ≤ reachBytes := fun n hn => by simpa using hsz n (DataW.weights_mem_each (j := 1) (t := 24) (d := d1) rfl rfl n hn)
  obtain ⟨a1, n1, m1, rfl⟩ := okWide_slice Try.underlying24 (hval 1 24 v1 rfl rfl)
  obtain ⟨x1, hx1, hg1, _⟩ := r1.rd h1 hw1
  have hv : All2 (V0 W) [mk0 x0, mk1 x1] #[Value.agg c0, Value.slice a1 n1 m1].toList := ⟨(hl0 ▸ arg_agg hg0), (arg_one hg1 (hk1 x1) rfl), trivial⟩
  refine post_true (P := Try.prog) (f := 3) (tb := 4) laidOut ?_ rfl rfl Try.underlying4 rfl rfl rfl hW' hv (hcall x0 x1 hx0 hx1)
  rw [Try.params3]
  intro t ht
  simp only [List.mem_cons, List.not_mem_nil, or_false] at ht
  rcases ht with rfl | rfl
  · exact ⟨by kernel_rfl, of_decide_eq_true (by kernel_rfl)⟩
  · exact ⟨by kernel_rfl, of_decide_eq_true (by kernel_rfl)⟩

theorem guardStays_of {α0 : Type} {mk0 : α0 → AV} {ok0 : α0 → Prop} (r0 : Rd Try.prog 23 α0 mk0 ok0) {α1 : Type} {mk1 : α1 → AV} {ok1 : α1 → Prop} (r1 : Rd Try.prog 24 α1 mk1 ok1) (hk0 : ∀ x, ∃ l, mk0 x = .agg l) (hk1 : ∀ x, (mk1 x).cells = [mk1 x])
    (hcall : ∀ (x0 : α0) (x1 : α1), ok0 x0 → ok1 x1 → CallA Try.prog 3 [mk0 x0, mk1 x1] [] (fun r _ => r = .bool true) (fun _ _ => False)) : Rows.GuardStaysSaid :=
  OpenClaim.holds_of_wide 3 Try.f3 rfl rfl rfl rfl rfl rfl rfl ⟨rfl, rfl, rfl, rfl, rfl⟩ rfl rfl rfl rfl rfl (by kernel_rfl) Try.func3 (by kernel_rfl)
    (of_decide_eq_true (by kernel_rfl)) (by unfold Func.isWrapper; first | (rw [if_pos (by decide +kernel)]; kernel_rfl) | (rw [if_neg (by decide +kernel)]; exact ⟨rfl, rfl⟩))
    (fun os started H enc _ => guardStays_lifted r0 r1 hk0 hk1 hcall os started H enc)

theorem guardStays_holds : Rows.GuardStaysSaid := by
  refine guardStays_of rdG rdCs (fun x => ⟨_, rfl⟩) (fun _ => rfl) fun g l _ hl => ?_
  obtain ⟨_, hl⟩ := hl
  have hlen : (l.length : Int) < 2 ^ 48 := by
    rw [show Try.prog.bytesOf 27 = 40 by kernel_rfl] at hl
    unfold reachBytes at hl; omega
  exact guardStays_call g.c g.e g.u g.s g.k g.a l _ rfl _ rfl hlen _ _ rfl
end Go.Proofs.Ytilffanmaicakaa.A
