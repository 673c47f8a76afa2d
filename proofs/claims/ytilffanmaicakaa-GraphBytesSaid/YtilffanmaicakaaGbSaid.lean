/- The row of the law GraphBytes: any graph's bytes, and what any bytes say, are the document's. -/
import Derived.Test.YtilffanmaicakaaRows
import Derived.ProofKit
import Derived.SizedLaws
import Derived.Test.YtilffanmaicakaaMhE
import Derived.Test.YtilffanmaicakaaMaD

namespace Go.Proofs.Ytilffanmaicakaa.A
open Go Go.Pt Go.Gr Go.ChangeShapes Go.WideShapes Go.ChangeAt Go.RowKit

theorem wf64 {n : Int} (h : (Lit.int .i64 n).wf = true) : In64 n := by
  simp only [Lit.wf, Bool.and_eq_true, decide_eq_true_eq] at h
  have h1 : IntKind.i64.min = -9223372036854775808 := by decide
  have h2 : IntKind.i64.max = 9223372036854775807 := by decide
  rw [h1, h2] at h
  exact h
theorem wf8 {n : Int} (h : (Lit.int .u8 n).wf = true) : 0 ≤ n ∧ n < 256 := by
  simp only [Lit.wf, Bool.and_eq_true, decide_eq_true_eq] at h
  have h1 : IntKind.u8.min = 0 := by decide
  have h2 : IntKind.u8.max = 255 := by decide
  rw [h1, h2] at h
  omega
theorem rdEd : Rd Try.prog 74 Ed Ed.av EdIn :=
  rd_conv (rd_struct Try.underlying74 (rdf_cons rfl (rd_int Try.underlying3) (rdf_cons (by kernel_rfl) (rd_int Try.underlying3) (rdf_end (by kernel_rfl)))))
    (fun x => ⟨x.1, x.2.1⟩) (fun _ => rfl) (fun _ h => ⟨wf64 h.1, wf64 h.2.1⟩)
theorem rdEds : Rd Try.prog 60 (List Ed) (fun l => .sl 2 (l.map Ed.av) .no) (fun l => (∀ x ∈ l, EdIn x) ∧ l.length * Try.prog.bytesOf 74 ≤ reachBytes) := rd_slice Try.underlying60 (by kernel_rfl) (by decide) rdEd
theorem rdOp : Rd Try.prog 62 Gr.Op Gr.Op.av (fun o => OpIn o ∧ o.i.length * Try.prog.bytesOf 74 ≤ reachBytes) :=
  rd_conv (rd_struct Try.underlying62 (rdf_cons rfl (rd_int Try.underlying3) (rdf_cons (by kernel_rfl) (rd_int Try.underlying3) (rdf_cons (by kernel_rfl) (rd_int Try.underlying3) (rdf_cons (by kernel_rfl) (rd_int Try.underlying2) (rdf_cons (by kernel_rfl) rdEds (rdf_end (by kernel_rfl))))))))
    (fun x => ⟨x.1, x.2.1, x.2.2.1, x.2.2.2.1, x.2.2.2.2.1⟩) (fun _ => rfl) (fun _ h => ⟨⟨wf64 h.1, wf64 h.2.1, wf64 h.2.2.1, wf64 h.2.2.2.1, h.2.2.2.2.1.1⟩, h.2.2.2.2.1.2⟩)
theorem rdOps : Rd Try.prog 55 (List Gr.Op) (fun l => .sl 5 (l.map Gr.Op.av) .no) (fun l => (∀ x ∈ l, OpIn x ∧ x.i.length * Try.prog.bytesOf 74 ≤ reachBytes) ∧ l.length * Try.prog.bytesOf 62 ≤ reachBytes) := rd_slice Try.underlying55 (by kernel_rfl) (by decide) rdOp
def gav (g : G) : AV := .agg [.int .i64 g.n, .sl 5 (g.o.map Gr.Op.av) .no]
theorem rdG : Rd Try.prog 57 G gav (fun g => In64 g.n ∧ (∀ x ∈ g.o, OpIn x ∧ x.i.length * Try.prog.bytesOf 74 ≤ reachBytes) ∧ g.o.length * Try.prog.bytesOf 62 ≤ reachBytes) :=
  rd_conv (rd_struct Try.underlying57 (rdf_cons rfl (rd_int Try.underlying3) (rdf_cons (by kernel_rfl) rdOps (rdf_end (by kernel_rfl)))))
    (fun x => ⟨x.1, x.2.1⟩) (fun _ => rfl) (fun _ h => ⟨wf64 h.1, h.2.1⟩)
theorem rdB : Rd Try.prog 76 (List Int) (fun l => .sl 1 (l.map (AV.int .u8)) .no) (fun l => (∀ x ∈ l, (Lit.int .u8 x).wf = true) ∧ l.length * Try.prog.bytesOf 5 ≤ reachBytes) := rd_slice Try.underlying76 (by kernel_rfl) (by decide) (rd_int Try.underlying5)

theorem own : ownKnob Try.prog.godebug = none := by kernel_rfl
theorem laidOut : laidOutB Try.prog = true := by kernel_rfl

set_option maxRecDepth 100000 in
theorem graphBytes_lifted {α0 : Type} {mk0 : α0 → AV} {ok0 : α0 → Prop} (r0 : Rd Try.prog 57 α0 mk0 ok0) {α1 : Type} {mk1 : α1 → AV} {ok1 : α1 → Prop} (r1 : Rd Try.prog 57 α1 mk1 ok1) {α2 : Type} {mk2 : α2 → AV} {ok2 : α2 → Prop} (r2 : Rd Try.prog 76 α2 mk2 ok2) (hk0 : ∀ x, ∃ l, mk0 x = .agg l) (hk1 : ∀ x, ∃ l, mk1 x = .agg l) (hk2 : ∀ x, (mk2 x).cells = [mk2 x])
    (hcall : ∀ (x0 : α0) (x1 : α1) (x2 : α2), ok0 x0 → ok1 x1 → ok2 x2 → CallA Try.prog 10 [mk0 x0, mk1 x1, mk2 x2] [] (fun r _ => r = .bool true) (fun _ _ => False)) (os : Os) (started : os.Started) (H : Type) (enc : TypeId × Value → H) :
    ReturnsInHanded {} Try.checked os 10 .any (Rows.graphBytesSpec.pre6 enc Try.prog Try.f10 Rows.graphBytesRow.domain false) (Rows.graphBytesSpec.post enc Try.prog Try.f10 false true false false) := by
  refine returnsInHanded_of_change_sized (C := Try.checked) own started (by kernel_rfl) Try.func10
    (ChangeSpec.witness6 (enc := enc) (C := Try.checked) false ⟨#[], #[.agg #[.int .i64 0, .slice none 0 0], .agg #[.int .i64 0, .slice none 0 0], .slice none 0 0], []⟩ 8 (by kernel_rfl) (by kernel_rfl) (by kernel_rfl) (by kernel_rfl)) ?_
  intro W base args ds gs before hval0 hW hcnd hsz0 _
  have hval : ∀ (j : Nat) t v, Try.f10.params[j]? = some t → args[j]? = some v → Value.okWide Try.prog W .any base t v := hval0
  have hW' := hW
  obtain ⟨p, q, hA0, hV, rfl, hfz, hnd⟩ := hW
  have hA : DataW.TrodAll enc Try.prog W 0 (fun _ => true) true Try.f10.params.toList args.toList ds p := hA0
  rw [Try.params10] at hA hval
  obtain ⟨v0, v1, v2, d0, d1, d2, p0, p1, p2, rfl, rfl, rfl, ⟨f0, h0⟩, ⟨f1, h1⟩, ⟨f2, h2⟩⟩ := trodAll_three hA
  obtain ⟨rfl, rfl⟩ := trodVars_none hV
  have hsz := List.all_eq_true.1 hsz0
  have hw0 : ∀ n ∈ d0.weights Try.prog 57, n ≤ reachBytes := fun n hn => by simpa using hsz n (DataW.weights_mem_each (j := 0) (t := 57) (d := d0) rfl rfl n hn)
  obtain ⟨c0, rfl, _⟩ := okWide_struct Try.underlying57 (hval 0 57 v0 rfl rfl)
  obtain ⟨x0, hx0, hg0, _⟩ := r0.rd h0 hw0
  obtain ⟨l0, hl0⟩ := hk0 x0
  rw [hl0] at hg0
  have hw1 : ∀ n ∈ d1.weights Try.prog 57, n ≤ reachBytes := fun n hn => by simpa using hsz n (DataW.weights_mem_each (j := 1) (t := 57) (d := d1) rfl rfl n hn)
  obtain ⟨c1, rfl, _⟩ := okWide_struct Try.underlying57 (hval 1 57 v1 rfl rfl)
  obtain ⟨x1, hx1, hg1, _⟩ := r1.rd h1 hw1
  obtain ⟨l1, hl1⟩ := hk1 x1
  rw [hl1] at hg1
  have hw2 : ∀ n ∈ d2.weights Try.prog 76, n ≤ reachBytes := fun n hn => by simpa using hsz n (DataW.weights_mem_each (j := 2) (t := 76) (d := d2) rfl rfl n hn)
  obtain ⟨a2, n2, m2, rfl⟩ := okWide_slice Try.underlying76 (hval 2 76 v2 rfl rfl)
  obtain ⟨x2, hx2, hg2, _⟩ := r2.rd h2 hw2
  have hv : All2 (V0 W) [mk0 x0, mk1 x1, mk2 x2] #[Value.agg c0, Value.agg c1, Value.slice a2 n2 m2].toList := ⟨(hl0 ▸ arg_agg hg0), (hl1 ▸ arg_agg hg1), (arg_one hg2 (hk2 x2) rfl), trivial⟩
  refine post_true (P := Try.prog) (f := 10) (tb := 4) laidOut ?_ rfl rfl Try.underlying4 rfl rfl rfl hW' hv (hcall x0 x1 x2 hx0 hx1 hx2)
  rw [Try.params10]
  intro t ht
  simp only [List.mem_cons, List.not_mem_nil, or_false] at ht
  rcases ht with rfl | rfl | rfl
  · exact ⟨by kernel_rfl, of_decide_eq_true (by kernel_rfl)⟩
  · exact ⟨by kernel_rfl, of_decide_eq_true (by kernel_rfl)⟩
  · exact ⟨by kernel_rfl, of_decide_eq_true (by kernel_rfl)⟩

theorem graphBytes_of {α0 : Type} {mk0 : α0 → AV} {ok0 : α0 → Prop} (r0 : Rd Try.prog 57 α0 mk0 ok0) {α1 : Type} {mk1 : α1 → AV} {ok1 : α1 → Prop} (r1 : Rd Try.prog 57 α1 mk1 ok1) {α2 : Type} {mk2 : α2 → AV} {ok2 : α2 → Prop} (r2 : Rd Try.prog 76 α2 mk2 ok2) (hk0 : ∀ x, ∃ l, mk0 x = .agg l) (hk1 : ∀ x, ∃ l, mk1 x = .agg l) (hk2 : ∀ x, (mk2 x).cells = [mk2 x])
    (hcall : ∀ (x0 : α0) (x1 : α1) (x2 : α2), ok0 x0 → ok1 x1 → ok2 x2 → CallA Try.prog 10 [mk0 x0, mk1 x1, mk2 x2] [] (fun r _ => r = .bool true) (fun _ _ => False)) : Rows.GraphBytesSaid :=
  OpenClaim.holds_of_wide 10 Try.f10 rfl rfl rfl rfl rfl rfl rfl ⟨rfl, rfl, rfl, rfl, rfl⟩ rfl rfl rfl rfl rfl (by kernel_rfl) Try.func10 (by kernel_rfl)
    (of_decide_eq_true (by kernel_rfl)) (by unfold Func.isWrapper; first | (rw [if_pos (by decide +kernel)]; kernel_rfl) | (rw [if_neg (by decide +kernel)]; exact ⟨rfl, rfl⟩))
    (fun os started H enc _ => graphBytes_lifted r0 r1 r2 hk0 hk1 hk2 hcall os started H enc)

theorem graphBytes_holds : Rows.GraphBytesSaid := by
  refine graphBytes_of rdG rdG rdB (fun g => ⟨_, rfl⟩) (fun g => ⟨_, rfl⟩) (fun b => rfl) fun g g' b ⟨hn, hin, hl⟩ ⟨_, _, hl'⟩ ⟨hb, hbl⟩ => ?_
  rw [show Try.prog.bytesOf 62 = 56 by kernel_rfl] at hl hl'
  rw [show Try.prog.bytesOf 74 = 16 by kernel_rfl] at hin
  rw [show Try.prog.bytesOf 5 = 1 by kernel_rfl] at hbl
  unfold reachBytes at hl hl' hin hbl
  have hmb : b.map (AV.int .u8) = (b.map Int.toNat).map byt := by
    rw [List.map_map]
    refine List.map_congr_left fun x hx => ?_
    have := wf8 (hb x hx)
    show AV.int .u8 x = AV.int .u8 ((x.toNat : Nat) : Int)
    rw [Int.toNat_of_nonneg this.1]
  obtain ⟨fuel, h⟩ := law_true (n := g.n) (n' := g'.n) (l := g.o) (l' := g'.o) (bs := b.map Int.toNat) (by omega) (by omega) hn (fun o ho => ⟨(hin o ho).1, by have := (hin o ho).2; omega⟩)
    (fun x hx => by
      obtain ⟨y, hy, rfl⟩ := List.mem_map.1 hx
      have := wf8 (hb y hy)
      omega) (by simp only [List.length_map]; omega)
  show CallA Try.prog 10 [.agg [.int .i64 g.n, .sl 5 (g.o.map Gr.Op.av) .no], .agg [.int .i64 g'.n, .sl 5 (g'.o.map Gr.Op.av) .no], .sl 1 (b.map (AV.int .u8)) .no] [] _ _
  rw [hmb]
  exact f10_call stdOps rfl fuel _ _ _ _ _ h (fun r _ => r = .bool true) (fun _ _ => False) rfl
end Go.Proofs.Ytilffanmaicakaa.A
