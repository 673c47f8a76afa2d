/- The row of the law GraphFinds: where any port leads, sources and sink, and all inputs, of any graph of bounded bulk, are the document's. -/
import Derived.Test.YtilffanmaicakaaRows
import Derived.ProofKit
import Derived.JoinedCond
import Derived.Test.YtilffanmaicakaaGrSpecP
import Derived.Test.YtilffanmaicakaaAmReadB
namespace Go.Proofs.Ytilffanmaicakaa.A
open Go Go.Pt Go.Gr Go.ChangeShapes Go.WideShapes Go.ChangeAt Go.RowKit

theorem own : ownKnob Try.prog.godebug = none := by kernel_rfl
theorem laidOut : laidOutB Try.prog = true := by kernel_rfl
theorem bulk_one {H : Type} (d : DataW H) : 1 ≤ Rows.uptoBulk d := by
  cases d with
  | lit l => cases l <;> simp [Rows.uptoBulk]
  | nil => simp [Rows.uptoBulk]
  | ptr d => simp [Rows.uptoBulk]
  | slice elems spare => simp [Rows.uptoBulk]
  | agg parts => simp [Rows.uptoBulk]
  | iface t d => simp [Rows.uptoBulk]
  | map entries => simp [Rows.uptoBulk]
  | held h => simp [Rows.uptoBulk]
def rowsBulk : Bulk := { b := Rows.uptoBulk, all := Rows.uptoBulkAll, nil := rfl, cons := fun _ _ => rfl, agg := fun _ => rfl, slice := fun _ _ => rfl, one := bulk_one, str := fun _ => rfl }
set_option maxRecDepth 100000 in
theorem graphFinds_up_lifted {α0 : Type} {mk0 : α0 → AV} {ok0 : α0 → Prop} {sz0 : α0 → Nat} (r0 : RdB Try.prog rowsBulk 57 α0 mk0 ok0 sz0) {α1 : Type} {mk1 : α1 → AV} {ok1 : α1 → Prop} {sz1 : α1 → Nat} (r1 : RdB Try.prog rowsBulk 3 α1 mk1 ok1 sz1) {α2 : Type} {mk2 : α2 → AV} {ok2 : α2 → Prop} {sz2 : α2 → Nat} (r2 : RdB Try.prog rowsBulk 3 α2 mk2 ok2 sz2) (hk0 : ∀ x, ∃ l, mk0 x = .agg l) (hk1 : ∀ x, (mk1 x).cells = [mk1 x]) (hk2 : ∀ x, (mk2 x).cells = [mk2 x])
    (hcall : ∀ (x0 : α0) (x1 : α1) (x2 : α2), ok0 x0 → ok1 x1 → ok2 x2 → sz0 x0 + sz1 x1 + sz2 x2 ≤ 1048576 → CallA Try.prog 8 [mk0 x0, mk1 x1, mk2 x2] [] (fun r _ => r = .bool true) (fun _ _ => False)) (os : Os) (started : os.Started) (H : Type) (enc : TypeId × Value → H) (F : Stop.Interp) :
    ReturnsInHanded {} Try.checked os 8 .any ((Rows.OpenSpec.upto Rows.graphFindsSpec).pre6 enc Try.prog Try.f8 Rows.graphFindsUptoRow.domain false) (((Rows.OpenSpec.upto Rows.graphFindsSpec).at F).post enc Try.prog Try.f8 false true false false) := by
  refine returnsInHanded_of_cond (C := Try.checked) (s := Rows.OpenSpec.upto Rows.graphFindsSpec) (k := Rows.uptoSmall) rfl own started (by kernel_rfl) Try.func8
    (OpenSpec.witness (enc := enc) (C := Try.checked) (s := Rows.OpenSpec.upto Rows.graphFindsSpec) (k := Rows.uptoSmall) rfl false ⟨#[], #[.agg #[.int .i64 0, .slice none 0 0], .int .i64 0, .int .i64 0], []⟩ 8 (by kernel_rfl) (by kernel_rfl) (by kernel_rfl) (x := ([.agg [.lit (.int .i64 0), .nil], .lit (.int .i64 0), .lit (.int .i64 0)], [], [])) (by kernel_rfl) rfl (by kernel_rfl)) ?_
  intro W base args ds gs before hval0 hW hcnd hk _
  have hval : ∀ (j : Nat) t v, Try.f8.params[j]? = some t → args[j]? = some v → Value.okWide Try.prog W .any base t v := hval0
  have hW' : DataW.Whole enc Try.prog Try.f8.params.toList Rows.graphFindsSpec.vars false W args.toList ds gs before := hW
  show Calls Try.prog 8 args W fun e W' => ∃ v, e = .returned v ∧ Rows.graphFindsSpec.post enc Try.prog Try.f8 false true false false W args v W'
  obtain ⟨p, q, hA0, hV, rfl, hfz, hnd⟩ := hW
  have hA : DataW.TrodAll enc Try.prog W 0 (fun _ => true) true Try.f8.params.toList args.toList ds p := hA0
  rw [Try.params8] at hA hval
  obtain ⟨v0, v1, v2, d0, d1, d2, p0, p1, p2, rfl, rfl, rfl, ⟨f0, h0⟩, ⟨f1, h1⟩, ⟨f2, h2⟩⟩ := trodAll_three hA
  obtain ⟨rfl, rfl⟩ := trodVars_none hV
  have hb : Rows.uptoBulkAll [d0, d1, d2] ≤ 1048576 := by have h := of_decide_eq_true hk; simpa using h
  simp only [Rows.uptoBulkAll] at hb
  obtain ⟨c0, rfl, _⟩ := okWide_struct Try.underlying57 (hval 0 57 v0 rfl rfl)
  obtain ⟨x0, ⟨hx0, hz0⟩, hg0, _⟩ := r0.rd h0
  replace hz0 : sz0 x0 ≤ Rows.uptoBulk d0 := hz0
  obtain ⟨l0, hl0⟩ := hk0 x0
  rw [hl0] at hg0
  obtain ⟨n1, rfl⟩ := okWide_int Try.underlying3 (hval 1 3 v1 rfl rfl)
  obtain ⟨x1, ⟨hx1, hz1⟩, hg1, _⟩ := r1.rd h1
  replace hz1 : sz1 x1 ≤ Rows.uptoBulk d1 := hz1
  obtain ⟨n2, rfl⟩ := okWide_int Try.underlying3 (hval 2 3 v2 rfl rfl)
  obtain ⟨x2, ⟨hx2, hz2⟩, hg2, _⟩ := r2.rd h2
  replace hz2 : sz2 x2 ≤ Rows.uptoBulk d2 := hz2
  have hv : All2 (V0 W) [mk0 x0, mk1 x1, mk2 x2] #[Value.agg c0, Value.int _ n1, Value.int _ n2].toList := ⟨(hl0 ▸ arg_agg hg0), (arg_one hg1 (hk1 x1) rfl), (arg_one hg2 (hk2 x2) rfl), trivial⟩
  refine post_true (P := Try.prog) (f := 8) (tb := 4) laidOut ?_ rfl rfl Try.underlying4 rfl rfl rfl hW' hv (hcall x0 x1 x2 hx0 hx1 hx2 (by omega))
  rw [Try.params8]
  intro t ht
  simp only [List.mem_cons, List.not_mem_nil, or_false] at ht
  rcases ht with rfl | rfl | rfl
  · exact ⟨by kernel_rfl, of_decide_eq_true (by kernel_rfl)⟩
  · exact ⟨by kernel_rfl, of_decide_eq_true (by kernel_rfl)⟩
  · exact ⟨by kernel_rfl, of_decide_eq_true (by kernel_rfl)⟩

theorem graphFindsUpto_of {α0 : Type} {mk0 : α0 → AV} {ok0 : α0 → Prop} {sz0 : α0 → Nat} (r0 : RdB Try.prog rowsBulk 57 α0 mk0 ok0 sz0) {α1 : Type} {mk1 : α1 → AV} {ok1 : α1 → Prop} {sz1 : α1 → Nat} (r1 : RdB Try.prog rowsBulk 3 α1 mk1 ok1 sz1) {α2 : Type} {mk2 : α2 → AV} {ok2 : α2 → Prop} {sz2 : α2 → Nat} (r2 : RdB Try.prog rowsBulk 3 α2 mk2 ok2 sz2) (hk0 : ∀ x, ∃ l, mk0 x = .agg l) (hk1 : ∀ x, (mk1 x).cells = [mk1 x]) (hk2 : ∀ x, (mk2 x).cells = [mk2 x])
    (hcall : ∀ (x0 : α0) (x1 : α1) (x2 : α2), ok0 x0 → ok1 x1 → ok2 x2 → sz0 x0 + sz1 x1 + sz2 x2 ≤ 1048576 → CallA Try.prog 8 [mk0 x0, mk1 x1, mk2 x2] [] (fun r _ => r = .bool true) (fun _ _ => False)) : Rows.GraphFindsUptoSaid :=
  OpenClaim.holds_of_cond 8 Try.f8 rfl rfl rfl rfl rfl rfl rfl ⟨rfl, rfl, rfl, rfl, rfl⟩ rfl rfl rfl rfl rfl (by kernel_rfl) Try.func8 (by kernel_rfl)
    (of_decide_eq_true (by kernel_rfl)) (by unfold Func.isWrapper; first | (rw [if_pos (by decide +kernel)]; kernel_rfl) | (rw [if_neg (by decide +kernel)]; exact ⟨rfl, rfl⟩))
    (fun os started H enc _ F => graphFinds_up_lifted r0 r1 r2 hk0 hk1 hk2 hcall os started H enc F)

theorem rdEdB : RdB Try.prog rowsBulk 74 Ed Ed.av (fun _ => True) (fun _ => 1) :=
  rdB_conv (rdB_struct Try.underlying74 (rdBf_cons rfl (rdB_int Try.underlying3) (rdBf_cons (by kernel_rfl) (rdB_int Try.underlying3) (rdBf_end (by kernel_rfl)))))
    (fun x => ⟨x.1, x.2.1⟩) (fun _ => rfl) (fun _ _ => trivial) (fun _ => by simp)
theorem rdEdsB : RdB Try.prog rowsBulk 60 (List Ed) (fun l => .sl 2 (l.map Ed.av) .no) (fun l => ∀ x ∈ l, True) (fun l => (l.map fun _ => 1).sum + 1) := rdB_slice Try.underlying60 (by kernel_rfl) (by decide) rdEdB
theorem sum_ones : ∀ l : List Ed, (l.map fun _ => 1).sum = l.length
  | [] => rfl
  | _ :: l => by rw [List.map_cons, List.sum_cons, sum_ones l, List.length_cons]; omega
theorem rdOpB : RdB Try.prog rowsBulk 62 Gr.Op Gr.Op.av (fun _ => True) (fun o => o.i.length + 1) :=
  rdB_conv (rdB_struct Try.underlying62 (rdBf_cons rfl (rdB_int Try.underlying3) (rdBf_cons (by kernel_rfl) (rdB_int Try.underlying3) (rdBf_cons (by kernel_rfl) (rdB_int Try.underlying3) (rdBf_cons (by kernel_rfl) (rdB_int Try.underlying2) (rdBf_cons (by kernel_rfl) rdEdsB (rdBf_end (by kernel_rfl))))))))
    (fun x => ⟨x.1, x.2.1, x.2.2.1, x.2.2.2.1, x.2.2.2.2.1⟩) (fun _ => rfl) (fun _ _ => trivial) (fun x => by show x.2.2.2.2.1.length + 1 ≤ _; rw [sum_ones]; omega)
theorem rdOpsB : RdB Try.prog rowsBulk 55 (List Gr.Op) (fun l => .sl 5 (l.map Gr.Op.av) .no) (fun l => ∀ x ∈ l, True) (fun l => (l.map fun o => o.i.length + 1).sum + 1) := rdB_slice Try.underlying55 (by kernel_rfl) (by decide) rdOpB
def gav (g : G) : AV := .agg [.int .i64 g.n, .sl 5 (g.o.map Gr.Op.av) .no]
theorem rdGB : RdB Try.prog rowsBulk 57 G gav (fun _ => True) (fun g => (g.o.map fun o => o.i.length + 1).sum) :=
  rdB_conv (rdB_struct Try.underlying57 (rdBf_cons rfl (rdB_int Try.underlying3) (rdBf_cons (by kernel_rfl) rdOpsB (rdBf_end (by kernel_rfl)))))
    (fun x => ⟨x.1, x.2.1⟩) (fun _ => rfl) (fun _ _ => trivial) (fun _ => by simp only; omega)
theorem sum_ge : ∀ (l : List Gr.Op), l.length ≤ (l.map fun o => o.i.length + 1).sum ∧ (l.flatMap (·.i)).length ≤ (l.map fun o => o.i.length + 1).sum ∧ ∀ o ∈ l, o.i.length ≤ (l.map fun o => o.i.length + 1).sum
  | [] => by simp
  | x :: l => by
    obtain ⟨h1, h2, h3⟩ := sum_ge l
    refine ⟨?_, ?_, fun o ho => ?_⟩
    · simp only [List.length_cons, List.map_cons, List.sum_cons]; omega
    · simp only [List.flatMap_cons, List.length_append, List.map_cons, List.sum_cons]; omega
    · simp only [List.map_cons, List.sum_cons]
      rcases List.mem_cons.1 ho with rfl | ho
      · omega
      · have := h3 o ho; omega

theorem graphFindsUpto_holds : Rows.GraphFindsUptoSaid := by
  refine graphFindsUpto_of rdGB (rdB_int Try.underlying3) (rdB_int Try.underlying3) (fun g => ⟨_, rfl⟩) (fun _ => rfl) (fun _ => rfl) fun g ef ep _ _ _ hs => ?_
  obtain ⟨h1, h2, h3⟩ := sum_ge g.o
  have hf : (flat g.o g.o.length).length ≤ (g.o.map fun o => o.i.length + 1).sum := by unfold flat; rw [List.take_length]; exact h2
  refine graphFinds_call g.n ef ep g.o _ rfl (g.o.length : Int) rfl (by omega) (fun o ho => ?_) ?_ _ _ rfl
  · have := h3 o ho; omega
  · unfold Tot; simp only [Int.toNat_natCast]; omega
end Go.Proofs.Ytilffanmaicakaa.A
