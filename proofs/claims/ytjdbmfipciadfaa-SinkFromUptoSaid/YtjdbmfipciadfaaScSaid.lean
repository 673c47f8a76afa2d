/- The row of the law SinkFrom, for inputs of bounded bulk: which things that were kept are a sink's, and that it goes on so; vectors that are above each other. No other condition. -/
import Derived.Test.YtjdbmfipciadfaaRows
import Derived.ProofKit
import Derived.Test.YtjdbmfipciadfaaTpI
import Derived.Test.YtjdbmfipciadfaaMa2
import Derived.Test.YtjdbmfipciadfaaMa3
import Derived.Test.YtjdbmfipciadfaaProg

namespace Go.Proofs.Ytjdbmfipciadfaa.A
open Go Go.Pt Go.ChangeShapes Go.WideShapes Go.ChangeAt Go.RowKit

theorem own : ownKnob Try.prog.godebug = none := by kernel_rfl
theorem laidOut : laidOutB Try.prog = true := by kernel_rfl
theorem bulk_one {H : Type} (d : DataW H) : 1 ≤ Rows.uptoBulk d := by
  cases d with
  | lit l => cases l <;> simp [Rows.uptoBulk]
  | nil => simp [Rows.uptoBulk]
  | ptr d => simp [Rows.uptoBulk]
  | slice elems spare => simp [Rows.uptoBulk]
  | agg parts => simp [Rows.uptoBulk]
  | iface t d => simp [Rows.uptoBulk]
  | map entries => simp [Rows.uptoBulk]
  | held h => simp [Rows.uptoBulk]
def rowsBulk : Bulk := { b := Rows.uptoBulk, all := Rows.uptoBulkAll, nil := rfl, cons := fun _ _ => rfl, agg := fun _ => rfl, slice := fun _ _ => rfl, one := bulk_one, str := fun _ => rfl }
set_option maxRecDepth 100000 in
theorem sinkFrom_up_lifted {α0 : Type} {mk0 : α0 → AV} {ok0 : α0 → Prop} {sz0 : α0 → Nat} (r0 : RdB Try.prog rowsBulk 88 α0 mk0 ok0 sz0) (hk0 : ∀ x, ∃ l, mk0 x = .agg l)
    (hcall : ∀ (x0 : α0), ok0 x0 → sz0 x0 ≤ 1048576 → CallA Try.prog 8 [mk0 x0] [] (fun r _ => r = .bool true) (fun _ _ => False)) (os : Os) (started : os.Started) (H : Type) (enc : TypeId × Value → H) (F : Stop.Interp) :
    ReturnsInHanded {} Try.checked os 8 .any ((Rows.OpenSpec.upto Rows.sinkFromSpec).pre6 enc Try.prog Try.f8 Rows.sinkFromUptoRow.domain false) (((Rows.OpenSpec.upto Rows.sinkFromSpec).at F).post enc Try.prog Try.f8 false true false false) := by
  refine returnsInHanded_of_cond (C := Try.checked) (s := Rows.OpenSpec.upto Rows.sinkFromSpec) (k := Rows.uptoSmall) rfl own started (by kernel_rfl) Try.func8
    (OpenSpec.witness (enc := enc) (C := Try.checked) (s := Rows.OpenSpec.upto Rows.sinkFromSpec) (k := Rows.uptoSmall) rfl false ⟨#[], #[.agg #[.int .i64 0, .int .i64 0, .slice none 0 0, .slice none 0 0, .slice none 0 0, .slice none 0 0, .int .i64 0, .int .i64 0, .int .i64 0, .int .i64 0, .slice none 0 0, .slice none 0 0, .slice none 0 0]], []⟩ 8 (by kernel_rfl) (by kernel_rfl) (by kernel_rfl) (x := ([.agg [.lit (.int .i64 0), .agg [.lit (.int .i64 0), .nil, .nil, .nil, .nil], .agg [.lit (.int .i64 0), .agg [.lit (.int .i64 0), .lit (.int .i64 0), .lit (.int .i64 0), .nil, .nil]], .nil]], [], [])) (by kernel_rfl) rfl (by kernel_rfl)) ?_
  intro W base args ds gs before hval0 hW hcnd hk _
  have hval : ∀ (j : Nat) t v, Try.f8.params[j]? = some t → args[j]? = some v → Value.okWide Try.prog W .any base t v := hval0
  have hW' : DataW.Whole enc Try.prog Try.f8.params.toList Rows.sinkFromSpec.vars false W args.toList ds gs before := hW
  show Calls Try.prog 8 args W fun e W' => ∃ v, e = .returned v ∧ Rows.sinkFromSpec.post enc Try.prog Try.f8 false true false false W args v W'
  obtain ⟨p, q, hA0, hV, rfl, hfz, hnd⟩ := hW
  have hA : DataW.TrodAll enc Try.prog W 0 (fun _ => true) true Try.f8.params.toList args.toList ds p := hA0
  rw [Try.params8] at hA hval
  obtain ⟨v0, d0, rfl, rfl, ⟨f0, h0⟩⟩ := trodAll_one hA
  obtain ⟨rfl, rfl⟩ := trodVars_none hV
  have hb : Rows.uptoBulkAll [d0] ≤ 1048576 := by have h := of_decide_eq_true hk; simpa using h
  simp only [Rows.uptoBulkAll] at hb
  obtain ⟨c0, rfl, _⟩ := okWide_struct Try.underlying88 (hval 0 88 v0 rfl rfl)
  obtain ⟨x0, ⟨hx0, hz0⟩, hg0, _⟩ := r0.rd h0
  replace hz0 : sz0 x0 ≤ Rows.uptoBulk d0 := hz0
  obtain ⟨l0, hl0⟩ := hk0 x0
  rw [hl0] at hg0
  have hv : All2 (V0 W) [mk0 x0] #[Value.agg c0].toList := ⟨(hl0 ▸ arg_agg hg0), trivial⟩
  refine post_true (P := Try.prog) (f := 8) (tb := 4) laidOut ?_ rfl rfl Try.underlying4 rfl rfl rfl hW' hv (hcall x0 hx0 (by omega))
  rw [Try.params8]
  intro t ht
  simp only [List.mem_cons, List.not_mem_nil, or_false] at ht
  subst ht
  exact ⟨by kernel_rfl, of_decide_eq_true (by kernel_rfl)⟩

theorem sinkFromUpto_of {α0 : Type} {mk0 : α0 → AV} {ok0 : α0 → Prop} {sz0 : α0 → Nat} (r0 : RdB Try.prog rowsBulk 88 α0 mk0 ok0 sz0) (hk0 : ∀ x, ∃ l, mk0 x = .agg l)
    (hcall : ∀ (x0 : α0), ok0 x0 → sz0 x0 ≤ 1048576 → CallA Try.prog 8 [mk0 x0] [] (fun r _ => r = .bool true) (fun _ _ => False)) : Rows.SinkFromUptoSaid :=
  OpenClaim.holds_of_cond 8 Try.f8 rfl rfl rfl rfl rfl rfl rfl ⟨rfl, rfl, rfl, rfl, rfl⟩ rfl rfl rfl rfl rfl (by kernel_rfl) Try.func8 (by kernel_rfl)
    (of_decide_eq_true (by kernel_rfl)) (by unfold Func.isWrapper; first | (rw [if_pos (by decide +kernel)]; kernel_rfl) | (rw [if_neg (by decide +kernel)]; exact ⟨rfl, rfl⟩))
    (fun os started H enc _ F => sinkFrom_up_lifted r0 hk0 hcall os started H enc F)

theorem sum_ones {α : Type} : ∀ l : List α, (l.map fun _ => 1).sum = l.length
  | [] => rfl
  | _ :: l => by rw [List.map_cons, List.sum_cons, sum_ones l, List.length_cons]; omega
theorem rdRecB : RdB Try.prog rowsBulk 57 Rec Rec.av (fun _ => True) (fun _ => 1) :=
  rdB_conv (rdB_struct Try.underlying57 (rdBf_cons rfl (rdB_int Try.underlying2) (rdBf_cons (by kernel_rfl) (rdB_int Try.underlying2) (rdBf_end (by kernel_rfl)))))
    (fun x => ⟨x.1, x.2.1⟩) (fun _ => rfl) (fun _ _ => trivial) (fun _ => by simp)
theorem rdRecsB : RdB Try.prog rowsBulk 28 (List Rec) (fun l => .sl 2 (l.map Rec.av) .no) (fun l => ∀ x ∈ l, True) (fun l => (l.map fun _ => 1).sum + 1) := rdB_slice Try.underlying28 (by kernel_rfl) (by decide) rdRecB
theorem rdVecB : RdB Try.prog rowsBulk 29 (List Int) (fun l => .sl 1 (l.map iav) .no) (fun l => ∀ x ∈ l, (Lit.int .i64 x).wf = true) (fun l => (l.map fun _ => 1).sum + 1) := rdB_slice Try.underlying29 (by kernel_rfl) (by decide) (rdB_int Try.underlying2)
theorem rdTxnB : RdB Try.prog rowsBulk 31 Txn Txn.av (fun _ => True) (fun t => t.v.length + 1) :=
  rdB_conv (rdB_struct Try.underlying31 (rdBf_cons rfl (rdB_int Try.underlying2) (rdBf_cons (by kernel_rfl) (rdB_int Try.underlying2) (rdBf_cons (by kernel_rfl) (rdB_int Try.underlying2) (rdBf_cons (by kernel_rfl) rdRecsB (rdBf_cons (by kernel_rfl) rdVecB (rdBf_end (by kernel_rfl))))))))
    (fun x => ⟨x.1, x.2.1, x.2.2.1, x.2.2.2.1, x.2.2.2.2.1⟩) (fun _ => rfl) (fun _ _ => trivial) (fun x => by
      have := sum_ones x.2.2.2.2.1
      show x.2.2.2.2.1.length + 1 ≤ _
      omega)
theorem rdTxnsB : RdB Try.prog rowsBulk 39 (List Txn) (fun l => .sl 5 (l.map Txn.av) .no) (fun l => ∀ x ∈ l, True) (fun l => (l.map fun t => t.v.length + 1).sum + 1) := rdB_slice Try.underlying39 (by kernel_rfl) (by decide) rdTxnB
theorem rdKpB : RdB Try.prog rowsBulk 41 Kp (fun x => .agg [.int .i64 x.fence, .sl 2 (x.out.map Rec.av) .no, .sl 1 (x.vec.map iav) .no, .sl 1 (x.done.map iav) .no, .sl 5 (x.pre.map Txn.av) .no]) (fun _ => True)
    (fun x => x.out.length + x.vec.length + x.done.length + (x.pre.map fun t => t.v.length + 1).sum) :=
  rdB_conv (rdB_struct Try.underlying41 (rdBf_cons rfl (rdB_int Try.underlying2) (rdBf_cons (by kernel_rfl) rdRecsB (rdBf_cons (by kernel_rfl) rdVecB (rdBf_cons (by kernel_rfl) rdVecB (rdBf_cons (by kernel_rfl) rdTxnsB (rdBf_end (by kernel_rfl))))))))
    (fun x => ⟨x.1, x.2.1, x.2.2.1, x.2.2.2.1, x.2.2.2.2.1⟩) (fun _ => rfl) (fun _ _ => trivial) (fun x => by
      have h1 := sum_ones x.2.1
      have h2 := sum_ones x.2.2.1
      have h3 := sum_ones x.2.2.2.1
      show x.2.1.length + x.2.2.1.length + x.2.2.2.1.length + (x.2.2.2.2.1.map fun t => t.v.length + 1).sum ≤ _
      omega)
theorem rdSOpB : RdB Try.prog rowsBulk 33 SOp SOp.av (fun _ => True) (fun o => o.t.v.length + 1) :=
  rdB_conv (rdB_struct Try.underlying33 (rdBf_cons rfl (rdB_int Try.underlying3) (rdBf_cons (by kernel_rfl) rdTxnB (rdBf_end (by kernel_rfl)))))
    (fun x => ⟨x.1, x.2.1⟩) (fun _ => rfl) (fun _ _ => trivial) (fun x => by show x.2.1.v.length + 1 ≤ _; omega)
/-- What the law From is given. -/
structure Kept where
  n : Int
  x : Kp
  o : SOp
  v : List Int
def Kept.av (k : Kept) : AV := .agg [.int .i64 k.n, .int .i64 k.x.fence, .sl 2 (k.x.out.map Rec.av) .no, .sl 1 (k.x.vec.map iav) .no, .sl 1 (k.x.done.map iav) .no, .sl 5 (k.x.pre.map Txn.av) .no,
  .int .i64 k.o.d, .int .i64 k.o.t.e, .int .i64 k.o.t.i, .int .i64 k.o.t.b, .sl 2 (k.o.t.r.map Rec.av) .no, .sl 1 (k.o.t.v.map iav) .no, .sl 1 (k.v.map iav) .no]
theorem rdKeptB : RdB Try.prog rowsBulk 88 Kept Kept.av (fun _ => True) (fun k => k.x.out.length + k.x.vec.length + k.x.done.length + (k.x.pre.map fun t => t.v.length + 1).sum + k.o.t.v.length + k.v.length) :=
  rdB_conv (rdB_struct Try.underlying88 (rdBf_cons rfl (rdB_int Try.underlying3) (rdBf_cons (by kernel_rfl) rdKpB (rdBf_cons (by kernel_rfl) rdSOpB (rdBf_cons (by kernel_rfl) rdVecB (rdBf_end (by kernel_rfl)))))))
    (fun x => ⟨x.1, x.2.1, x.2.2.1, x.2.2.2.1⟩) (fun _ => rfl) (fun _ _ => trivial) (fun x => by
      have h3 := sum_ones x.2.2.2.1
      show x.2.1.out.length + x.2.1.vec.length + x.2.1.done.length + (x.2.1.pre.map fun t => t.v.length + 1).sum + x.2.2.1.t.v.length + x.2.2.2.1.length ≤ _
      omega)
theorem txn_sum : ∀ (l : List Txn), l.length ≤ (l.map fun t => t.v.length + 1).sum ∧ ∀ t ∈ l, t.v.length ≤ (l.map fun t => t.v.length + 1).sum
  | [] => by simp
  | x :: l => by
    obtain ⟨h1, h2⟩ := txn_sum l
    refine ⟨?_, fun t ht => ?_⟩
    · simp only [List.length_cons, List.map_cons, List.sum_cons]; omega
    · simp only [List.map_cons, List.sum_cons]
      rcases List.mem_cons.1 ht with rfl | ht
      · omega
      · have := h2 t ht; omega

theorem sinkFromUpto_holds : Rows.SinkFromUptoSaid := by
  refine sinkFromUpto_of rdKeptB (fun k => ⟨_, rfl⟩) fun k _ hs => ?_
  obtain ⟨h1, h2⟩ := txn_sum k.x.pre
  have h := f8_is (fuel := 2000000) (n := k.n) (x := k.x) (o := k.o) (v := k.v)
    ⟨by omega, by omega, by omega, by omega, fun t ht => by have := h2 t ht; omega⟩
    ⟨by omega, by omega, by omega, by omega, fun t ht => by have := h2 t ht; omega⟩ ⟨by omega, by omega⟩ ⟨by omega, by omega⟩ (by omega)
  exact f8_call stdOps rfl _ _ _ _ _ _ _ _ _ _ _ _ _ _ h (fun r _ => r = .bool true) (fun _ _ => False) rfl
end Go.Proofs.Ytjdbmfipciadfaa.A
