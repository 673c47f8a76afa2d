/- Functions of the program and of the document's answer, as plain ones. Written by lift.py. -/
import Derived.Test.YtjdbmfipciadfaaSx0

namespace Go.Proofs.Ytjdbmfipciadfaa.A
open Go Go.Pt

/-! (*pontoon/sink.Sink).All -/
inductive F124R where
  | v0 
def F124R.av : F124R → AV
  | .v0  => .func 148 [.ptr 4 0]
def F124R.hp (a0 : Nat) (a1 : Int) (a2 : Int) (a3 : List AV) (a4 : List AV) (a5 : List (AV × AV)) (a6 : List (AV × AV)) : F124R → List Ent
  | .v0  => [.var [.int .i64 a1, .int .i64 a2, .sl 2 a3 (.tip 1 a0), .sl 1 a4 .no, .mp 2, .mp 3], .tip a0, .mp a5, .mp a6, .var [.ptr 0 0]]
noncomputable def f124 (_o : Ops) (_fuel : Nat) (_a0 : Nat) (_a1 : Int) (_a2 : Int) (_a3 : List AV) (_a4 : List AV) (_a5 : List (AV × AV)) (_a6 : List (AV × AV)) : Option F124R :=
  some (.v0 )
set_option maxHeartbeats 4000000 in
set_option maxRecDepth 100000 in
theorem f124_call (o : Ops) (ho : o = stdOps) (fuel : Nat) (a0 : Nat) (a1 : Int) (a2 : Int) (a3 : List AV) (a4 : List AV) (a5 : List (AV × AV)) (a6 : List (AV × AV)) {R : F124R} (H : f124 o fuel a0 a1 a2 a3 a4 a5 a6 = some R) (K : AV → List Ent → Prop) (E : AV → List Ent → Prop) (h : K R.av (F124R.hp a0 a1 a2 a3 a4 a5 a6 R)) : CallA Try.prog 124 [.ptr 0 0] [.var [.int .i64 a1, .int .i64 a2, .sl 2 a3 (.tip 1 a0), .sl 1 a4 .no, .mp 2, .mp 3], .tip a0, .mp a5, .mp a6] K E := by
  refine call_wk fun K' hK => ?_
  refine call_keep (n₀ := 4) tab_ok Try.func124 rfl rfl rfl rfl ?_
  intro J hJ
  obtain rfl : o = J.o := by rw [ho, hJ]; rfl
  unfold f124 at H
  cbv
  repeat' (first
    | ((with_reducible first | refine awp_go2 ?_ | refine aops_go2 ?_ | refine strip_go2 ?_ | refine draw_go2 ?_ | refine frames_go2 ?_); cbv)
    | (with_reducible refine hold_go hJ ?_; cbv)
    | with_reducible exact id
    | exact trivial
    | with_reducible exact rfl
    | with_reducible exact ⟨_, rfl⟩
    | exact none_go H
    | (refine KeepQ.mk [4] (by decide) ?_; cbv; cases H; refine hK _ _ _ _ ?_ ?_ rfl h <;> cbv)
    | (refine ifB_go H ?_ ?_ <;> clear H <;> intro hh H)
    | (refine ifB_og H ?_ ?_ <;> clear H <;> intro hh H)
    | (refine req_go H ?_; clear H; intro hh H)
    | (refine gg_t ho H ?_ ?_ <;> clear H <;> intro hh H)
    | (refine gg_f ho H ?_ ?_ <;> clear H <;> intro hh H)
    | (refine bit_go ho H ?_ ?_ <;> clear H <;> intro hh H; (all_goals cbv))
    | (refine nil_go H ?_; clear H; intro b H; cbv)
    | (refine tok_go ?_; cbv)
    | (refine getA_go (β := UInt8) H ?_; clear H; intro e H; cbv)
    | (refine lit_t ?_; cbv)
    | (refine lit_f ?_; cbv)
    | (refine known_t (by assumption) ?_)
    | (refine known_f (by assumption) ?_)
    | (refine known_x (by assumption) ?_)
    | (refine known_y (by assumption) ?_)
    | (refine known_get (by assumption) ?_; cbv)
    | (refine known_and (by assumption) ?_)
    | with_reducible refine And.intro ?_ ?_
    | (intro hh; exact hh)
    | (intro _; assumption)
    | (intro hx; first | exact tf_absurd hx (by assumption) | exact tf_absurd (by assumption) hx)
    | (intro _; clear H h; simp only [ho, stdOps] at *; simp_all)
    | (cbv; with_reducible refine hold_go hJ ?_; cbv))

/-! slices.All[[]pontoon/api.Record,pontoon/api.Record] -/
inductive F149R where
  | v0 
def F149R.av : F149R → AV
  | .v0  => .func 160 [.ptr 0 0]
def F149R.hp (a0 : List AV) : F149R → List Ent
  | .v0  => [.var [.sl 2 a0 .no]]
noncomputable def f149 (_o : Ops) (_fuel : Nat) (_a0 : List AV) : Option F149R :=
  some (.v0 )
set_option maxHeartbeats 4000000 in
set_option maxRecDepth 100000 in
theorem f149_call (o : Ops) (ho : o = stdOps) (fuel : Nat) (a0 : List AV) {R : F149R} (H : f149 o fuel a0 = some R) (K : AV → List Ent → Prop) (E : AV → List Ent → Prop) (h : K R.av (F149R.hp a0 R)) : CallA Try.prog 149 [.sl 2 a0 .no] [] K E := by
  refine call_wk fun K' hK => ?_
  refine call_keep (n₀ := 0) tab_ok Try.func149 rfl rfl rfl rfl ?_
  intro J hJ
  obtain rfl : o = J.o := by rw [ho, hJ]; rfl
  unfold f149 at H
  cbv
  repeat' (first
    | ((with_reducible first | refine awp_go2 ?_ | refine aops_go2 ?_ | refine strip_go2 ?_ | refine draw_go2 ?_ | refine frames_go2 ?_); cbv)
    | (with_reducible refine hold_go hJ ?_; cbv)
    | with_reducible exact id
    | exact trivial
    | with_reducible exact rfl
    | with_reducible exact ⟨_, rfl⟩
    | exact none_go H
    | (refine KeepQ.mk [0] (by decide) ?_; cbv; cases H; refine hK _ _ _ _ ?_ ?_ rfl h <;> cbv)
    | (refine ifB_go H ?_ ?_ <;> clear H <;> intro hh H)
    | (refine ifB_og H ?_ ?_ <;> clear H <;> intro hh H)
    | (refine req_go H ?_; clear H; intro hh H)
    | (refine gg_t ho H ?_ ?_ <;> clear H <;> intro hh H)
    | (refine gg_f ho H ?_ ?_ <;> clear H <;> intro hh H)
    | (refine bit_go ho H ?_ ?_ <;> clear H <;> intro hh H; (all_goals cbv))
    | (refine nil_go H ?_; clear H; intro b H; cbv)
    | (refine tok_go ?_; cbv)
    | (refine getA_go (β := UInt8) H ?_; clear H; intro e H; cbv)
    | (refine lit_t ?_; cbv)
    | (refine lit_f ?_; cbv)
    | (refine known_t (by assumption) ?_)
    | (refine known_f (by assumption) ?_)
    | (refine known_x (by assumption) ?_)
    | (refine known_y (by assumption) ?_)
    | (refine known_get (by assumption) ?_; cbv)
    | (refine known_and (by assumption) ?_)
    | with_reducible refine And.intro ?_ ?_
    | (intro hh; exact hh)
    | (intro _; assumption)
    | (intro hx; first | exact tf_absurd hx (by assumption) | exact tf_absurd (by assumption) hx)
    | (intro _; clear H h; simp only [ho, stdOps] at *; simp_all)
    | (cbv; with_reducible refine hold_go hJ ?_; cbv))

end Go.Proofs.Ytjdbmfipciadfaa.A
