/- Functions of the program and of the document's answer, as plain ones. Written by lift.py. -/
import Derived.Test.YtjdbmfipciadfaaSx0

namespace Go.Proofs.Ytjdbmfipciadfaa.A
open Go Go.Pt

/-! pontoon/pontoonref15.New -/
inductive F19_1R where
  | v0 
  | v1 (y0 : List AV) (y1 : List AV) (y2 : List AV) (y3 : List AV)
def F19_1R.av : F19_1R → AV
  | .v0  => .tup [.nilp, .int .i64 1]
  | .v1 _ _ _ _ => .tup [.ptr 0 0, .int .i64 0]
def F19_1R.hp (a0 : Int) : F19_1R → List Ent
  | .v0  => []
  | .v1 y0 y1 y2 y3 => [.var [.int .i64 a0, .int .i64 0, .sl 2 y0 .no, .sl 1 y1 .no, .sl 1 y2 .no, .sl 5 y3 .no]]
noncomputable def f19_1 (o : Ops) (_fuel : Nat) (a0 : Int) : Option F19_1R :=
  ifB (o.pick (o.cmp .lss a0 1) true (o.cmp .gtr a0 4))
  (some (.v0 ))
  (req (o.mks a0 a0 8) <|
   some (.v1 [] (o.rep a0 (.int .i64 0)) [] []))
set_option maxHeartbeats 4000000 in
set_option maxRecDepth 100000 in
theorem f19_1_call (o : Ops) (ho : o = stdOps) (fuel : Nat) (a0 : Int) {R : F19_1R} (H : f19_1 o fuel a0 = some R) (K : AV → List Ent → Prop) (E : AV → List Ent → Prop) (h : K R.av (F19_1R.hp a0 R)) : CallA Try.prog 19 [.int .i64 a0] [] K E := by
  refine call_wk fun K' hK => ?_
  refine call_keep (n₀ := 0) tab_ok Try.func19 rfl rfl rfl rfl ?_
  intro J hJ
  obtain rfl : o = J.o := by rw [ho, hJ]; rfl
  unfold f19_1 at H
  cbv
  repeat' (first
    | ((with_reducible first | refine awp_go2 ?_ | refine aops_go2 ?_ | refine strip_go2 ?_ | refine draw_go2 ?_ | refine frames_go2 ?_); cbv)
    | (with_reducible refine hold_go hJ ?_; cbv)
    | with_reducible exact id
    | exact trivial
    | with_reducible exact rfl
    | with_reducible exact ⟨_, rfl⟩
    | exact none_go H
    | (refine KeepQ.mk [] (by decide) ?_; cbv; cases H; refine hK _ _ _ _ ?_ ?_ rfl h <;> cbv)
    | (refine KeepQ.mk [0] (by decide) ?_; cbv; cases H; refine hK _ _ _ _ ?_ ?_ rfl h <;> cbv)
    | (refine ifB_go H ?_ ?_ <;> clear H <;> intro hh H)
    | (refine ifB_og H ?_ ?_ <;> clear H <;> intro hh H)
    | (refine req_go H ?_; clear H; intro hh H)
    | (refine gg_t ho H ?_ ?_ <;> clear H <;> intro hh H)
    | (refine gg_f ho H ?_ ?_ <;> clear H <;> intro hh H)
    | (refine bit_go ho H ?_ ?_ <;> clear H <;> intro hh H; (all_goals cbv))
    | (refine nil_go H ?_; clear H; intro b H; cbv)
    | (refine tok_go ?_; cbv)
    | (refine getA_go (β := UInt8) H ?_; clear H; intro e H; cbv)
    | (refine lit_t ?_; cbv)
    | (refine lit_f ?_; cbv)
    | (refine known_t (by assumption) ?_)
    | (refine known_f (by assumption) ?_)
    | (refine known_x (by assumption) ?_)
    | (refine known_y (by assumption) ?_)
    | (refine known_get (by assumption) ?_; cbv)
    | (refine known_and (by assumption) ?_)
    | with_reducible refine And.intro ?_ ?_
    | (intro hh; exact hh)
    | (intro _; assumption)
    | (intro hx; first | exact tf_absurd hx (by assumption) | exact tf_absurd (by assumption) hx)
    | (intro _; clear H h; simp only [ho, stdOps] at *; simp_all)
    | (cbv; with_reducible refine hold_go hJ ?_; cbv))

end Go.Proofs.Ytjdbmfipciadfaa.A
