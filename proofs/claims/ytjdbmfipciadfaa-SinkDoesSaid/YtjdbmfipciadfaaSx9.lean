/- Functions of the program and of the document's answer, as plain ones. Written by lift.py. -/
import Derived.Test.YtjdbmfipciadfaaSx0
import Derived.Test.YtjdbmfipciadfaaSx2
import Derived.Test.YtjdbmfipciadfaaSx1

namespace Go.Proofs.Ytjdbmfipciadfaa.A
open Go Go.Pt

/-! (*pontoon/sink.Sink).Fence -/
inductive F24R where
  | v0 (y0 : Int) (y1 : Int) (y2 : List (AV × AV)) (y3 : List (AV × AV))
def F24R.av : F24R → AV
  | .v0 y0 _ _ _ => .int .i64 y0
def F24R.hp (a0 : Nat) (a2 : Int) (a4 : List AV) (a5 : List AV) : F24R → List Ent
  | .v0 _ y1 y2 y3 => [.var [.int .i64 a2, .int .i64 y1, .sl 2 a4 (.tip 1 a0), .sl 1 a5 .no, .mp 2, .mp 3], .tip a0, .mp y2, .mp y3]
noncomputable def f24 (o : Ops) (fuel : Nat) (a0 : Nat) (a1 : Int) (a2 : Int) (a3 : Int) (a4 : List AV) (a5 : List AV) (a6 : List (AV × AV)) (a7 : List (AV × AV)) : Option F24R :=
  bindR (f70 o fuel a0 a2 a3 a4 a5 a6 a7) fun r => match r with
  | .v0 r8 => ifB r8
    (some (.v0 2 a3 a6 a7))
    (bindR (f86 o fuel a1) fun r => match r with
     | .v0 r9 => ifB (o.bnot r9)
       (some (.v0 1 a3 a6 a7))
       (bindR (f72 o fuel a0 a1 a2 a3 a4 a5 a6 a7) fun r => match r with
        | .v0 r10 r11 r12 r13 => some (.v0 r10 r11 r12 r13)))
set_option maxHeartbeats 4000000 in
set_option maxRecDepth 100000 in
theorem f24_call (o : Ops) (ho : o = stdOps) (fuel : Nat) (a0 : Nat) (a1 : Int) (a2 : Int) (a3 : Int) (a4 : List AV) (a5 : List AV) (a6 : List (AV × AV)) (a7 : List (AV × AV)) {R : F24R} (H : f24 o fuel a0 a1 a2 a3 a4 a5 a6 a7 = some R) (K : AV → List Ent → Prop) (E : AV → List Ent → Prop) (h : K R.av (F24R.hp a0 a2 a4 a5 R)) : CallA Try.prog 24 [.ptr 0 0, .int .i64 a1] [.var [.int .i64 a2, .int .i64 a3, .sl 2 a4 (.tip 1 a0), .sl 1 a5 .no, .mp 2, .mp 3], .tip a0, .mp a6, .mp a7] K E := by
  refine call_wk fun K' hK => ?_
  refine call_keep (n₀ := 4) tab_ok Try.func24 rfl rfl rfl rfl ?_
  intro J hJ
  obtain rfl : o = J.o := by rw [ho, hJ]; rfl
  unfold f24 at H
  cbv
  repeat' (first
    | ((with_reducible first | refine awp_go2 ?_ | refine aops_go2 ?_ | refine strip_go2 ?_ | refine draw_go2 ?_ | refine frames_go2 ?_); cbv)
    | (with_reducible refine hold_go hJ ?_; cbv)
    | with_reducible exact id
    | exact trivial
    | with_reducible exact rfl
    | with_reducible exact ⟨_, rfl⟩
    | exact none_go H
    | (refine KeepQ.mk [] (by decide) ?_; cbv; cases H; refine hK _ _ _ _ ?_ ?_ rfl h <;> cbv)
    | (refine ifB_go H ?_ ?_ <;> clear H <;> intro hh H)
    | (refine ifB_og H ?_ ?_ <;> clear H <;> intro hh H)
    | (refine req_go H ?_; clear H; intro hh H)
    | (refine gg_t ho H ?_ ?_ <;> clear H <;> intro hh H)
    | (refine gg_f ho H ?_ ?_ <;> clear H <;> intro hh H)
    | (refine bit_go ho H ?_ ?_ <;> clear H <;> intro hh H; (all_goals cbv))
    | (refine nil_go H ?_; clear H; intro b H; cbv)
    | (refine tok_go ?_; cbv)
    | (refine getA_go (β := UInt8) H ?_; clear H; intro e H; cbv)
    | (obtain ⟨R, hR, H2⟩ := bindR_go H; refine call_in hJ [0, 1, 2, 3] (by decide) rfl rfl rfl (f72_call _ ho _ _ _ _ _ _ _ _ _ hR _ _ ?_); clear H hR; rcases R with ⟨_, _, _, _⟩; all_goals (replace H := H2; clear H2; (try dsimp only at H); cbv))
    | (obtain ⟨R, hR, H2⟩ := bindR_go H; refine call_in hJ [] (by decide) rfl rfl rfl (f86_call _ ho _ _ hR _ _ ?_); clear H hR; rcases R with ⟨_⟩; all_goals (replace H := H2; clear H2; (try dsimp only at H); cbv))
    | (obtain ⟨R, hR, H2⟩ := bindR_go H; refine call_in hJ [0, 1, 2, 3] (by decide) rfl rfl rfl (f70_call _ ho _ _ _ _ _ _ _ _ hR _ _ ?_); clear H hR; rcases R with ⟨_⟩; all_goals (replace H := H2; clear H2; (try dsimp only at H); cbv))
    | (refine lit_t ?_; cbv)
    | (refine lit_f ?_; cbv)
    | (refine known_t (by assumption) ?_)
    | (refine known_f (by assumption) ?_)
    | (refine known_x (by assumption) ?_)
    | (refine known_y (by assumption) ?_)
    | (refine known_get (by assumption) ?_; cbv)
    | (refine known_and (by assumption) ?_)
    | with_reducible refine And.intro ?_ ?_
    | (intro hh; exact hh)
    | (intro _; assumption)
    | (intro hx; first | exact tf_absurd hx (by assumption) | exact tf_absurd (by assumption) hx)
    | (intro _; clear H h; simp only [ho, stdOps] at *; simp_all)
    | (cbv; with_reducible refine hold_go hJ ?_; cbv))

end Go.Proofs.Ytjdbmfipciadfaa.A
