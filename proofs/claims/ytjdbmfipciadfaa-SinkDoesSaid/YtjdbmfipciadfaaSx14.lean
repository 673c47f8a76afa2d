/- Functions of the program and of the document's answer, as plain ones. Written by lift.py. -/
import Derived.Test.YtjdbmfipciadfaaSx0
import Derived.Test.YtjdbmfipciadfaaSx11
import Derived.Test.YtjdbmfipciadfaaSx9
import Derived.Test.YtjdbmfipciadfaaSx12
import Derived.Test.YtjdbmfipciadfaaSx3
import Derived.Test.YtjdbmfipciadfaaSx13
import Derived.Test.YtjdbmfipciadfaaSx4
import Derived.Test.YtjdbmfipciadfaaSx6

namespace Go.Proofs.Ytjdbmfipciadfaa.A
open Go Go.Pt

/-! pontoon/pontoonlaw15.does -/
inductive F27R where
  | v0 (y0 : Bool) (y1 : Int) (y2 : List AV) (y3 : Nat) (y4 : List AV) (y5 : Int) (y6 : List AV) (y7 : List AV) (y8 : List AV) (y9 : List AV) (y10 : List (AV × AV)) (y11 : List (AV × AV))
def F27R.av : F27R → AV
  | .v0 y0 _ _ _ _ _ _ _ _ _ _ _ => .bool y0
def F27R.hp (a7 : Int) (a11 : Int) : F27R → List Ent
  | .v0 _ y1 y2 y3 y4 y5 y6 y7 y8 y9 y10 y11 => [.var [.int .i64 a7, .int .i64 y1, .sl 2 y2 (.tip 2 y3), .sl 1 y4 .no, .mp 3, .mp 4], .var [.int .i64 a11, .int .i64 y5, .sl 2 y6 .no, .sl 1 y7 .no, .sl 1 y8 .no, .sl 5 y9 .no], .tip y3, .mp y10, .mp y11]
noncomputable def f27 (o : Ops) (fuel : Nat) (a0 : Nat) (a1 : Int) (a2 : Int) (a3 : Int) (a4 : Int) (a5 : List AV) (a6 : List AV) (a7 : Int) (a8 : Int) (a9 : List AV) (a10 : List AV) (a11 : Int) (a12 : Int) (a13 : List AV) (a14 : List AV) (a15 : List AV) (a16 : List AV) (a17 : List (AV × AV)) (a18 : List (AV × AV)) : Option F27R :=
  ifB (o.cmp .eql a1 0)
  (bindR (f24 o fuel a0 a2 a7 a8 a9 a10 a17 a18) fun r => match r with
   | .v0 r19 r20 r21 r22 => bindR (f87 o fuel a2 a11 a12 a13 a14 a15 a16) fun r => match r with
     | .v0 r23 r24 r25 r26 => some (.v0 (o.cmp .eql r19 r23) r20 a9 a0 a10 r24 a13 a14 r25 r26 r21 r22))
  (ifB (o.cmp .eql a1 1)
   (bindR (f15 o fuel a0 a2 a3 a4 a5 a6 a7 a8 a9 a10 a17 a18) fun r => match r with
    | .v0 r27 r28 r29 r30 => bindR (f88 o fuel a2 a3 a4 a5 a6 a11 a12 a13 a14 a15 a16) fun r => match r with
      | .v0 r31 r32 r33 r34 => some (.v0 (o.cmp .eql r27 r31) r28 a9 a0 a10 r32 a13 a14 r33 r34 r29 r30))
   (ifB (o.cmp .eql a1 2)
    (bindR (f17 o fuel a1 a2 a3 a4 a5 a6) fun r => match r with
     | .v0 r35 r36 => bindR (f16 o fuel a0 r35 r36 a7 a8 a9 a10 a17 a18) fun r => match r with
       | .v0 r37 r38 r39 r40 r41 r42 r43 => bindR (f17 o fuel a1 a2 a3 a4 a5 a6) fun r => match r with
         | .v0 r44 r45 => bindR (f89 o fuel r44 r45 a11 a12 a13 a14 a15 a16) fun r => match r with
           | .v0 r46 r47 r48 r49 r50 r51 => some (.v0 (o.cmp .eql r37 r46) r38 r39 r40 r41 r47 r48 r49 r50 r51 r42 r43))
    (ifB (o.cmp .eql a1 3)
     (bindR (f17 o fuel a1 a2 a3 a4 a5 a6) fun r => match r with
      | .v0 r52 r53 => bindR (f22 o fuel a0 r52 r53 a7 a8 a9 a10 a17 a18) fun r => match r with
        | .v0 r54 r55 r56 r57 => bindR (f17 o fuel a1 a2 a3 a4 a5 a6) fun r => match r with
          | .v0 r58 r59 => bindR (f90 o fuel r58 r59 a11 a12 a13 a14 a15 a16) fun r => match r with
            | .v0 r60 r61 r62 r63 => some (.v0 (o.cmp .eql r54 r60) r55 a9 a0 a10 r61 a13 a14 r62 r63 r56 r57))
     (some (.v0 true a8 a9 a0 a10 a12 a13 a14 a15 a16 a17 a18)))))
set_option maxHeartbeats 4000000 in
set_option maxRecDepth 100000 in
theorem f27_call (o : Ops) (ho : o = stdOps) (fuel : Nat) (a0 : Nat) (a1 : Int) (a2 : Int) (a3 : Int) (a4 : Int) (a5 : List AV) (a6 : List AV) (a7 : Int) (a8 : Int) (a9 : List AV) (a10 : List AV) (a11 : Int) (a12 : Int) (a13 : List AV) (a14 : List AV) (a15 : List AV) (a16 : List AV) (a17 : List (AV × AV)) (a18 : List (AV × AV)) {R : F27R} (H : f27 o fuel a0 a1 a2 a3 a4 a5 a6 a7 a8 a9 a10 a11 a12 a13 a14 a15 a16 a17 a18 = some R) (K : AV → List Ent → Prop) (E : AV → List Ent → Prop) (h : K R.av (F27R.hp a7 a11 R)) : CallA Try.prog 27 [.ptr 0 0, .ptr 1 0, .agg [.int .i64 a1, .int .i64 a2, .int .i64 a3, .int .i64 a4, .sl 2 a5 .no, .sl 1 a6 .no]] [.var [.int .i64 a7, .int .i64 a8, .sl 2 a9 (.tip 2 a0), .sl 1 a10 .no, .mp 3, .mp 4], .var [.int .i64 a11, .int .i64 a12, .sl 2 a13 .no, .sl 1 a14 .no, .sl 1 a15 .no, .sl 5 a16 .no], .tip a0, .mp a17, .mp a18] K E := by
  refine call_wk fun K' hK => ?_
  refine call_keep (n₀ := 5) tab_ok Try.func27 rfl rfl rfl rfl ?_
  intro J hJ
  obtain rfl : o = J.o := by rw [ho, hJ]; rfl
  unfold f27 at H
  cbv
  repeat' (first
    | ((with_reducible first | refine awp_go2 ?_ | refine aops_go2 ?_ | refine strip_go2 ?_ | refine draw_go2 ?_ | refine frames_go2 ?_); cbv)
    | (with_reducible refine hold_go hJ ?_; cbv)
    | with_reducible exact id
    | exact trivial
    | with_reducible exact rfl
    | with_reducible exact ⟨_, rfl⟩
    | exact none_go H
    | (refine KeepQ.mk [] (by decide) ?_; cbv; cases H; refine hK _ _ _ _ ?_ ?_ rfl h <;> cbv)
    | (refine ifB_go H ?_ ?_ <;> clear H <;> intro hh H)
    | (refine ifB_og H ?_ ?_ <;> clear H <;> intro hh H)
    | (refine req_go H ?_; clear H; intro hh H)
    | (refine gg_t ho H ?_ ?_ <;> clear H <;> intro hh H)
    | (refine gg_f ho H ?_ ?_ <;> clear H <;> intro hh H)
    | (refine bit_go ho H ?_ ?_ <;> clear H <;> intro hh H; (all_goals cbv))
    | (refine nil_go H ?_; clear H; intro b H; cbv)
    | (refine tok_go ?_; cbv)
    | (refine getA_go (β := UInt8) H ?_; clear H; intro e H; cbv)
    | (obtain ⟨R, hR, H2⟩ := bindR_go H; refine call_in hJ [1] (by decide) rfl rfl rfl (f87_call _ ho _ _ _ _ _ _ _ _ hR _ _ ?_); clear H hR; rcases R with ⟨_, _, _, _⟩; all_goals (replace H := H2; clear H2; (try dsimp only at H); cbv))
    | (obtain ⟨R, hR, H2⟩ := bindR_go H; refine call_in hJ [0, 2, 3, 4] (by decide) rfl rfl rfl (f24_call _ ho _ _ _ _ _ _ _ _ _ hR _ _ ?_); clear H hR; rcases R with ⟨_, _, _, _⟩; all_goals (replace H := H2; clear H2; (try dsimp only at H); cbv))
    | (obtain ⟨R, hR, H2⟩ := bindR_go H; refine call_in hJ [1] (by decide) rfl rfl rfl (f88_call _ ho _ _ _ _ _ _ _ _ _ _ _ _ hR _ _ ?_); clear H hR; rcases R with ⟨_, _, _, _⟩; all_goals (replace H := H2; clear H2; (try dsimp only at H); cbv))
    | (obtain ⟨R, hR, H2⟩ := bindR_go H; refine call_in hJ [0, 2, 3, 4] (by decide) rfl rfl rfl (f15_call _ ho _ _ _ _ _ _ _ _ _ _ _ _ _ hR _ _ ?_); clear H hR; rcases R with ⟨_, _, _, _⟩; all_goals (replace H := H2; clear H2; (try dsimp only at H); cbv))
    | (obtain ⟨R, hR, H2⟩ := bindR_go H; refine call_in hJ [1] (by decide) rfl rfl rfl (f89_call _ ho _ _ _ _ _ _ _ _ _ hR _ _ ?_); clear H hR; rcases R with ⟨_, _, _, _, _, _⟩; all_goals (replace H := H2; clear H2; (try dsimp only at H); cbv))
    | (obtain ⟨R, hR, H2⟩ := bindR_go H; refine call_in hJ [] (by decide) rfl rfl rfl (f17_call _ ho _ _ _ _ _ _ _ hR _ _ ?_); clear H hR; rcases R with ⟨_, _⟩; all_goals (replace H := H2; clear H2; (try dsimp only at H); cbv))
    | (obtain ⟨R, hR, H2⟩ := bindR_go H; refine call_in hJ [0, 2, 3, 4] (by decide) rfl rfl rfl (f16_call _ ho _ _ _ _ _ _ _ _ _ _ hR _ _ ?_); clear H hR; rcases R with ⟨_, _, _, _, _, _, _⟩; all_goals (replace H := H2; clear H2; (try dsimp only at H); cbv))
    | (obtain ⟨R, hR, H2⟩ := bindR_go H; refine call_in hJ [1] (by decide) rfl rfl rfl (f90_call _ ho _ _ _ _ _ _ _ _ _ hR _ _ ?_); clear H hR; rcases R with ⟨_, _, _, _⟩; all_goals (replace H := H2; clear H2; (try dsimp only at H); cbv))
    | (obtain ⟨R, hR, H2⟩ := bindR_go H; refine call_in hJ [0, 2, 3, 4] (by decide) rfl rfl rfl (f22_call _ ho _ _ _ _ _ _ _ _ _ _ hR _ _ ?_); clear H hR; rcases R with ⟨_, _, _, _⟩; all_goals (replace H := H2; clear H2; (try dsimp only at H); cbv))
    | (refine lit_t ?_; cbv)
    | (refine lit_f ?_; cbv)
    | (refine known_t (by assumption) ?_)
    | (refine known_f (by assumption) ?_)
    | (refine known_x (by assumption) ?_)
    | (refine known_y (by assumption) ?_)
    | (refine known_get (by assumption) ?_; cbv)
    | (refine known_and (by assumption) ?_)
    | with_reducible refine And.intro ?_ ?_
    | (intro hh; exact hh)
    | (intro _; assumption)
    | (intro hx; first | exact tf_absurd hx (by assumption) | exact tf_absurd (by assumption) hx)
    | (intro _; clear H h; simp only [ho, stdOps] at *; simp_all)
    | (cbv; with_reducible refine hold_go hJ ?_; cbv))

end Go.Proofs.Ytjdbmfipciadfaa.A
