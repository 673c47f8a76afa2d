/- Functions of the program and of the document's answer, as plain ones. Written by lift.py. -/
import Derived.Test.YtjdbmfipciadfaaSx0
import Derived.Test.YtjdbmfipciadfaaSx2
import Derived.Test.YtjdbmfipciadfaaSx7
import Derived.Test.YtjdbmfipciadfaaSx5
import Derived.Test.YtjdbmfipciadfaaSx11
import Derived.Test.YtjdbmfipciadfaaSx4
import Derived.Test.YtjdbmfipciadfaaSx22
import Derived.Test.YtjdbmfipciadfaaSx21

namespace Go.Proofs.Ytjdbmfipciadfaa.A
open Go Go.Pt

/-! pontoon/pontoonlaw15.same -/
inductive F47R where
  | v0 (y0 : Bool) (y1 : List (AV × AV)) (y2 : List (AV × AV))
def F47R.av : F47R → AV
  | .v0 y0 _ _ => .bool y0
def F47R.hp (a0 : Nat) (a7 : Int) (a8 : Int) (a9 : List AV) (a10 : List AV) (a11 : Int) (a12 : Int) (a13 : List AV) (a14 : List AV) (a15 : List AV) (a16 : List AV) : F47R → List Ent
  | .v0 _ y1 y2 => [.var [.int .i64 a7, .int .i64 a8, .sl 2 a9 (.tip 2 a0), .sl 1 a10 .no, .mp 3, .mp 4], .var [.int .i64 a11, .int .i64 a12, .sl 2 a13 .no, .sl 1 a14 .no, .sl 1 a15 .no, .sl 5 a16 .no], .tip a0, .mp y1, .mp y2]
noncomputable def f47 (o : Ops) (fuel : Nat) (a0 : Nat) (a1 : Int) (a2 : Int) (a3 : Int) (a4 : Int) (a5 : List AV) (a6 : List AV) (a7 : Int) (a8 : Int) (a9 : List AV) (a10 : List AV) (a11 : Int) (a12 : Int) (a13 : List AV) (a14 : List AV) (a15 : List AV) (a16 : List AV) (a17 : List (AV × AV)) (a18 : List (AV × AV)) : Option F47R :=
  bindR (f56 o fuel a0 a7 a8 a9 a10 a17 a18) fun r => match r with
  | .v0 r19 r20 => bindR (f57 o fuel a0 a4 (o.len a5) a7 a8 a9 a10 a17 a18) fun r => match r with
    | .v0 r21 r22 => bindR (f105 o fuel a4 (o.len a5) a11 a12 a13 a14 a15 a16) fun r => match r with
      | .v0 r23 r24 => ifB r20
        (bindR (f28 o fuel r19 a13) fun r => match r with
         | .v0 r25 => ifB (o.pick r20 r25 false)
           (bindR (f25 o fuel a0 a7 a8 a9 a10 a17 a18) fun r => match r with
            | .v0 r26 => ifB (o.pick (o.pick r20 r25 false) (o.cmp .eql r26 a12) false)
              (bindR (f58 o fuel a0 a7 a8 a9 a10 a17 a18) fun r => match r with
               | .v0 r27 => bindR (f106 o fuel a11 a12 a13 a14 a15 a16) fun r => match r with
                 | .v0 r28 => ifB (o.pick (o.pick (o.pick r20 r25 false) (o.cmp .eql r26 a12) false) (o.cmp .eql r27 r28) false)
                   (bindR (f26 o fuel a0 a7 a8 a9 a10 a17 a18) fun r => match r with
                    | .v0 r29 => bindR (f62 o fuel r29 a14) fun r => match r with
                      | .v0 r30 => ifB (o.pick (o.pick (o.pick (o.pick r20 r25 false) (o.cmp .eql r26 a12) false) (o.cmp .eql r27 r28) false) r30 false)
                        (bindR (f59 o fuel a0 a7 a8 a9 a10 a17 a18) fun r => match r with
                         | .v0 r31 r32 => bindR (f108 o fuel a11 a12 a13 a14 a15 a16) fun r => match r with
                           | .v0 r33 => bindR (f107 o fuel r31 r33) fun r => match r with
                             | .v0 r34 => ifB (o.pick (o.pick (o.pick (o.pick (o.pick r20 r25 false) (o.cmp .eql r26 a12) false) (o.cmp .eql r27 r28) false) r30 false) r34 false)
                               (bindR (f17 o fuel a1 a2 a3 a4 a5 a6) fun r => match r with
                                | .v0 r35 r36 => bindR (f20 o fuel a0 r35 r36 a7 a8 a9 a10 a17 r32) fun r => match r with
                                  | .v0 r37 => bindR (f17 o fuel a1 a2 a3 a4 a5 a6) fun r => match r with
                                    | .v0 r38 r39 => bindR (f109 o fuel r38 r39 a11 a12 a13 a14 a15 a16) fun r => match r with
                                      | .v0 r40 => ifB (o.pick (o.pick (o.pick (o.pick (o.pick (o.pick r20 r25 false) (o.cmp .eql r26 a12) false) (o.cmp .eql r27 r28) false) r30 false) r34 false) (o.same r37 r40) false)
                                        (bindR (f18 o fuel a0 a7 a8 a9 a10 a17 r32) fun r => match r with
                                         | .v0 r41 r42 r43 r44 r45 r46 r47 => bindR (f23 o fuel r41 r42 r43 r44 r45 a12 a13 a14 a15 a16) fun r => match r with
                                           | .v0 r48 => ifB (o.pick (o.pick (o.pick (o.pick (o.pick (o.pick (o.pick r20 r25 false) (o.cmp .eql r26 a12) false) (o.cmp .eql r27 r28) false) r30 false) r34 false) (o.same r37 r40) false) r48 false)
                                             (bindR (f28 o fuel r21 r23) fun r => match r with
                                              | .v0 r49 => some (.v0 (o.pick (o.pick (o.pick (o.pick (o.pick (o.pick (o.pick (o.pick (o.pick r20 r25 false) (o.cmp .eql r26 a12) false) (o.cmp .eql r27 r28) false) r30 false) r34 false) (o.same r37 r40) false) r48 false) r49 false) (o.cmp .eql r22 r24) false) r46 r47))
                                             (some (.v0 (o.pick (o.pick (o.pick (o.pick (o.pick (o.pick (o.pick (o.pick (o.pick r20 r25 false) (o.cmp .eql r26 a12) false) (o.cmp .eql r27 r28) false) r30 false) r34 false) (o.same r37 r40) false) r48 false) false false) (o.cmp .eql r22 r24) false) r46 r47)))
                                        (some (.v0 (o.pick (o.pick (o.pick (o.pick (o.pick (o.pick (o.pick (o.pick (o.pick r20 r25 false) (o.cmp .eql r26 a12) false) (o.cmp .eql r27 r28) false) r30 false) r34 false) (o.same r37 r40) false) false false) false false) (o.cmp .eql r22 r24) false) a17 r32)))
                               (some (.v0 (o.pick (o.pick (o.pick (o.pick (o.pick (o.pick (o.pick (o.pick (o.pick r20 r25 false) (o.cmp .eql r26 a12) false) (o.cmp .eql r27 r28) false) r30 false) r34 false) (o.same false false) false) false false) false false) (o.cmp .eql r22 r24) false) a17 r32)))
                        (some (.v0 (o.pick (o.pick (o.pick (o.pick (o.pick (o.pick (o.pick (o.pick (o.pick r20 r25 false) (o.cmp .eql r26 a12) false) (o.cmp .eql r27 r28) false) r30 false) false false) (o.same false false) false) false false) false false) (o.cmp .eql r22 r24) false) a17 a18)))
                   (some (.v0 (o.pick (o.pick (o.pick (o.pick (o.pick (o.pick (o.pick (o.pick (o.pick r20 r25 false) (o.cmp .eql r26 a12) false) (o.cmp .eql r27 r28) false) false false) false false) (o.same false false) false) false false) false false) (o.cmp .eql r22 r24) false) a17 a18)))
              (some (.v0 (o.pick (o.pick (o.pick (o.pick (o.pick (o.pick (o.pick (o.pick (o.pick r20 r25 false) (o.cmp .eql r26 a12) false) (o.cmp .eql 0 0) false) false false) false false) (o.same false false) false) false false) false false) (o.cmp .eql r22 r24) false) a17 a18)))
           (some (.v0 (o.pick (o.pick (o.pick (o.pick (o.pick (o.pick (o.pick (o.pick (o.pick r20 r25 false) (o.cmp .eql 0 a12) false) (o.cmp .eql 0 0) false) false false) false false) (o.same false false) false) false false) false false) (o.cmp .eql r22 r24) false) a17 a18)))
        (some (.v0 (o.pick (o.pick (o.pick (o.pick (o.pick (o.pick (o.pick (o.pick (o.pick r20 false false) (o.cmp .eql 0 a12) false) (o.cmp .eql 0 0) false) false false) false false) (o.same false false) false) false false) false false) (o.cmp .eql r22 r24) false) a17 a18))
set_option maxHeartbeats 4000000 in
set_option maxRecDepth 100000 in
theorem f47_call (o : Ops) (ho : o = stdOps) (fuel : Nat) (a0 : Nat) (a1 : Int) (a2 : Int) (a3 : Int) (a4 : Int) (a5 : List AV) (a6 : List AV) (a7 : Int) (a8 : Int) (a9 : List AV) (a10 : List AV) (a11 : Int) (a12 : Int) (a13 : List AV) (a14 : List AV) (a15 : List AV) (a16 : List AV) (a17 : List (AV × AV)) (a18 : List (AV × AV)) {R : F47R} (H : f47 o fuel a0 a1 a2 a3 a4 a5 a6 a7 a8 a9 a10 a11 a12 a13 a14 a15 a16 a17 a18 = some R) (K : AV → List Ent → Prop) (E : AV → List Ent → Prop) (h : K R.av (F47R.hp a0 a7 a8 a9 a10 a11 a12 a13 a14 a15 a16 R)) : CallA Try.prog 47 [.ptr 0 0, .ptr 1 0, .agg [.int .i64 a1, .int .i64 a2, .int .i64 a3, .int .i64 a4, .sl 2 a5 .no, .sl 1 a6 .no]] [.var [.int .i64 a7, .int .i64 a8, .sl 2 a9 (.tip 2 a0), .sl 1 a10 .no, .mp 3, .mp 4], .var [.int .i64 a11, .int .i64 a12, .sl 2 a13 .no, .sl 1 a14 .no, .sl 1 a15 .no, .sl 5 a16 .no], .tip a0, .mp a17, .mp a18] K E := by
  refine call_wk fun K' hK => ?_
  refine call_keep (n₀ := 5) tab_ok Try.func47 rfl rfl rfl rfl ?_
  intro J hJ
  obtain rfl : o = J.o := by rw [ho, hJ]; rfl
  unfold f47 at H
  cbv
  repeat' (first
    | ((with_reducible first | refine awp_go2 ?_ | refine aops_go2 ?_ | refine strip_go2 ?_ | refine draw_go2 ?_ | refine frames_go2 ?_); cbv)
    | (with_reducible refine hold_go hJ ?_; cbv)
    | with_reducible exact id
    | exact trivial
    | with_reducible exact rfl
    | with_reducible exact ⟨_, rfl⟩
    | exact none_go H
    | (refine KeepQ.mk [] (by decide) ?_; cbv; cases H; refine hK _ _ _ _ ?_ ?_ rfl h <;> cbv)
    | (first | refine known_t (by assumption) ?_ | refine known_y (by assumption) ?_)
    | (first | refine known_f (by assumption) ?_ | refine known_x (by assumption) ?_)
    | (first | refine known_f (kn_pick_f ho (by assumption) rfl) ?_ | refine known_x (kn_pick_f ho (by assumption) rfl) ?_)
    | (first | refine known_f (kn_pick_f ho (kn_pick_f ho (by assumption) rfl) rfl) ?_ | refine known_x (kn_pick_f ho (kn_pick_f ho (by assumption) rfl) rfl) ?_)
    | (first | refine known_f (kn_pick_f ho (kn_pick_f ho (kn_pick_f ho (by assumption) rfl) rfl) rfl) ?_ | refine known_x (kn_pick_f ho (kn_pick_f ho (kn_pick_f ho (by assumption) rfl) rfl) rfl) ?_)
    | (first | refine known_f (kn_pick_f ho (kn_pick_f ho (kn_pick_f ho (kn_pick_f ho (by assumption) rfl) rfl) rfl) rfl) ?_ | refine known_x (kn_pick_f ho (kn_pick_f ho (kn_pick_f ho (kn_pick_f ho (by assumption) rfl) rfl) rfl) rfl) ?_)
    | (first | refine known_f (kn_pick_f ho (kn_pick_f ho (kn_pick_f ho (kn_pick_f ho (kn_pick_f ho (by assumption) rfl) rfl) rfl) rfl) rfl) ?_ | refine known_x (kn_pick_f ho (kn_pick_f ho (kn_pick_f ho (kn_pick_f ho (kn_pick_f ho (by assumption) rfl) rfl) rfl) rfl) rfl) ?_)
    | (first | refine known_f (kn_pick_f ho (kn_pick_f ho (kn_pick_f ho (kn_pick_f ho (kn_pick_f ho (kn_pick_f ho (by assumption) rfl) rfl) rfl) rfl) rfl) rfl) ?_ | refine known_x (kn_pick_f ho (kn_pick_f ho (kn_pick_f ho (kn_pick_f ho (kn_pick_f ho (kn_pick_f ho (by assumption) rfl) rfl) rfl) rfl) rfl) rfl) ?_)
    | (first | refine known_f (kn_pick_f ho (kn_pick_f ho (kn_pick_f ho (kn_pick_f ho (kn_pick_f ho (kn_pick_f ho (kn_pick_f ho (by assumption) rfl) rfl) rfl) rfl) rfl) rfl) rfl) ?_ | refine known_x (kn_pick_f ho (kn_pick_f ho (kn_pick_f ho (kn_pick_f ho (kn_pick_f ho (kn_pick_f ho (kn_pick_f ho (by assumption) rfl) rfl) rfl) rfl) rfl) rfl) rfl) ?_)
    | (refine ifB_go H ?_ ?_ <;> clear H <;> intro hh H)
    | (refine ifB_og H ?_ ?_ <;> clear H <;> intro hh H)
    | (refine req_go H ?_; clear H; intro hh H)
    | (refine gg_t ho H ?_ ?_ <;> clear H <;> intro hh H)
    | (refine gg_f ho H ?_ ?_ <;> clear H <;> intro hh H)
    | (refine bit_go ho H ?_ ?_ <;> clear H <;> intro hh H; (all_goals cbv))
    | (refine nil_go H ?_; clear H; intro b H; cbv)
    | (refine tok_go ?_; cbv)
    | (refine getA_go (β := UInt8) H ?_; clear H; intro e H; cbv)
    | (obtain ⟨R, hR, H2⟩ := bindR_go H; refine call_in hJ [] (by decide) rfl rfl rfl (f28_call _ ho _ _ _ hR _ _ ?_); clear H hR; rcases R with ⟨_⟩; all_goals (replace H := H2; clear H2; (try dsimp only at H); cbv))
    | (obtain ⟨R, hR, H2⟩ := bindR_go H; refine call_in hJ [] (by decide) rfl rfl rfl (f23_call _ ho _ _ _ _ _ _ _ _ _ _ _ hR _ _ ?_); clear H hR; rcases R with ⟨_⟩; all_goals (replace H := H2; clear H2; (try dsimp only at H); cbv))
    | (obtain ⟨R, hR, H2⟩ := bindR_go H; refine call_in hJ [0, 2, 3, 4] (by decide) rfl rfl rfl (f18_call _ ho _ _ _ _ _ _ _ _ hR _ _ ?_); clear H hR; rcases R with ⟨_, _, _, _, _, _, _⟩; all_goals (replace H := H2; clear H2; (try dsimp only at H); cbv))
    | (obtain ⟨R, hR, H2⟩ := bindR_go H; refine call_in hJ [1] (by decide) rfl rfl rfl (f109_call _ ho _ _ _ _ _ _ _ _ _ hR _ _ ?_); clear H hR; rcases R with ⟨_⟩; all_goals (replace H := H2; clear H2; (try dsimp only at H); cbv))
    | (obtain ⟨R, hR, H2⟩ := bindR_go H; refine call_in hJ [] (by decide) rfl rfl rfl (f17_call _ ho _ _ _ _ _ _ _ hR _ _ ?_); clear H hR; rcases R with ⟨_, _⟩; all_goals (replace H := H2; clear H2; (try dsimp only at H); cbv))
    | (obtain ⟨R, hR, H2⟩ := bindR_go H; refine call_in hJ [0, 2, 3, 4] (by decide) rfl rfl rfl (f20_call _ ho _ _ _ _ _ _ _ _ _ _ hR _ _ ?_); clear H hR; rcases R with ⟨_⟩; all_goals (replace H := H2; clear H2; (try dsimp only at H); cbv))
    | (obtain ⟨R, hR, H2⟩ := bindR_go H; refine call_in hJ [] (by decide) rfl rfl rfl (f107_call _ ho _ _ _ hR _ _ ?_); clear H hR; rcases R with ⟨_⟩; all_goals (replace H := H2; clear H2; (try dsimp only at H); cbv))
    | (obtain ⟨R, hR, H2⟩ := bindR_go H; refine call_in hJ [1] (by decide) rfl rfl rfl (f108_call _ ho _ _ _ _ _ _ _ hR _ _ ?_); clear H hR; rcases R with ⟨_⟩; all_goals (replace H := H2; clear H2; (try dsimp only at H); cbv))
    | (obtain ⟨R, hR, H2⟩ := bindR_go H; refine call_in hJ [0, 2, 3, 4] (by decide) rfl rfl rfl (f59_call _ ho _ _ _ _ _ _ _ _ hR _ _ ?_); clear H hR; rcases R with ⟨_, _⟩; all_goals (replace H := H2; clear H2; (try dsimp only at H); cbv))
    | (obtain ⟨R, hR, H2⟩ := bindR_go H; refine call_in hJ [] (by decide) rfl rfl rfl (f62_call _ ho _ _ _ hR _ _ ?_); clear H hR; rcases R with ⟨_⟩; all_goals (replace H := H2; clear H2; (try dsimp only at H); cbv))
    | (obtain ⟨R, hR, H2⟩ := bindR_go H; refine call_in hJ [0, 2, 3, 4] (by decide) rfl rfl rfl (f26_call _ ho _ _ _ _ _ _ _ _ hR _ _ ?_); clear H hR; rcases R with ⟨_⟩; all_goals (replace H := H2; clear H2; (try dsimp only at H); cbv))
    | (obtain ⟨R, hR, H2⟩ := bindR_go H; refine call_in hJ [1] (by decide) rfl rfl rfl (f106_call _ ho _ _ _ _ _ _ _ hR _ _ ?_); clear H hR; rcases R with ⟨_⟩; all_goals (replace H := H2; clear H2; (try dsimp only at H); cbv))
    | (obtain ⟨R, hR, H2⟩ := bindR_go H; refine call_in hJ [0, 2, 3, 4] (by decide) rfl rfl rfl (f58_call _ ho _ _ _ _ _ _ _ _ hR _ _ ?_); clear H hR; rcases R with ⟨_⟩; all_goals (replace H := H2; clear H2; (try dsimp only at H); cbv))
    | (obtain ⟨R, hR, H2⟩ := bindR_go H; refine call_in hJ [0, 2, 3, 4] (by decide) rfl rfl rfl (f25_call _ ho _ _ _ _ _ _ _ _ hR _ _ ?_); clear H hR; rcases R with ⟨_⟩; all_goals (replace H := H2; clear H2; (try dsimp only at H); cbv))
    | (obtain ⟨R, hR, H2⟩ := bindR_go H; refine call_in hJ [1] (by decide) rfl rfl rfl (f105_call _ ho _ _ _ _ _ _ _ _ _ hR _ _ ?_); clear H hR; rcases R with ⟨_, _⟩; all_goals (replace H := H2; clear H2; (try dsimp only at H); cbv))
    | (obtain ⟨R, hR, H2⟩ := bindR_go H; refine call_in hJ [0, 2, 3, 4] (by decide) rfl rfl rfl (f57_call _ ho _ _ _ _ _ _ _ _ _ _ hR _ _ ?_); clear H hR; rcases R with ⟨_, _⟩; all_goals (replace H := H2; clear H2; (try dsimp only at H); cbv))
    | (obtain ⟨R, hR, H2⟩ := bindR_go H; refine call_in hJ [0, 2, 3, 4] (by decide) rfl rfl rfl (f56_call _ ho _ _ _ _ _ _ _ _ hR _ _ ?_); clear H hR; rcases R with ⟨_, _⟩; all_goals (replace H := H2; clear H2; (try dsimp only at H); cbv))
    | (refine lit_t ?_; cbv)
    | (refine lit_f ?_; cbv)
    | (refine known_t (by assumption) ?_)
    | (refine known_f (by assumption) ?_)
    | (refine known_x (by assumption) ?_)
    | (refine known_y (by assumption) ?_)
    | (refine known_get (by assumption) ?_; cbv)
    | (refine known_and (by assumption) ?_)
    | with_reducible refine And.intro ?_ ?_
    | (intro hh; exact hh)
    | (intro _; assumption)
    | (intro hx; first | exact tf_absurd hx (by assumption) | exact tf_absurd (by assumption) hx)
    | (intro _; clear H h; simp only [ho, stdOps] at *; simp_all)
    | (cbv; with_reducible refine hold_go hJ ?_; cbv))

end Go.Proofs.Ytjdbmfipciadfaa.A
