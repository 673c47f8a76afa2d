/- Functions of the program and of the document's answer, as plain ones. Written by lift.py. -/
import Derived.Test.YtjdbmfipciadfaaSx0
import Derived.Test.YtjdbmfipciadfaaSx3
import Derived.Test.YtjdbmfipciadfaaSx1

namespace Go.Proofs.Ytjdbmfipciadfaa.A
open Go Go.Pt

/-! (*pontoon/sink.Sink).Commit -/
inductive F16R where
  | v0 (y0 : Int) (y1 : Int) (y2 : List AV) (y3 : Nat) (y4 : List AV) (y5 : List (AV × AV)) (y6 : List (AV × AV))
def F16R.av : F16R → AV
  | .v0 y0 _ _ _ _ _ _ => .int .i64 y0
def F16R.hp (a3 : Int) : F16R → List Ent
  | .v0 _ y1 y2 y3 y4 y5 y6 => [.var [.int .i64 a3, .int .i64 y1, .sl 2 y2 (.tip 1 y3), .sl 1 y4 .no, .mp 2, .mp 3], .tip y3, .mp y5, .mp y6]
noncomputable def f16 (o : Ops) (fuel : Nat) (a0 : Nat) (a1 : Int) (a2 : Int) (a3 : Int) (a4 : Int) (a5 : List AV) (a6 : List AV) (a7 : List (AV × AV)) (a8 : List (AV × AV)) : Option F16R :=
  bindR (f77 o fuel a0 a1 a2 a3 a4 a5 a6 a7 a8) fun r => match r with
  | .v0 r9 r10 r11 r12 => ifB (o.bnot (o.cmp .eql r9 0))
    (some (.v0 r9 r10 a5 a0 a6 r11 r12))
    (req (o.mok true [.int .i64, .int .i64] r11) <|
     findA (o.mfind r11 (.agg [.int .i64 a1, .int .i64 a2])) (fun e => sh4 e fun v13 =>
     ifB v13
      (some (.v0 0 r10 a5 a0 a6 r11 r12))
      (req (o.mok true [.int .i64, .int .i64] r12) <|
       findA (o.mfind r12 (.agg [.int .i64 a1, .int .i64 a2])) (fun e => sh31 e fun v14 v15 v16 v17 v18 =>
       bindR (f75 o fuel a0 v14 v15 v16 v17 v18 a3 r10 a5 a6 r11 r12) fun r => match r with
        | .v0 r19 => ifB (o.bnot (o.cmp .eql r19 0))
          (some (.v0 r19 r10 a5 a0 a6 r11 r12))
          (req (o.le 0 (o.ar .sub .i64 (o.len a5) v16)) <|
           req (o.le (o.ar .sub .i64 (o.len a5) v16) (o.len v17)) <|
           req (o.room a5 (o.drop v17 (o.ar .sub .i64 (o.len a5) v16)) 16) <|
           bindR (f78 o fuel v18) fun r => match r with
           | .v0 r20 => req (o.mok true [.int .i64, .int .i64] r12) <|
             req (o.mok true [.int .i64, .int .i64] r11) <|
             some (.v0 0 r10 (o.apnd a5 (o.drop v17 (o.ar .sub .i64 (o.len a5) v16))) (o.padd a0 (o.drop v17 (o.ar .sub .i64 (o.len a5) v16))) r20 (o.mput r11 (.agg [.int .i64 a1, .int .i64 a2]) (.bool true)) (o.mdel r12 (.agg [.int .i64 a1, .int .i64 a2])))))
       (some (.v0 4 r10 a5 a0 a6 r11 r12))))
     (req (o.mok true [.int .i64, .int .i64] r12) <|
      findA (o.mfind r12 (.agg [.int .i64 a1, .int .i64 a2])) (fun e => sh31 e fun v21 v22 v23 v24 v25 =>
      bindR (f75 o fuel a0 v21 v22 v23 v24 v25 a3 r10 a5 a6 r11 r12) fun r => match r with
       | .v0 r26 => ifB (o.bnot (o.cmp .eql r26 0))
         (some (.v0 r26 r10 a5 a0 a6 r11 r12))
         (req (o.le 0 (o.ar .sub .i64 (o.len a5) v23)) <|
          req (o.le (o.ar .sub .i64 (o.len a5) v23) (o.len v24)) <|
          req (o.room a5 (o.drop v24 (o.ar .sub .i64 (o.len a5) v23)) 16) <|
          bindR (f78 o fuel v25) fun r => match r with
          | .v0 r27 => req (o.mok true [.int .i64, .int .i64] r12) <|
            req (o.mok true [.int .i64, .int .i64] r11) <|
            some (.v0 0 r10 (o.apnd a5 (o.drop v24 (o.ar .sub .i64 (o.len a5) v23))) (o.padd a0 (o.drop v24 (o.ar .sub .i64 (o.len a5) v23))) r27 (o.mput r11 (.agg [.int .i64 a1, .int .i64 a2]) (.bool true)) (o.mdel r12 (.agg [.int .i64 a1, .int .i64 a2])))))
      (some (.v0 4 r10 a5 a0 a6 r11 r12))))
set_option maxHeartbeats 4000000 in
set_option maxRecDepth 100000 in
theorem f16_call (o : Ops) (ho : o = stdOps) (fuel : Nat) (a0 : Nat) (a1 : Int) (a2 : Int) (a3 : Int) (a4 : Int) (a5 : List AV) (a6 : List AV) (a7 : List (AV × AV)) (a8 : List (AV × AV)) {R : F16R} (H : f16 o fuel a0 a1 a2 a3 a4 a5 a6 a7 a8 = some R) (K : AV → List Ent → Prop) (E : AV → List Ent → Prop) (h : K R.av (F16R.hp a3 R)) : CallA Try.prog 16 [.ptr 0 0, .agg [.int .i64 a1, .int .i64 a2]] [.var [.int .i64 a3, .int .i64 a4, .sl 2 a5 (.tip 1 a0), .sl 1 a6 .no, .mp 2, .mp 3], .tip a0, .mp a7, .mp a8] K E := by
  refine call_wk fun K' hK => ?_
  refine call_keep (n₀ := 4) tab_ok Try.func16 rfl rfl rfl rfl ?_
  intro J hJ
  obtain rfl : o = J.o := by rw [ho, hJ]; rfl
  unfold f16 at H
  cbv
  repeat' (first
    | ((with_reducible first | refine awp_go2 ?_ | refine aops_go2 ?_ | refine strip_go2 ?_ | refine draw_go2 ?_ | refine frames_go2 ?_); cbv)
    | (with_reducible refine hold_go hJ ?_; cbv)
    | with_reducible exact id
    | exact trivial
    | with_reducible exact rfl
    | with_reducible exact ⟨_, rfl⟩
    | exact none_go H
    | (refine KeepQ.mk [] (by decide) ?_; cbv; cases H; refine hK _ _ _ _ ?_ ?_ rfl h <;> cbv)
    | (refine ifB_go H ?_ ?_ <;> clear H <;> intro hh H)
    | (refine ifB_og H ?_ ?_ <;> clear H <;> intro hh H)
    | (refine req_go H ?_; clear H; intro hh H)
    | (refine gg_t ho H ?_ ?_ <;> clear H <;> intro hh H)
    | (refine gg_f ho H ?_ ?_ <;> clear H <;> intro hh H)
    | (refine bit_go ho H ?_ ?_ <;> clear H <;> intro hh H; (all_goals cbv))
    | (refine nil_go H ?_; clear H; intro b H; cbv)
    | (refine tok_go ?_; cbv)
    | (refine sh4_get H ?_; clear H; intro _ he H; cbv)
    | (refine sh4_find H ?_ ?_ <;> clear H; (intro _ H; cbv); rotate_left; (intro H; cbv))
    | (refine sh31_get H ?_; clear H; intro _ _ _ _ _ he H; cbv)
    | (refine sh31_find H ?_ ?_ <;> clear H; (intro _ _ _ _ _ H; cbv); rotate_left; (intro H; cbv))
    | (refine getA_go (β := UInt8) H ?_; clear H; intro e H; cbv)
    | (obtain ⟨R, hR, H2⟩ := bindR_go H; refine call_in hJ [] (by decide) rfl rfl rfl (f78_call _ ho _ _ hR _ _ ?_); clear H hR; rcases R with ⟨_⟩; all_goals (replace H := H2; clear H2; (try dsimp only at H); cbv))
    | (obtain ⟨R, hR, H2⟩ := bindR_go H; refine call_in hJ [0, 1, 2, 3] (by decide) rfl rfl rfl (f75_call _ ho _ _ _ _ _ _ _ _ _ _ _ _ _ hR _ _ ?_); clear H hR; rcases R with ⟨_⟩; all_goals (replace H := H2; clear H2; (try dsimp only at H); cbv))
    | (obtain ⟨R, hR, H2⟩ := bindR_go H; refine call_in hJ [0, 1, 2, 3] (by decide) rfl rfl rfl (f77_call _ ho _ _ _ _ _ _ _ _ _ _ hR _ _ ?_); clear H hR; rcases R with ⟨_, _, _, _⟩; all_goals (replace H := H2; clear H2; (try dsimp only at H); cbv))
    | (refine lit_t ?_; cbv)
    | (refine lit_f ?_; cbv)
    | (refine known_t (by assumption) ?_)
    | (refine known_f (by assumption) ?_)
    | (refine known_x (by assumption) ?_)
    | (refine known_y (by assumption) ?_)
    | (refine known_get (by assumption) ?_; cbv)
    | (refine known_and (by assumption) ?_)
    | with_reducible refine And.intro ?_ ?_
    | (intro hh; exact hh)
    | (intro _; assumption)
    | (intro hx; first | exact tf_absurd hx (by assumption) | exact tf_absurd (by assumption) hx)
    | (intro _; clear H h; simp only [ho, stdOps] at *; simp_all)
    | (cbv; with_reducible refine hold_go hJ ?_; cbv))

/-! (*pontoon/sink.Sink).Len -/
inductive F58R where
  | v0 (y0 : Int)
def F58R.av : F58R → AV
  | .v0 y0 => .int .i64 y0
def F58R.hp (a0 : Nat) (a1 : Int) (a2 : Int) (a3 : List AV) (a4 : List AV) (a5 : List (AV × AV)) (a6 : List (AV × AV)) : F58R → List Ent
  | .v0 _ => [.var [.int .i64 a1, .int .i64 a2, .sl 2 a3 (.tip 1 a0), .sl 1 a4 .no, .mp 2, .mp 3], .tip a0, .mp a5, .mp a6]
noncomputable def f58 (o : Ops) (fuel : Nat) (a0 : Nat) (a1 : Int) (a2 : Int) (a3 : List AV) (a4 : List AV) (a5 : List (AV × AV)) (a6 : List (AV × AV)) : Option F58R :=
  bindR (f70 o fuel a0 a1 a2 a3 a4 a5 a6) fun r => match r with
  | .v0 r7 => ifB r7
    (some (.v0 0))
    (some (.v0 (o.len a3)))
set_option maxHeartbeats 4000000 in
set_option maxRecDepth 100000 in
theorem f58_call (o : Ops) (ho : o = stdOps) (fuel : Nat) (a0 : Nat) (a1 : Int) (a2 : Int) (a3 : List AV) (a4 : List AV) (a5 : List (AV × AV)) (a6 : List (AV × AV)) {R : F58R} (H : f58 o fuel a0 a1 a2 a3 a4 a5 a6 = some R) (K : AV → List Ent → Prop) (E : AV → List Ent → Prop) (h : K R.av (F58R.hp a0 a1 a2 a3 a4 a5 a6 R)) : CallA Try.prog 58 [.ptr 0 0] [.var [.int .i64 a1, .int .i64 a2, .sl 2 a3 (.tip 1 a0), .sl 1 a4 .no, .mp 2, .mp 3], .tip a0, .mp a5, .mp a6] K E := by
  refine call_wk fun K' hK => ?_
  refine call_keep (n₀ := 4) tab_ok Try.func58 rfl rfl rfl rfl ?_
  intro J hJ
  obtain rfl : o = J.o := by rw [ho, hJ]; rfl
  unfold f58 at H
  cbv
  repeat' (first
    | ((with_reducible first | refine awp_go2 ?_ | refine aops_go2 ?_ | refine strip_go2 ?_ | refine draw_go2 ?_ | refine frames_go2 ?_); cbv)
    | (with_reducible refine hold_go hJ ?_; cbv)
    | with_reducible exact id
    | exact trivial
    | with_reducible exact rfl
    | with_reducible exact ⟨_, rfl⟩
    | exact none_go H
    | (refine KeepQ.mk [] (by decide) ?_; cbv; cases H; refine hK _ _ _ _ ?_ ?_ rfl h <;> cbv)
    | (refine ifB_go H ?_ ?_ <;> clear H <;> intro hh H)
    | (refine ifB_og H ?_ ?_ <;> clear H <;> intro hh H)
    | (refine req_go H ?_; clear H; intro hh H)
    | (refine gg_t ho H ?_ ?_ <;> clear H <;> intro hh H)
    | (refine gg_f ho H ?_ ?_ <;> clear H <;> intro hh H)
    | (refine bit_go ho H ?_ ?_ <;> clear H <;> intro hh H; (all_goals cbv))
    | (refine nil_go H ?_; clear H; intro b H; cbv)
    | (refine tok_go ?_; cbv)
    | (refine getA_go (β := UInt8) H ?_; clear H; intro e H; cbv)
    | (obtain ⟨R, hR, H2⟩ := bindR_go H; refine call_in hJ [0, 1, 2, 3] (by decide) rfl rfl rfl (f70_call _ ho _ _ _ _ _ _ _ _ hR _ _ ?_); clear H hR; rcases R with ⟨_⟩; all_goals (replace H := H2; clear H2; (try dsimp only at H); cbv))
    | (refine lit_t ?_; cbv)
    | (refine lit_f ?_; cbv)
    | (refine known_t (by assumption) ?_)
    | (refine known_f (by assumption) ?_)
    | (refine known_x (by assumption) ?_)
    | (refine known_y (by assumption) ?_)
    | (refine known_get (by assumption) ?_; cbv)
    | (refine known_and (by assumption) ?_)
    | with_reducible refine And.intro ?_ ?_
    | (intro hh; exact hh)
    | (intro _; assumption)
    | (intro hx; first | exact tf_absurd hx (by assumption) | exact tf_absurd (by assumption) hx)
    | (intro _; clear H h; simp only [ho, stdOps] at *; simp_all)
    | (cbv; with_reducible refine hold_go hJ ?_; cbv))

/-! (*pontoon/sink.Sink).Register -/
inductive F25R where
  | v0 (y0 : Int)
def F25R.av : F25R → AV
  | .v0 y0 => .int .i64 y0
def F25R.hp (a0 : Nat) (a1 : Int) (a2 : Int) (a3 : List AV) (a4 : List AV) (a5 : List (AV × AV)) (a6 : List (AV × AV)) : F25R → List Ent
  | .v0 _ => [.var [.int .i64 a1, .int .i64 a2, .sl 2 a3 (.tip 1 a0), .sl 1 a4 .no, .mp 2, .mp 3], .tip a0, .mp a5, .mp a6]
noncomputable def f25 (o : Ops) (fuel : Nat) (a0 : Nat) (a1 : Int) (a2 : Int) (a3 : List AV) (a4 : List AV) (a5 : List (AV × AV)) (a6 : List (AV × AV)) : Option F25R :=
  bindR (f70 o fuel a0 a1 a2 a3 a4 a5 a6) fun r => match r with
  | .v0 r7 => ifB r7
    (some (.v0 0))
    (some (.v0 a2))
set_option maxHeartbeats 4000000 in
set_option maxRecDepth 100000 in
theorem f25_call (o : Ops) (ho : o = stdOps) (fuel : Nat) (a0 : Nat) (a1 : Int) (a2 : Int) (a3 : List AV) (a4 : List AV) (a5 : List (AV × AV)) (a6 : List (AV × AV)) {R : F25R} (H : f25 o fuel a0 a1 a2 a3 a4 a5 a6 = some R) (K : AV → List Ent → Prop) (E : AV → List Ent → Prop) (h : K R.av (F25R.hp a0 a1 a2 a3 a4 a5 a6 R)) : CallA Try.prog 25 [.ptr 0 0] [.var [.int .i64 a1, .int .i64 a2, .sl 2 a3 (.tip 1 a0), .sl 1 a4 .no, .mp 2, .mp 3], .tip a0, .mp a5, .mp a6] K E := by
  refine call_wk fun K' hK => ?_
  refine call_keep (n₀ := 4) tab_ok Try.func25 rfl rfl rfl rfl ?_
  intro J hJ
  obtain rfl : o = J.o := by rw [ho, hJ]; rfl
  unfold f25 at H
  cbv
  repeat' (first
    | ((with_reducible first | refine awp_go2 ?_ | refine aops_go2 ?_ | refine strip_go2 ?_ | refine draw_go2 ?_ | refine frames_go2 ?_); cbv)
    | (with_reducible refine hold_go hJ ?_; cbv)
    | with_reducible exact id
    | exact trivial
    | with_reducible exact rfl
    | with_reducible exact ⟨_, rfl⟩
    | exact none_go H
    | (refine KeepQ.mk [] (by decide) ?_; cbv; cases H; refine hK _ _ _ _ ?_ ?_ rfl h <;> cbv)
    | (refine ifB_go H ?_ ?_ <;> clear H <;> intro hh H)
    | (refine ifB_og H ?_ ?_ <;> clear H <;> intro hh H)
    | (refine req_go H ?_; clear H; intro hh H)
    | (refine gg_t ho H ?_ ?_ <;> clear H <;> intro hh H)
    | (refine gg_f ho H ?_ ?_ <;> clear H <;> intro hh H)
    | (refine bit_go ho H ?_ ?_ <;> clear H <;> intro hh H; (all_goals cbv))
    | (refine nil_go H ?_; clear H; intro b H; cbv)
    | (refine tok_go ?_; cbv)
    | (refine getA_go (β := UInt8) H ?_; clear H; intro e H; cbv)
    | (obtain ⟨R, hR, H2⟩ := bindR_go H; refine call_in hJ [0, 1, 2, 3] (by decide) rfl rfl rfl (f70_call _ ho _ _ _ _ _ _ _ _ hR _ _ ?_); clear H hR; rcases R with ⟨_⟩; all_goals (replace H := H2; clear H2; (try dsimp only at H); cbv))
    | (refine lit_t ?_; cbv)
    | (refine lit_f ?_; cbv)
    | (refine known_t (by assumption) ?_)
    | (refine known_f (by assumption) ?_)
    | (refine known_x (by assumption) ?_)
    | (refine known_y (by assumption) ?_)
    | (refine known_get (by assumption) ?_; cbv)
    | (refine known_and (by assumption) ?_)
    | with_reducible refine And.intro ?_ ?_
    | (intro hh; exact hh)
    | (intro _; assumption)
    | (intro hx; first | exact tf_absurd hx (by assumption) | exact tf_absurd (by assumption) hx)
    | (intro _; clear H h; simp only [ho, stdOps] at *; simp_all)
    | (cbv; with_reducible refine hold_go hJ ?_; cbv))

/-! pontoon/pontoonlaw15.live -/
inductive F13R where
  | v0 (y0 : Bool)
def F13R.av : F13R → AV
  | .v0 y0 => .bool y0
def F13R.hp : F13R → List Ent
  | .v0 _ => []
noncomputable def f13 (o : Ops) (fuel : Nat)  : Option F13R :=
  bindR (f14 o fuel 1) fun r => match r with
  | .v0  => some (.v0 false)
  | .v1 r0 r1 r2 r3 r4 => bindR (f60 o fuel 1 1 0 2 [.int .i64 7, .int .i64 8]) fun r => match r with
    | .v0 r5 r6 r7 r8 r9 => bindR (f15 o fuel r1 r5 r6 r7 r8 r9 1 0 r0 r2 r3 r4) fun r => match r with
      | .v0 r10 r11 r12 r13 => ifB (o.bnot (o.cmp .eql r10 0))
        (some (.v0 false))
        (bindR (f16 o fuel r1 1 1 1 r11 r0 r2 r12 r13) fun r => match r with
         | .v0 r14 r15 r16 r17 r18 r19 r20 => ifB (o.bnot (o.cmp .eql r14 0))
           (some (.v0 false))
           (bindR (f58 o fuel r17 1 r15 r16 r18 r19 r20) fun r => match r with
            | .v0 r21 => ifB (o.bnot (o.cmp .eql r21 2))
              (some (.v0 false))
              (bindR (f60 o fuel 2 5 1 3 [.int .i64 8, .int .i64 9]) fun r => match r with
               | .v0 r22 r23 r24 r25 r26 => bindR (f15 o fuel r17 r22 r23 r24 r25 r26 1 r15 r16 r18 r19 r20) fun r => match r with
                 | .v0 r27 r28 r29 r30 => ifB (o.cmp .eql r27 0)
                   (bindR (f25 o fuel r17 1 r28 r16 r18 r29 r30) fun r => match r with
                    | .v0 r31 => ifB (o.cmp .eql r31 2)
                      (bindR (f16 o fuel r17 2 5 1 r28 r16 r18 r29 r30) fun r => match r with
                       | .v0 r32 r33 r34 r35 r36 r37 r38 => ifB (o.cmp .eql r32 0)
                         (bindR (f58 o fuel r35 1 r33 r34 r36 r37 r38) fun r => match r with
                          | .v0 r39 => ifB (o.cmp .eql r39 3)
                            (bindR (f16 o fuel r35 1 2 1 r33 r34 r36 r37 r38) fun r => match r with
                             | .v0 r40 r41 r42 r43 r44 r45 r46 => ifB (o.cmp .eql r40 150)
                               (bindR (f60 o fuel 2 6 1 4 [.int .i64 9]) fun r => match r with
                                | .v0 r47 r48 r49 r50 r51 => bindR (f15 o fuel r43 r47 r48 r49 r50 r51 1 r41 r42 r44 r45 r46) fun r => match r with
                                  | .v0 r52 _ _ _ => some (.v0 (o.cmp .eql r52 152)))
                               (some (.v0 false)))
                            (some (.v0 false)))
                         (some (.v0 false)))
                      (some (.v0 false)))
                   (some (.v0 false)))))
set_option maxHeartbeats 4000000 in
set_option maxRecDepth 100000 in
theorem f13_call (o : Ops) (ho : o = stdOps) (fuel : Nat)  {R : F13R} (H : f13 o fuel  = some R) (K : AV → List Ent → Prop) (E : AV → List Ent → Prop) (h : K R.av R.hp) : CallA Try.prog 13 [] [] K E := by
  refine call_wk fun K' hK => ?_
  refine call_keep (n₀ := 0) tab_ok Try.func13 rfl rfl rfl rfl ?_
  intro J hJ
  obtain rfl : o = J.o := by rw [ho, hJ]; rfl
  unfold f13 at H
  cbv
  repeat' (first
    | ((with_reducible first | refine awp_go2 ?_ | refine aops_go2 ?_ | refine strip_go2 ?_ | refine draw_go2 ?_ | refine frames_go2 ?_); cbv)
    | (with_reducible refine hold_go hJ ?_; cbv)
    | with_reducible exact id
    | exact trivial
    | with_reducible exact rfl
    | with_reducible exact ⟨_, rfl⟩
    | exact none_go H
    | (refine KeepQ.mk [] (by decide) ?_; cbv; cases H; refine hK _ _ _ _ ?_ ?_ rfl h <;> cbv)
    | (first | refine known_t (kn_pick_t ho (kn_bnot_t ho (kn_cmp ho (by decide))) rfl) ?_ | refine known_y (kn_pick_t ho (kn_bnot_t ho (kn_cmp ho (by decide))) rfl) ?_)
    | (first | refine known_f (kn_pick_f ho (kn_bnot_f ho (kn_cmp ho (by decide))) rfl) ?_ | refine known_x (kn_pick_f ho (kn_bnot_f ho (kn_cmp ho (by decide))) rfl) ?_)
    | (refine ifB_go H ?_ ?_ <;> clear H <;> intro hh H)
    | (refine ifB_og H ?_ ?_ <;> clear H <;> intro hh H)
    | (refine req_go H ?_; clear H; intro hh H)
    | (refine gg_t ho H ?_ ?_ <;> clear H <;> intro hh H)
    | (refine gg_f ho H ?_ ?_ <;> clear H <;> intro hh H)
    | (refine bit_go ho H ?_ ?_ <;> clear H <;> intro hh H; (all_goals cbv))
    | (refine nil_go H ?_; clear H; intro b H; cbv)
    | (refine tok_go ?_; cbv)
    | (refine getA_go (β := UInt8) H ?_; clear H; intro e H; cbv)
    | (obtain ⟨R, hR, H2⟩ := bindR_go H; refine call_weakF hJ [.junk, .agg [.junk, .junk, .junk, .sl 2 [] .no, .sl 1 [] .no]] ?_; cbv; refine call_in hJ [0, 1, 2, 3] (by decide) rfl rfl rfl (f15_call _ ho _ _ _ _ _ _ _ _ _ _ _ _ _ hR _ _ ?_); clear H hR; rcases R with ⟨_, _, _, _⟩; all_goals (replace H := H2; clear H2; (try dsimp only at H); cbv))
    | (obtain ⟨R, hR, H2⟩ := bindR_go H; refine call_weakF hJ [.junk, .junk, .junk, .junk, .sl 1 [] .no] ?_; cbv; refine call_in hJ [] (by decide) rfl rfl rfl (f60_call _ ho _ _ _ _ _ _ hR _ _ ?_); clear H hR; rcases R with ⟨_, _, _, _, _⟩; all_goals (replace H := H2; clear H2; (try dsimp only at H); cbv))
    | (obtain ⟨R, hR, H2⟩ := bindR_go H; refine call_in hJ [0, 1, 2, 3] (by decide) rfl rfl rfl (f16_call _ ho _ _ _ _ _ _ _ _ _ _ hR _ _ ?_); clear H hR; rcases R with ⟨_, _, _, _, _, _, _⟩; all_goals (replace H := H2; clear H2; (try dsimp only at H); cbv))
    | (obtain ⟨R, hR, H2⟩ := bindR_go H; refine call_in hJ [0, 1, 2, 3] (by decide) rfl rfl rfl (f58_call _ ho _ _ _ _ _ _ _ _ hR _ _ ?_); clear H hR; rcases R with ⟨_⟩; all_goals (replace H := H2; clear H2; (try dsimp only at H); cbv))
    | (obtain ⟨R, hR, H2⟩ := bindR_go H; refine call_in hJ [0, 1, 2, 3] (by decide) rfl rfl rfl (f25_call _ ho _ _ _ _ _ _ _ _ hR _ _ ?_); clear H hR; rcases R with ⟨_⟩; all_goals (replace H := H2; clear H2; (try dsimp only at H); cbv))
    | (obtain ⟨R, hR, H2⟩ := bindR_go H; refine call_in hJ [] (by decide) rfl rfl rfl (f14_call _ ho _ _ hR _ _ ?_); clear H hR; rcases R with ⟨⟩ | ⟨_, _, _, _, _⟩; all_goals (replace H := H2; clear H2; (try dsimp only at H); cbv))
    | (refine lit_t ?_; cbv)
    | (refine lit_f ?_; cbv)
    | (refine known_t (by assumption) ?_)
    | (refine known_f (by assumption) ?_)
    | (refine known_x (by assumption) ?_)
    | (refine known_y (by assumption) ?_)
    | (refine known_get (by assumption) ?_; cbv)
    | (refine known_and (by assumption) ?_)
    | with_reducible refine And.intro ?_ ?_
    | (intro hh; exact hh)
    | (intro _; assumption)
    | (intro hx; first | exact tf_absurd hx (by assumption) | exact tf_absurd (by assumption) hx)
    | (intro _; clear H h; simp only [ho, stdOps] at *; simp_all)
    | (cbv; with_reducible refine hold_go hJ ?_; cbv))

/-! (pontoon/pontoonlaw15.Op).key -/
inductive F17R where
  | v0 (y0 : Int) (y1 : Int)
def F17R.av : F17R → AV
  | .v0 y0 y1 => .agg [.int .i64 y0, .int .i64 y1]
def F17R.hp : F17R → List Ent
  | .v0 _ _ => []
noncomputable def f17 (_o : Ops) (_fuel : Nat) (_a0 : Int) (a1 : Int) (a2 : Int) (_a3 : Int) (_a4 : List AV) (_a5 : List AV) : Option F17R :=
  some (.v0 a1 a2)
set_option maxHeartbeats 4000000 in
set_option maxRecDepth 100000 in
theorem f17_call (o : Ops) (ho : o = stdOps) (fuel : Nat) (a0 : Int) (a1 : Int) (a2 : Int) (a3 : Int) (a4 : List AV) (a5 : List AV) {R : F17R} (H : f17 o fuel a0 a1 a2 a3 a4 a5 = some R) (K : AV → List Ent → Prop) (E : AV → List Ent → Prop) (h : K R.av R.hp) : CallA Try.prog 17 [.agg [.int .i64 a0, .int .i64 a1, .int .i64 a2, .int .i64 a3, .sl 2 a4 .no, .sl 1 a5 .no]] [] K E := by
  refine call_wk fun K' hK => ?_
  refine call_keep (n₀ := 0) tab_ok Try.func17 rfl rfl rfl rfl ?_
  intro J hJ
  obtain rfl : o = J.o := by rw [ho, hJ]; rfl
  unfold f17 at H
  cbv
  repeat' (first
    | ((with_reducible first | refine awp_go2 ?_ | refine aops_go2 ?_ | refine strip_go2 ?_ | refine draw_go2 ?_ | refine frames_go2 ?_); cbv)
    | (with_reducible refine hold_go hJ ?_; cbv)
    | with_reducible exact id
    | exact trivial
    | with_reducible exact rfl
    | with_reducible exact ⟨_, rfl⟩
    | exact none_go H
    | (refine KeepQ.mk [] (by decide) ?_; cbv; cases H; refine hK _ _ _ _ ?_ ?_ rfl h <;> cbv)
    | (refine ifB_go H ?_ ?_ <;> clear H <;> intro hh H)
    | (refine ifB_og H ?_ ?_ <;> clear H <;> intro hh H)
    | (refine req_go H ?_; clear H; intro hh H)
    | (refine gg_t ho H ?_ ?_ <;> clear H <;> intro hh H)
    | (refine gg_f ho H ?_ ?_ <;> clear H <;> intro hh H)
    | (refine bit_go ho H ?_ ?_ <;> clear H <;> intro hh H; (all_goals cbv))
    | (refine nil_go H ?_; clear H; intro b H; cbv)
    | (refine tok_go ?_; cbv)
    | (refine getA_go (β := UInt8) H ?_; clear H; intro e H; cbv)
    | (refine lit_t ?_; cbv)
    | (refine lit_f ?_; cbv)
    | (refine known_t (by assumption) ?_)
    | (refine known_f (by assumption) ?_)
    | (refine known_x (by assumption) ?_)
    | (refine known_y (by assumption) ?_)
    | (refine known_get (by assumption) ?_; cbv)
    | (refine known_and (by assumption) ?_)
    | with_reducible refine And.intro ?_ ?_
    | (intro hh; exact hh)
    | (intro _; assumption)
    | (intro hx; first | exact tf_absurd hx (by assumption) | exact tf_absurd (by assumption) hx)
    | (intro _; clear H h; simp only [ho, stdOps] at *; simp_all)
    | (cbv; with_reducible refine hold_go hJ ?_; cbv))

end Go.Proofs.Ytjdbmfipciadfaa.A
