/- Functions of the program and of the document's answer, as plain ones. Written by lift.py. -/import Derived.Test.YtjdbmfipciadfaaSy0
import Derived.Test.YtjdbmfipciadfaaSy10
import Derived.Test.YtjdbmfipciadfaaSy1
import Derived.Test.YtjdbmfipciadfaaSy12
import Derived.Test.YtjdbmfipciadfaaSy3
import Derived.Test.YtjdbmfipciadfaaSy14
import Derived.Test.YtjdbmfipciadfaaSy13
import Derived.Test.YtjdbmfipciadfaaSy5
import Derived.Test.YtjdbmfipciadfaaSy16
import Derived.Test.YtjdbmfipciadfaaSy15
import Derived.Test.YtjdbmfipciadfaaSy18
import Derived.Test.YtjdbmfipciadfaaSy6
import Derived.Test.YtjdbmfipciadfaaSy19
namespace Go.Proofs.Ytjdbmfipciadfaa.A
open Go Go.Pt
set_option maxHeartbeats 4000000
set_option maxRecDepth 100000
inductive F51R where
  | v0 (y0 : Bool) (y1 : List AV) (y2 y3 y4 : Int) (y5 : Bool) (y6 y7 y8 y9 y10 y11 : Int) (y12 : Bool) (y13 : List (AV × AV)) (y14 y15 y16 : List AV)
def F51R.av : F51R → AV
  | .v0 y0 _ _ _ _ _ _ _ _ _ _ _ _ _ _ _ _ => .bool y0
def F51R.hp (a7 a18 : Int) : F51R → List Ent
  | .v0 _ y1 y2 y3 y4 y5 y6 y7 y8 y9 y10 y11 y12 y13 y14 y15 y16 => [.fam 0 y1, .var [.int .i64 a7, .mp 3, .vs 7 3 y2 y3 y4, .bool y5], .var [.vs 8 2 y6 y7 y8, .vs 9 3 y9 y10 y11, .int .i64 a18, .bool y12], .mp y13, .dead, .dead, .dead, .vec 3 y14, .vec 2 y15, .vec 3 y16]
noncomputable def f51 (o : Ops) (fuel : Nat) (a0 : Int) (a1 a2 : ByteArray) (a3 a4 : Int) (a5 a6 : List AV) (a7 a8 a9 a10 : Int) (a11 : Bool) (a12 a13 a14 a15 a16 a17 a18 : Int) (a19 : Bool) (a20 : List (AV × AV)) (a21 a22 a23 : List AV) : Option F51R :=
  ifB (o.cmp .eql a0 0)
  (bindR (f63 o fuel a1 a6 a7 a8 a9 a10 a11 a20 a21) fun r => match r with
   | .v0 r24 r25 r26 => bindR (f110 o fuel a1 r25 a12 a13 a14 a15 a16 a17 a18 a19 a22 a23) fun r => match r with
     | .v0 r27 r28 r29 r30 r31 => some (.v0 (o.cmp .eql r24 r27) r25 a8 a9 a10 a11 r28 r29 r30 a15 a16 a17 a19 r26 a21 r31 a23))
  (ifB (o.cmp .eql a0 1)
   (bindR (f34 o fuel a1 a3 a5 a6 a7 a8 a9 a10 a11 a20 a21) fun r => match r with
    | .v0 r32 r33 r34 r35 r36 r37 => bindR (f111 o fuel a1 a3 a5 a6 a12 a13 a14 a15 a16 a17 a18 a19 a22 a23) fun r => match r with
      | .v0 r38 r39 r40 r41 r42 => some (.v0 (o.cmp .eql r32 r38) a6 r33 r34 r35 a11 a12 a13 a14 r39 r40 r41 a19 r36 r37 a22 r42))
   (ifB (o.cmp .eql a0 2)
    (bindR (f64 o fuel a1 a3 a6 a7 a8 a9 a10 a11 a20 a21) fun r => match r with
     | .v0 r43 r44 r45 r46 r47 r48 => bindR (f112 o fuel a1 a3 r44 a12 a13 a14 a15 a16 a17 a18 a19 a22 a23) fun r => match r with
       | .v0 r49 r50 r51 r52 r53 r54 => some (.v0 (o.cmp .eql r43 r49) r44 r45 r46 r47 a11 a12 a13 a14 r50 r51 r52 a19 a20 r48 r53 r54))
    (ifB (o.cmp .eql a0 3)
     (bindR (f33 o fuel a1 a6 a7 a8 a9 a10 a11 a20 a21) fun r => match r with
      | .v0 r55 r56 r57 r58 r59 r60 => bindR (f113 o fuel a1 r56 a12 a13 a14 a15 a16 a17 a18 a19 a22 a23) fun r => match r with
        | .v0 r61 r62 r63 r64 r65 r66 => some (.v0 (o.cmp .eql r55 r61) r56 r57 r58 r59 a11 a12 a13 a14 r62 r63 r64 a19 a20 r60 r65 r66))
     (ifB (o.cmp .eql a0 4)
      (bindR (f65 o fuel a1 a2 a6 a7 a8 a9 a10 a11 a20 a21) fun r => match r with
       | .v0 r67 r68 r69 r70 r71 r72 => bindR (f114 o fuel a1 a2 a6 a12 a13 a14 a15 a16 a17 a18 a19 a22 a23) fun r => match r with
         | .v0 r73 r74 r75 r76 r77 r78 r79 r80 r81 => some (.v0 (o.cmp .eql r67 r73) a6 r68 r69 r70 a11 r74 r75 r76 r77 r78 r79 a19 r71 r72 r80 r81))
      (ifB (o.cmp .eql a0 5)
       (bindR (f66 o fuel a1 a6 a7 a8 a9 a10 a11 a20 a21) fun r => match r with
        | .v0 r82 r83 r84 r85 r86 r87 => bindR (f115 o fuel a1 a6 a12 a13 a14 a15 a16 a17 a18 a19 a22 a23) fun r => match r with
          | .v0 r88 r89 r90 r91 r92 r93 r94 r95 r96 => some (.v0 (o.cmp .eql r82 r88) a6 r83 r84 r85 a11 r89 r90 r91 r92 r93 r94 a19 r86 r87 r95 r96))
       (ifB (o.cmp .eql a0 6)
        (bindR (f36 o fuel a3 a4 a6 a7 a8 a9 a10 a11 a20 a21) fun r => match r with
         | .v0 r97 r98 r99 r100 r101 r102 r103 => bindR (f116 o fuel a3 a4 r98 a12 a13 a14 a15 a16 a17 a18 a19 a22 a23) fun r => match r with
           | .v0 r104 r105 r106 r107 r108 r109 r110 => some (.v0 (o.cmp .eql r97 r104) r98 r99 r100 r101 r102 a12 a13 a14 r105 r106 r107 r108 a20 r103 r109 r110))
        (ifB (o.cmp .eql a0 7)
         (bindR (f37 o fuel a6 a7 a8 a9 a10 a11 a20 a21) fun r => match r with
          | .v0 r111 r112 => bindR (f117 o fuel a6 a12 a13 a14 a15 a16 a17 a18 a19 a22 a23) fun r => match r with
            | .v0 r113 r114 => some (.v0 (o.cmp .eql r111 r113) a6 a8 a9 a10 r112 a12 a13 a14 a15 a16 a17 r114 a20 a21 a22 a23))
         (some (.v0 true a6 a8 a9 a10 a11 a12 a13 a14 a15 a16 a17 a19 a20 a21 a22 a23)))))))))
theorem f51_call (o : Ops) (ho : o = stdOps) (fuel : Nat) (a0 : Int) (a1 a2 : ByteArray) (a3 a4 : Int) (a5 a6 : List AV) (a7 a8 a9 a10 : Int) (a11 : Bool) (a12 a13 a14 a15 a16 a17 a18 : Int) (a19 : Bool) (a20 : List (AV × AV)) (a21 a22 a23 : List AV) {R : F51R} (H : f51 o fuel a0 a1 a2 a3 a4 a5 a6 a7 a8 a9 a10 a11 a12 a13 a14 a15 a16 a17 a18 a19 a20 a21 a22 a23 = some R) (K : AV → List Ent → Prop) (E : AV → List Ent → Prop) (h : K R.av (F51R.hp a7 a18 R)) : CallA Try.prog 51 [.ptr 1 0, .ptr 2 0, .agg [.int .i64 a0, .str a1, .str a2, .int .i64 a3, .int .i64 a4, .sl 1 a5 .no]] [.fam 0 a6, .var [.int .i64 a7, .mp 3, .vs 4 3 a8 a9 a10, .bool a11], .var [.vs 5 2 a12 a13 a14, .vs 6 3 a15 a16 a17, .int .i64 a18, .bool a19], .mp a20, .vec 3 a21, .vec 2 a22, .vec 3 a23] K E := by
  refine call_wk fun K' hK => ?_
  refine call_keep (n₀ := 7) tab_ok Try.func51 rfl rfl rfl rfl ?_
  intro J hJ
  obtain rfl : o = J.o := by rw [ho, hJ]; rfl
  unfold f51 at H
  cbv
  repeat' (first
    | ((with_reducible refine awp_go2 ?_); cbv)
    | (refine KeepQ.tn _ (by first | exact .inl rfl | exact .inr rfl) (Turn.trans (Turn.trans (Turn.at 8 (turn_mv 1 2 4 3 rfl rfl rfl rfl (leN_t rfl)) rfl) (Turn.at 9 (turn_mv 2 0 5 2 rfl rfl rfl rfl (leN_t rfl)) rfl)) (Turn.at 10 (turn_mv 2 1 6 3 rfl rfl rfl rfl (leN_t rfl)) rfl)) [8, 9, 10] (by decide) ?_; cbv; cases H; refine hK _ _ _ _ ?_ ?_ rfl h <;> cbv)
    | (refine KeepQ.tn _ (by first | exact .inl rfl | exact .inr rfl) (Turn.trans (Turn.at 9 (turn_mv 1 2 4 3 rfl rfl rfl rfl (leN_t rfl)) rfl) (Turn.at 10 (turn_mv 2 1 6 3 rfl rfl rfl rfl (leN_t rfl)) rfl)) [9, 8, 10] (by decide) ?_; cbv; cases H; refine hK _ _ _ _ ?_ ?_ rfl h <;> cbv)
    | (refine KeepQ.tn _ (by first | exact .inl rfl | exact .inr rfl) (Turn.trans (Turn.at 9 (turn_mv 1 2 4 3 rfl rfl rfl rfl (leN_t rfl)) rfl) (Turn.at 10 (turn_mv 2 0 5 2 rfl rfl rfl rfl (leN_t rfl)) rfl)) [9, 10, 8] (by decide) ?_; cbv; cases H; refine hK _ _ _ _ ?_ ?_ rfl h <;> cbv)
    | (refine KeepQ.tn _ (by first | exact .inl rfl | exact .inr rfl) (Turn.at 10 (turn_mv 2 0 5 2 rfl rfl rfl rfl (leN_t rfl)) rfl) [8, 10, 9] (by decide) ?_; cbv; cases H; refine hK _ _ _ _ ?_ ?_ rfl h <;> cbv)
    | (refine KeepQ.tn _ (by first | exact .inl rfl | exact .inr rfl) (Turn.at 10 (turn_mv 1 2 4 3 rfl rfl rfl rfl (leN_t rfl)) rfl) [10, 8, 9] (by decide) ?_; cbv; cases H; refine hK _ _ _ _ ?_ ?_ rfl h <;> cbv)
    | (refine ifB_go H ?_ ?_ <;> clear H <;> intro hh H)
    | (obtain ⟨R, hR, H2⟩ := bindR_go H; refine call_in hJ [0, 2, 5, 6] (by decide) rfl rfl rfl (f110_call _ ho _ _ _ _ _ _ _ _ _ _ _ _ _ hR _ _ ?_); clear H hR; rcases R with ⟨_, _, _, _, _⟩; all_goals (replace H := H2; clear H2; (try dsimp only at H); cbv))
    | (obtain ⟨R, hR, H2⟩ := bindR_go H; refine call_in hJ [0, 1, 3, 4] (by decide) rfl rfl rfl (f63_call _ ho _ _ _ _ _ _ _ _ _ _ hR _ _ ?_); clear H hR; rcases R with ⟨_, _, _⟩; all_goals (replace H := H2; clear H2; (try dsimp only at H); cbv))
    | (obtain ⟨R, hR, H2⟩ := bindR_go H; refine call_in hJ [0, 2, 5, 6] (by decide) rfl rfl rfl (f111_call _ ho _ _ _ _ _ _ _ _ _ _ _ _ _ _ _ hR _ _ ?_); clear H hR; rcases R with ⟨_, _, _, _, _⟩; all_goals (replace H := H2; clear H2; (try dsimp only at H); cbv))
    | (obtain ⟨R, hR, H2⟩ := bindR_go H; refine call_in hJ [0, 1, 3, 4] (by decide) rfl rfl rfl (f34_call _ ho _ _ _ _ _ _ _ _ _ _ _ _ hR _ _ ?_); clear H hR; rcases R with ⟨_, _, _, _, _, _⟩; all_goals (replace H := H2; clear H2; (try dsimp only at H); cbv))
    | (obtain ⟨R, hR, H2⟩ := bindR_go H; refine call_in hJ [0, 2, 5, 6] (by decide) rfl rfl rfl (f112_call _ ho _ _ _ _ _ _ _ _ _ _ _ _ _ _ hR _ _ ?_); clear H hR; rcases R with ⟨_, _, _, _, _, _⟩; all_goals (replace H := H2; clear H2; (try dsimp only at H); cbv))
    | (obtain ⟨R, hR, H2⟩ := bindR_go H; refine call_in hJ [0, 1, 3, 4] (by decide) rfl rfl rfl (f64_call _ ho _ _ _ _ _ _ _ _ _ _ _ hR _ _ ?_); clear H hR; rcases R with ⟨_, _, _, _, _, _⟩; all_goals (replace H := H2; clear H2; (try dsimp only at H); cbv))
    | (obtain ⟨R, hR, H2⟩ := bindR_go H; refine call_in hJ [0, 2, 5, 6] (by decide) rfl rfl rfl (f113_call _ ho _ _ _ _ _ _ _ _ _ _ _ _ _ hR _ _ ?_); clear H hR; rcases R with ⟨_, _, _, _, _, _⟩; all_goals (replace H := H2; clear H2; (try dsimp only at H); cbv))
    | (obtain ⟨R, hR, H2⟩ := bindR_go H; refine call_in hJ [0, 1, 3, 4] (by decide) rfl rfl rfl (f33_call _ ho _ _ _ _ _ _ _ _ _ _ hR _ _ ?_); clear H hR; rcases R with ⟨_, _, _, _, _, _⟩; all_goals (replace H := H2; clear H2; (try dsimp only at H); cbv))
    | (obtain ⟨R, hR, H2⟩ := bindR_go H; refine call_in hJ [0, 2, 5, 6] (by decide) rfl rfl rfl (f114_call _ ho _ _ _ _ _ _ _ _ _ _ _ _ _ _ hR _ _ ?_); clear H hR; rcases R with ⟨_, _, _, _, _, _, _, _, _⟩; all_goals (replace H := H2; clear H2; (try dsimp only at H); cbv))
    | (obtain ⟨R, hR, H2⟩ := bindR_go H; refine call_in hJ [0, 1, 3, 4] (by decide) rfl rfl rfl (f65_call _ ho _ _ _ _ _ _ _ _ _ _ _ hR _ _ ?_); clear H hR; rcases R with ⟨_, _, _, _, _, _⟩; all_goals (replace H := H2; clear H2; (try dsimp only at H); cbv))
    | (obtain ⟨R, hR, H2⟩ := bindR_go H; refine call_in hJ [0, 2, 5, 6] (by decide) rfl rfl rfl (f115_call _ ho _ _ _ _ _ _ _ _ _ _ _ _ _ hR _ _ ?_); clear H hR; rcases R with ⟨_, _, _, _, _, _, _, _, _⟩; all_goals (replace H := H2; clear H2; (try dsimp only at H); cbv))
    | (obtain ⟨R, hR, H2⟩ := bindR_go H; refine call_in hJ [0, 1, 3, 4] (by decide) rfl rfl rfl (f66_call _ ho _ _ _ _ _ _ _ _ _ _ hR _ _ ?_); clear H hR; rcases R with ⟨_, _, _, _, _, _⟩; all_goals (replace H := H2; clear H2; (try dsimp only at H); cbv))
    | (obtain ⟨R, hR, H2⟩ := bindR_go H; refine call_in hJ [0, 2, 5, 6] (by decide) rfl rfl rfl (f116_call _ ho _ _ _ _ _ _ _ _ _ _ _ _ _ _ hR _ _ ?_); clear H hR; rcases R with ⟨_, _, _, _, _, _, _⟩; all_goals (replace H := H2; clear H2; (try dsimp only at H); cbv))
    | (obtain ⟨R, hR, H2⟩ := bindR_go H; refine call_in hJ [0, 1, 3, 4] (by decide) rfl rfl rfl (f36_call _ ho _ _ _ _ _ _ _ _ _ _ _ hR _ _ ?_); clear H hR; rcases R with ⟨_, _, _, _, _, _, _⟩; all_goals (replace H := H2; clear H2; (try dsimp only at H); cbv))
    | (obtain ⟨R, hR, H2⟩ := bindR_go H; refine call_in hJ [0, 2, 5, 6] (by decide) rfl rfl rfl (f117_call _ ho _ _ _ _ _ _ _ _ _ _ _ _ hR _ _ ?_); clear H hR; rcases R with ⟨_, _⟩; all_goals (replace H := H2; clear H2; (try dsimp only at H); cbv))
    | (obtain ⟨R, hR, H2⟩ := bindR_go H; refine call_in hJ [0, 1, 3, 4] (by decide) rfl rfl rfl (f37_call _ ho _ _ _ _ _ _ _ _ _ hR _ _ ?_); clear H hR; rcases R with ⟨_, _⟩; all_goals (replace H := H2; clear H2; (try dsimp only at H); cbv)))
end Go.Proofs.Ytjdbmfipciadfaa.A
