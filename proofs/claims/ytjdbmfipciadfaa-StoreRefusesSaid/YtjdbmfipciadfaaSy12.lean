/- Functions of the program and of the document's answer, as plain ones. Written by lift.py. -/import Derived.Test.YtjdbmfipciadfaaSy0
import Derived.Test.YtjdbmfipciadfaaSy11
import Derived.Test.YtjdbmfipciadfaaSy10
import Derived.Test.YtjdbmfipciadfaaSy4
import Derived.Test.YtjdbmfipciadfaaSy2
import Derived.Test.YtjdbmfipciadfaaSy1
namespace Go.Proofs.Ytjdbmfipciadfaa.A
open Go Go.Pt
set_option maxHeartbeats 4000000
set_option maxRecDepth 100000
inductive F111R where
  | v0 (y0 y1 y2 y3 : Int) (y4 : List AV)
def F111R.av : F111R → AV
  | .v0 y0 _ _ _ _ => .int .i64 y0
def F111R.hp (a3 : List AV) (a4 a5 a6 a10 : Int) (a11 : Bool) (a12 : List AV) : F111R → List Ent
  | .v0 _ y1 y2 y3 y4 => [.fam 0 a3, .var [.vs 2 2 a4 a5 a6, .vs 4 3 y1 y2 y3, .int .i64 a10, .bool a11], .vec 2 a12, .dead, .vec 3 y4]
noncomputable def f111 (o : Ops) (fuel : Nat) (a0 : ByteArray) (a1 : Int) (a2 a3 : List AV) (a4 a5 a6 a7 a8 a9 a10 : Int) (a11 : Bool) (a12 a13 : List AV) : Option F111R :=
  bindR (f144 o fuel a0 a3 a4 a5 a6 a7 a8 a9 a10 a11 a12 a13) fun r => match r with
  | .v0 r14 => ifB (o.bnot (o.cmp .eql r14 0))
    (some (.v0 r14 a7 a8 a9 a13))
    (bindR (f145 o fuel a0 a3 a4 a5 a6 a7 a8 a9 a10 a11 a12 a13) fun r => match r with
     | .v0 r15 => ifB (o.pick (o.cmp .lss a1 0) true (o.cmp .gtr a1 (o.len r15)))
       (some (.v0 33 a7 a8 a9 a13))
       (ifB (o.cmp .gtr (o.ar .sub .i64 (o.len a2) (o.ar .sub .i64 (o.len r15) a1)) 0)
        (bindR (f120 o fuel a3 a4 a5 a6 a7 a8 a9 a10 a11 a12 a13) fun r => match r with
         | .v0 r16 => ifB (o.cmp .gtr (o.ar .sub .i64 (o.len a2) (o.ar .sub .i64 (o.len r15) a1)) r16)
           (some (.v0 30 a7 a8 a9 a13))
           (ifB (o.cmp .gtr (o.len a2) 0)
            (req (o.room [] a2 1) <|
             req (o.is a7 0) <|
             req (o.le 0 a8) <|
             req (o.le a8 (o.len a13)) <|
             req (o.room (o.sub a13 0 a8) [.agg [.str a0, .int .i64 a1, .sl 1 (o.apnd [] a2) .no]] 48) <|
             some (.v0 0 0 (o.len (o.apnd (o.sub a13 0 a8) [.agg [.str a0, .int .i64 a1, .sl 1 (o.apnd [] a2) .no]])) (o.len (o.apnd (o.sub a13 0 a8) [.agg [.str a0, .int .i64 a1, .sl 1 (o.apnd [] a2) .no]])) (o.apnd (o.sub a13 0 a8) [.agg [.str a0, .int .i64 a1, .sl 1 (o.apnd [] a2) .no]])))
            (some (.v0 0 a7 a8 a9 a13))))
        (ifB (o.cmp .gtr (o.len a2) 0)
         (req (o.room [] a2 1) <|
          req (o.is a7 0) <|
          req (o.le 0 a8) <|
          req (o.le a8 (o.len a13)) <|
          req (o.room (o.sub a13 0 a8) [.agg [.str a0, .int .i64 a1, .sl 1 (o.apnd [] a2) .no]] 48) <|
          some (.v0 0 0 (o.len (o.apnd (o.sub a13 0 a8) [.agg [.str a0, .int .i64 a1, .sl 1 (o.apnd [] a2) .no]])) (o.len (o.apnd (o.sub a13 0 a8) [.agg [.str a0, .int .i64 a1, .sl 1 (o.apnd [] a2) .no]])) (o.apnd (o.sub a13 0 a8) [.agg [.str a0, .int .i64 a1, .sl 1 (o.apnd [] a2) .no]])))
         (some (.v0 0 a7 a8 a9 a13)))))
theorem f111_call (o : Ops) (ho : o = stdOps) (fuel : Nat) (a0 : ByteArray) (a1 : Int) (a2 a3 : List AV) (a4 a5 a6 a7 a8 a9 a10 : Int) (a11 : Bool) (a12 a13 : List AV) {R : F111R} (H : f111 o fuel a0 a1 a2 a3 a4 a5 a6 a7 a8 a9 a10 a11 a12 a13 = some R) (K : AV → List Ent → Prop) (E : AV → List Ent → Prop) (h : K R.av (F111R.hp a3 a4 a5 a6 a10 a11 a12 R)) : CallA Try.prog 111 [.ptr 1 0, .str a0, .int .i64 a1, .sl 1 a2 .no] [.fam 0 a3, .var [.vs 2 2 a4 a5 a6, .vs 3 3 a7 a8 a9, .int .i64 a10, .bool a11], .vec 2 a12, .vec 3 a13] K E := by
  refine call_wk fun K' hK => ?_
  refine call_keep (n₀ := 4) tab_ok Try.func111 rfl rfl rfl rfl ?_
  intro J hJ
  obtain rfl : o = J.o := by rw [ho, hJ]; rfl
  unfold f111 at H
  cbv
  repeat' (first
    | ((with_reducible first | refine awp_go2 ?_ | refine aops_go2 ?_ | refine strip_go2 ?_); cbv)
    | with_reducible exact id
    | (refine KeepQ.tn _ (by first | exact .inl rfl | exact .inr rfl) (Turn.at 4 (turn_mv 1 1 3 3 rfl rfl rfl rfl (leN_t rfl)) rfl) [4] (by decide) ?_; cbv; cases H; refine hK _ _ _ _ ?_ ?_ rfl h <;> cbv)
    | (refine KeepQ.mk [5] (by decide) ?_; cbv; cases H; refine hK _ _ _ _ ?_ ?_ rfl h <;> cbv)
    | (refine ifB_go H ?_ ?_ <;> clear H <;> intro hh H)
    | (refine req_go H ?_; clear H; intro hh H)
    | (obtain ⟨R, hR, H2⟩ := bindR_go H; refine call_in hJ [0, 1, 2, 3] (by decide) rfl rfl rfl (f120_call _ ho _ _ _ _ _ _ _ _ _ _ _ _ hR _ _ ?_); clear H hR; rcases R with ⟨_⟩; all_goals (replace H := H2; clear H2; (try dsimp only at H); cbv))
    | (obtain ⟨R, hR, H2⟩ := bindR_go H; refine call_in hJ [0, 1, 2, 3] (by decide) rfl rfl rfl (f145_call _ ho _ _ _ _ _ _ _ _ _ _ _ _ _ hR _ _ ?_); clear H hR; rcases R with ⟨_⟩; all_goals (replace H := H2; clear H2; (try dsimp only at H); cbv))
    | (obtain ⟨R, hR, H2⟩ := bindR_go H; refine call_in hJ [0, 1, 2, 3] (by decide) rfl rfl rfl (f144_call _ ho _ _ _ _ _ _ _ _ _ _ _ _ _ hR _ _ ?_); clear H hR; rcases R with ⟨_⟩; all_goals (replace H := H2; clear H2; (try dsimp only at H); cbv))
    | with_reducible refine And.intro ?_ ?_
    | (intro _; assumption))
inductive F64R where
  | v0 (y0 : Int) (y1 : List AV) (y2 y3 y4 : Int) (y5 : List AV)
def F64R.av : F64R → AV
  | .v0 y0 _ _ _ _ _ => .int .i64 y0
def F64R.hp (a3 : Int) (a7 : Bool) (a8 : List (AV × AV)) : F64R → List Ent
  | .v0 _ y1 y2 y3 y4 y5 => [.fam 0 y1, .var [.int .i64 a3, .mp 2, .vs 3 3 y2 y3 y4, .bool a7], .mp a8, .vec 3 y5]
noncomputable def f64 (o : Ops) (fuel : Nat) (a0 : ByteArray) (a1 : Int) (a2 : List AV) (a3 a4 a5 a6 : Int) (a7 : Bool) (a8 : List (AV × AV)) (a9 : List AV) : Option F64R :=
  bindR (f92 o fuel a0 a2 a3 a4 a5 a6 a7 a8 a9) fun r => match r with
  | .v0 r10 => ifB (o.bnot (o.cmp .eql r10 0))
    (some (.v0 r10 a2 a4 a5 a6 a9))
    (none)
  | .v1 r11 => ifB (o.bnot (o.cmp .eql 0 0))
    (some (.v0 0 a2 a4 a5 a6 a9))
    (bindR (f93_1 o fuel r11 a2 a3 a4 a5 a6 a7 a8 a9) fun r => match r with
     | .v0 r12 => ifB (o.pick (o.cmp .lss a1 0) true (o.cmp .gtr a1 (o.len r12)))
       (some (.v0 33 a2 a4 a5 a6 a9))
       (req (o.le 0 a1) <|
        req (o.le a1 a1) <|
        req (o.le a1 (o.len r12)) <|
        req (o.inb r11 (o.len a2)) <|
        getA (o.get a2 r11) fun e => sh147 e fun _ =>
        bindR (f94 o fuel r11 (o.upd a2 r11 (.agg [.sl 1 (o.sub r12 0 a1) .no])) a3 a4 a5 a6 a7 a8 a9) fun r => match r with
        | .v0 r14 r15 r16 r17 => some (.v0 0 (o.upd a2 r11 (.agg [.sl 1 (o.sub r12 0 a1) .no])) r14 r15 r16 r17)))
theorem f64_call (o : Ops) (ho : o = stdOps) (fuel : Nat) (a0 : ByteArray) (a1 : Int) (a2 : List AV) (a3 a4 a5 a6 : Int) (a7 : Bool) (a8 : List (AV × AV)) (a9 : List AV) {R : F64R} (H : f64 o fuel a0 a1 a2 a3 a4 a5 a6 a7 a8 a9 = some R) (K : AV → List Ent → Prop) (E : AV → List Ent → Prop) (h : K R.av (F64R.hp a3 a7 a8 R)) : CallA Try.prog 64 [.ptr 1 0, .str a0, .int .i64 a1] [.fam 0 a2, .var [.int .i64 a3, .mp 2, .vs 3 3 a4 a5 a6, .bool a7], .mp a8, .vec 3 a9] K E := by
  refine call_wk fun K' hK => ?_
  refine call_keep (n₀ := 4) tab_ok Try.func64 rfl rfl rfl rfl ?_
  intro J hJ
  obtain rfl : o = J.o := by rw [ho, hJ]; rfl
  unfold f64 at H
  cbv
  repeat' (first
    | ((with_reducible refine awp_go2 ?_); cbv)
    | with_reducible exact id
    | exact none_go H
    | (refine KeepQ.mk [] (by decide) ?_; cbv; cases H; refine hK _ _ _ _ ?_ ?_ rfl h <;> cbv)
    | (refine ifB_go H ?_ ?_ <;> clear H <;> intro hh H)
    | (refine req_go H ?_; clear H; intro hh H)
    | (refine tok_go ?_; cbv)
    | (refine sh147_get H ?_; clear H; intro _ he H; cbv)
    | (obtain ⟨R, hR, H2⟩ := bindR_go H; refine call_in hJ [0, 1, 2, 3] (by decide) rfl rfl rfl (f94_call _ ho _ _ _ _ _ _ _ _ _ _ hR _ _ ?_); clear H hR; rcases R with ⟨_, _, _, _⟩; all_goals (replace H := H2; clear H2; (try dsimp only at H); cbv))
    | (obtain ⟨R, hR, H2⟩ := bindR_go H; refine call_in hJ [0, 1, 2, 3] (by decide) rfl rfl rfl (f93_1_call _ ho _ _ _ _ _ _ _ _ _ _ hR _ _ ?_); clear H hR; rcases R with ⟨_⟩; all_goals (replace H := H2; clear H2; (try dsimp only at H); cbv))
    | (obtain ⟨R, hR, H2⟩ := bindR_go H; refine call_in hJ [0, 1, 2, 3] (by decide) rfl rfl rfl (f92_call _ ho _ _ _ _ _ _ _ _ _ _ hR _ _ ?_); clear H hR; rcases R with ⟨_⟩ | ⟨_⟩; all_goals (replace H := H2; clear H2; (try dsimp only at H); cbv))
    | with_reducible refine And.intro ?_ ?_)
end Go.Proofs.Ytjdbmfipciadfaa.A
