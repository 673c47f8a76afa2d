/- Functions of the program and of the document's answer, as plain ones. Written by lift.py. -/import Derived.Test.YtjdbmfipciadfaaSy0
import Derived.Test.YtjdbmfipciadfaaSy13
import Derived.Test.YtjdbmfipciadfaaSy9
import Derived.Test.YtjdbmfipciadfaaSy10
namespace Go.Proofs.Ytjdbmfipciadfaa.A
open Go Go.Pt
set_option maxHeartbeats 4000000
set_option maxRecDepth 100000
inductive F115R where
  | v0 (y0 y1 y2 y3 y4 y5 y6 : Int) (y7 y8 : List AV)
def F115R.av : F115R → AV
  | .v0 y0 _ _ _ _ _ _ _ _ => .int .i64 y0
def F115R.hp (a1 : List AV) (a8 : Int) (a9 : Bool) : F115R → List Ent
  | .v0 _ y1 y2 y3 y4 y5 y6 y7 y8 => [.fam 0 a1, .var [.vs 4 2 y1 y2 y3, .vs 5 3 y4 y5 y6, .int .i64 a8, .bool a9], .dead, .dead, .vec 2 y7, .vec 3 y8]
noncomputable def f115 (o : Ops) (fuel : Nat) (a0 : ByteArray) (a1 : List AV) (a2 a3 a4 a5 a6 a7 a8 : Int) (a9 : Bool) (a10 a11 : List AV) : Option F115R :=
  bindR (f144 o fuel a0 a1 a2 a3 a4 a5 a6 a7 a8 a9 a10 a11) fun r => match r with
  | .v0 r12 => ifB (o.bnot (o.cmp .eql r12 0))
    (some (.v0 r12 a2 a3 a4 a5 a6 a7 a10 a11))
    (bindR (f142 o fuel a0 a1 a2 a3 a4 a5 a6 a7 a8 a9 a10 a11) fun r => match r with
     | .v0 r13 => req (o.le 0 r13) <|
       req (o.le (o.sum a2 r13) a4) <|
       req (o.le 0 a2) <|
       req (o.le 0 r13) <|
       req (o.le (o.sum a2 r13) (o.len a10)) <|
       req (o.emp []) <|
       req (o.room [] (o.sub a10 a2 (o.sum a2 r13)) 40) <|
       req (o.le 0 (o.ar .add .i64 r13 1)) <|
       req (o.le (o.ar .add .i64 r13 1) a3) <|
       req (o.le 0 (o.sum a2 (o.ar .add .i64 r13 1))) <|
       req (o.le 0 (o.dif a3 (o.ar .add .i64 r13 1))) <|
       req (o.le (o.sum (o.sum a2 (o.ar .add .i64 r13 1)) (o.dif a3 (o.ar .add .i64 r13 1))) (o.len a10)) <|
       req (o.is 0 0) <|
       req (o.le 0 (o.len (o.sub a10 a2 (o.sum a2 r13)))) <|
       req (o.le (o.len (o.sub a10 a2 (o.sum a2 r13))) (o.len (o.sub a10 a2 (o.sum a2 r13)))) <|
       req (o.room (o.sub (o.sub a10 a2 (o.sum a2 r13)) 0 (o.len (o.sub a10 a2 (o.sum a2 r13)))) (o.sub a10 (o.sum a2 (o.ar .add .i64 r13 1)) (o.sum (o.sum a2 (o.ar .add .i64 r13 1)) (o.dif a3 (o.ar .add .i64 r13 1)))) 40) <|
       bindR (f146 o fuel a0 a1 0 (o.len (o.apnd (o.sub (o.sub a10 a2 (o.sum a2 r13)) 0 (o.len (o.sub a10 a2 (o.sum a2 r13)))) (o.sub a10 (o.sum a2 (o.ar .add .i64 r13 1)) (o.sum (o.sum a2 (o.ar .add .i64 r13 1)) (o.dif a3 (o.ar .add .i64 r13 1)))))) (o.len (o.apnd (o.sub (o.sub a10 a2 (o.sum a2 r13)) 0 (o.len (o.sub a10 a2 (o.sum a2 r13)))) (o.sub a10 (o.sum a2 (o.ar .add .i64 r13 1)) (o.sum (o.sum a2 (o.ar .add .i64 r13 1)) (o.dif a3 (o.ar .add .i64 r13 1)))))) a5 a6 a7 a8 a9 (o.apnd (o.sub (o.sub a10 a2 (o.sum a2 r13)) 0 (o.len (o.sub a10 a2 (o.sum a2 r13)))) (o.sub a10 (o.sum a2 (o.ar .add .i64 r13 1)) (o.sum (o.sum a2 (o.ar .add .i64 r13 1)) (o.dif a3 (o.ar .add .i64 r13 1))))) a11) fun r => match r with
       | .v0 r14 r15 r16 r17 => some (.v0 0 0 (o.len (o.apnd (o.sub (o.sub a10 a2 (o.sum a2 r13)) 0 (o.len (o.sub a10 a2 (o.sum a2 r13)))) (o.sub a10 (o.sum a2 (o.ar .add .i64 r13 1)) (o.sum (o.sum a2 (o.ar .add .i64 r13 1)) (o.dif a3 (o.ar .add .i64 r13 1)))))) (o.len (o.apnd (o.sub (o.sub a10 a2 (o.sum a2 r13)) 0 (o.len (o.sub a10 a2 (o.sum a2 r13)))) (o.sub a10 (o.sum a2 (o.ar .add .i64 r13 1)) (o.sum (o.sum a2 (o.ar .add .i64 r13 1)) (o.dif a3 (o.ar .add .i64 r13 1)))))) r14 r15 r16 (o.apnd (o.sub (o.sub a10 a2 (o.sum a2 r13)) 0 (o.len (o.sub a10 a2 (o.sum a2 r13)))) (o.sub a10 (o.sum a2 (o.ar .add .i64 r13 1)) (o.sum (o.sum a2 (o.ar .add .i64 r13 1)) (o.dif a3 (o.ar .add .i64 r13 1))))) r17))
theorem f115_call (o : Ops) (ho : o = stdOps) (fuel : Nat) (a0 : ByteArray) (a1 : List AV) (a2 a3 a4 a5 a6 a7 a8 : Int) (a9 : Bool) (a10 a11 : List AV) {R : F115R} (H : f115 o fuel a0 a1 a2 a3 a4 a5 a6 a7 a8 a9 a10 a11 = some R) (K : AV → List Ent → Prop) (E : AV → List Ent → Prop) (h : K R.av (F115R.hp a1 a8 a9 R)) : CallA Try.prog 115 [.ptr 1 0, .str a0] [.fam 0 a1, .var [.vs 2 2 a2 a3 a4, .vs 3 3 a5 a6 a7, .int .i64 a8, .bool a9], .vec 2 a10, .vec 3 a11] K E := by
  refine call_wk fun K' hK => ?_
  refine call_keep (n₀ := 4) tab_ok Try.func115 rfl rfl rfl rfl ?_
  intro J hJ
  obtain rfl : o = J.o := by rw [ho, hJ]; rfl
  unfold f115 at H
  cbv
  repeat' (first
    | ((with_reducible refine awp_go2 ?_); cbv)
    | (refine KeepQ.tn _ (by first | exact .inl rfl | exact .inr rfl) (Turn.trans (Turn.at 4 (turn_mv 1 0 2 2 rfl rfl rfl rfl (leN_t rfl)) rfl) (Turn.at 5 (turn_mv 1 1 3 3 rfl rfl rfl rfl (leN_t rfl)) rfl)) [4, 5] (by decide) ?_; cbv; cases H; refine hK _ _ _ _ ?_ ?_ rfl h <;> cbv)
    | (refine KeepQ.tn _ (by first | exact .inl rfl | exact .inr rfl) (Turn.trans (Turn.at 7 (turn_mvg 2 2 rfl (leN_t rfl)) rfl) (Turn.at 8 (turn_mvg 3 3 rfl (leN_t rfl)) rfl)) [5, 6] (by decide) ?_; cbv; cases H; refine hK _ _ _ _ ?_ ?_ rfl h <;> cbv)
    | (refine ifB_go H ?_ ?_ <;> clear H <;> intro hh H)
    | (with_reducible refine and3_go ?_)
    | (refine req_go H ?_; clear H; intro hh H)
    | (obtain ⟨R, hR, H2⟩ := bindR_go H; refine call_in hJ [0, 1, 5, 3] (by decide) rfl rfl rfl (f146_call _ ho _ _ _ _ _ _ _ _ _ _ _ _ _ hR _ _ ?_); clear H hR; rcases R with ⟨_, _, _, _⟩; all_goals (replace H := H2; clear H2; (try dsimp only at H); cbv))
    | (obtain ⟨R, hR, H2⟩ := bindR_go H; refine call_in hJ [0, 1, 2, 3] (by decide) rfl rfl rfl (f142_call _ ho _ _ _ _ _ _ _ _ _ _ _ _ _ hR _ _ ?_); clear H hR; rcases R with ⟨_⟩; all_goals (replace H := H2; clear H2; (try dsimp only at H); cbv))
    | (obtain ⟨R, hR, H2⟩ := bindR_go H; refine call_in hJ [0, 1, 2, 3] (by decide) rfl rfl rfl (f144_call _ ho _ _ _ _ _ _ _ _ _ _ _ _ _ hR _ _ ?_); clear H hR; rcases R with ⟨_⟩; all_goals (replace H := H2; clear H2; (try dsimp only at H); cbv)))
end Go.Proofs.Ytjdbmfipciadfaa.A
