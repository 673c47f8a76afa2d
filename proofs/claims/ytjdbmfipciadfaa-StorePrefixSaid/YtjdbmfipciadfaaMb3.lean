/- Functions of the program and of the document's answer, as plain ones. Written by lift.py. -/import Derived.Test.YtjdbmfipciadfaaMb1
import Derived.Test.YtjdbmfipciadfaaMb2
namespace Go.Proofs.Ytjdbmfipciadfaa.A
open Go Go.Pt
set_option maxHeartbeats 4000000
set_option maxRecDepth 100000
inductive F112R where
  | v0 (y0 y1 y2 y3 : Int) (y4 y5 : List AV)
def F112R.av : F112R → AV
  | .v0 y0 _ _ _ _ _ => .int .i64 y0
def F112R.hp (a2 : List AV) (a3 a4 a5 a9 : Int) (a10 : Bool) : F112R → List Ent
  | .v0 _ y1 y2 y3 y4 y5 => [.fam 0 a2, .var [.vs 2 2 a3 a4 a5, .vs 4 3 y1 y2 y3, .int .i64 a9, .bool a10], .vec 2 y4, .dead, .vec 3 y5]
noncomputable def f112 (o : Ops) (fuel : Nat) (a0 : ByteArray) (a1 : Int) (a2 : List AV) (a3 a4 a5 a6 a7 a8 a9 : Int) (a10 : Bool) (a11 a12 : List AV) : Option F112R :=
  bindR (f144 o fuel a0 a2 a3 a4 a5 a6 a7 a8 a9 a10 a11 a12) fun r => match r with
  | .v0 r13 => ifB (o.bnot (o.cmp .eql r13 0))
    (some (.v0 r13 a6 a7 a8 a11 a12))
    (ifB (o.cmp .lss a1 0)
     (some (.v0 33 a6 a7 a8 a11 a12))
     (bindR (f145 o fuel a0 a2 a3 a4 a5 a6 a7 a8 a9 a10 a11 a12) fun r => match r with
      | .v0 r14 => ifB (o.cmp .gtr a1 (o.len r14))
        (some (.v0 33 a6 a7 a8 a11 a12))
        (bindR (f113 o fuel a0 a2 a3 a4 a5 a6 a7 a8 a9 a10 a11 a12) fun r => match r with
         | .v0 _ r16 r17 r18 r19 r20 => bindR (f142 o fuel a0 a2 a3 a4 a5 r16 r17 r18 a9 a10 r19 r20) fun r => match r with
           | .v0 r21 => req (o.inb r21 a4) <|
             req (o.inb (o.sum a3 r21) (o.len r19)) <|
             getA (o.get r19 (o.sum a3 r21)) fun e => sh164 e fun _ v23 =>
             req (o.le 0 a1) <|
             req (o.le a1 a1) <|
             req (o.le a1 (o.len v23)) <|
             req (o.is a1 a1) <|
             req (o.inb r21 a4) <|
             req (o.inb (o.sum a3 r21) (o.len r19)) <|
             getA (o.get r19 (o.sum a3 r21)) fun e => sh164 e fun v24 _ =>
             some (.v0 0 r16 r17 r18 (o.upd r19 (o.sum a3 r21) (.agg [.str v24, .sl 1 (o.sub v23 0 a1) .no])) r20))))
theorem f112_call (o : Ops) (ho : o = stdOps) (fuel : Nat) (a0 : ByteArray) (a1 : Int) (a2 : List AV) (a3 a4 a5 a6 a7 a8 a9 : Int) (a10 : Bool) (a11 a12 : List AV) {R : F112R} (H : f112 o fuel a0 a1 a2 a3 a4 a5 a6 a7 a8 a9 a10 a11 a12 = some R) (K : AV → List Ent → Prop) (E : AV → List Ent → Prop) (h : K R.av (F112R.hp a2 a3 a4 a5 a9 a10 R)) : CallA Try.prog 112 [.ptr 1 0, .str a0, .int .i64 a1] [.fam 0 a2, .var [.vs 2 2 a3 a4 a5, .vs 3 3 a6 a7 a8, .int .i64 a9, .bool a10], .vec 2 a11, .vec 3 a12] K E := by
  refine call_wk fun K' hK => ?_
  refine call_keep (n₀ := 4) tab_ok Try.func112 rfl rfl rfl rfl ?_
  intro J hJ
  obtain rfl : o = J.o := by rw [ho, hJ]; rfl
  unfold f112 at H
  cbv
  repeat' (first
    | ((with_reducible first | refine awp_go2 ?_ | refine aops_go2 ?_ | refine strip_go2 ?_); cbv)
    | (refine KeepQ.tn _ (by first | exact .inl rfl | exact .inr rfl) (Turn.at 4 (turn_mv 1 1 3 3 rfl rfl rfl rfl (leN_t rfl)) rfl) [4] (by decide) ?_; cbv; cases H; refine hK _ _ _ _ ?_ ?_ rfl h <;> cbv)
    | (refine KeepQ.mk [4] (by decide) ?_; cbv; cases H; refine hK _ _ _ _ ?_ ?_ rfl h <;> cbv)
    | (refine ifB_go H ?_ ?_ <;> clear H <;> intro hh H)
    | (refine ifB_og H ?_ ?_ <;> clear H <;> intro hh H)
    | (refine req_go H ?_; clear H; intro hh H)
    | (refine sh164_get H ?_; clear H; intro _ _ he H; cbv)
    | (obtain ⟨R, hR, H2⟩ := bindR_go H; refine call_in hJ [0, 1, 2, 4] (by decide) rfl rfl rfl (f142_call _ ho _ _ _ _ _ _ _ _ _ _ _ _ _ hR _ _ ?_); clear H hR; rcases R with ⟨_⟩; all_goals (replace H := H2; clear H2; (try dsimp only at H); cbv))
    | (obtain ⟨R, hR, H2⟩ := bindR_go H; refine call_in hJ [0, 1, 2, 3] (by decide) rfl rfl rfl (f113_call _ ho _ _ _ _ _ _ _ _ _ _ _ _ _ hR _ _ ?_); clear H hR; rcases R with ⟨_, _, _, _, _, _⟩; all_goals (replace H := H2; clear H2; (try dsimp only at H); cbv))
    | (obtain ⟨R, hR, H2⟩ := bindR_go H; refine call_in hJ [0, 1, 2, 3] (by decide) rfl rfl rfl (f145_call _ ho _ _ _ _ _ _ _ _ _ _ _ _ _ hR _ _ ?_); clear H hR; rcases R with ⟨_⟩; all_goals (replace H := H2; clear H2; (try dsimp only at H); cbv))
    | (obtain ⟨R, hR, H2⟩ := bindR_go H; refine call_in hJ [0, 1, 2, 3] (by decide) rfl rfl rfl (f144_call _ ho _ _ _ _ _ _ _ _ _ _ _ _ _ hR _ _ ?_); clear H hR; rcases R with ⟨_⟩; all_goals (replace H := H2; clear H2; (try dsimp only at H); cbv))
    | with_reducible refine And.intro ?_ ?_
    | (intro _; clear H h; simp only [ho, stdOps] at *; simp_all))
inductive F65R where
  | v0 (y0 y1 y2 y3 : Int) (y4 : List (AV × AV)) (y5 : List AV)
def F65R.av : F65R → AV
  | .v0 y0 _ _ _ _ _ => .int .i64 y0
def F65R.hp (a2 : List AV) (a3 : Int) (a7 : Bool) : F65R → List Ent
  | .v0 _ y1 y2 y3 y4 y5 => [.fam 0 a2, .var [.int .i64 a3, .mp 2, .vs 3 3 y1 y2 y3, .bool a7], .mp y4, .vec 3 y5]
noncomputable def f65 (o : Ops) (fuel : Nat) (a0 a1 : ByteArray) (a2 : List AV) (a3 a4 a5 a6 : Int) (a7 : Bool) (a8 : List (AV × AV)) (a9 : List AV) : Option F65R :=
  bindR (f92 o fuel a0 a2 a3 a4 a5 a6 a7 a8 a9) fun r => match r with
  | .v0 r10 => ifB (o.bnot (o.cmp .eql r10 0))
    (some (.v0 r10 a4 a5 a6 a8 a9))
    (ifB (o.seq a1 ⟨#[]⟩)
     (some (.v0 31 a4 a5 a6 a8 a9))
     (ifB (o.seq a1 a0)
      (some (.v0 0 a4 a5 a6 a8 a9))
      (req (o.mok false [.str] a8) <|
       findA (o.mfind a8 (.str a1)) (fun e => sh142 e fun v11 =>
       bindR (f94 o fuel v11 a2 a3 a4 a5 a6 a7 a8 a9) fun r => match r with
        | .v0 r12 r13 r14 r15 => req (o.mok false [.str] a8) <|
          req (o.mok false [.str] (o.mdel a8 (.str a0))) <|
          some (.v0 0 r12 r13 r14 (o.mput (o.mdel a8 (.str a0)) (.str a1) (.nilp)) r15))
       (req (o.mok false [.str] a8) <|
        req (o.mok false [.str] (o.mdel a8 (.str a0))) <|
        some (.v0 0 a4 a5 a6 (o.mput (o.mdel a8 (.str a0)) (.str a1) (.nilp)) a9)))))
  | .v1 r16 => ifB (o.bnot (o.cmp .eql 0 0))
    (some (.v0 0 a4 a5 a6 a8 a9))
    (ifB (o.seq a1 ⟨#[]⟩)
     (some (.v0 31 a4 a5 a6 a8 a9))
     (ifB (o.seq a1 a0)
      (some (.v0 0 a4 a5 a6 a8 a9))
      (req (o.mok false [.str] a8) <|
       findA (o.mfind a8 (.str a1)) (fun e => sh142 e fun v17 =>
       bindR (f94 o fuel v17 a2 a3 a4 a5 a6 a7 a8 a9) fun r => match r with
        | .v0 r18 r19 r20 r21 => req (o.mok false [.str] a8) <|
          req (o.mok false [.str] (o.mdel a8 (.str a0))) <|
          some (.v0 0 r18 r19 r20 (o.mput (o.mdel a8 (.str a0)) (.str a1) (.fp 0 r16 0)) r21))
       (req (o.mok false [.str] a8) <|
        req (o.mok false [.str] (o.mdel a8 (.str a0))) <|
        some (.v0 0 a4 a5 a6 (o.mput (o.mdel a8 (.str a0)) (.str a1) (.fp 0 r16 0)) a9)))))
theorem f65_call (o : Ops) (ho : o = stdOps) (fuel : Nat) (a0 a1 : ByteArray) (a2 : List AV) (a3 a4 a5 a6 : Int) (a7 : Bool) (a8 : List (AV × AV)) (a9 : List AV) {R : F65R} (H : f65 o fuel a0 a1 a2 a3 a4 a5 a6 a7 a8 a9 = some R) (K : AV → List Ent → Prop) (E : AV → List Ent → Prop) (h : K R.av (F65R.hp a2 a3 a7 R)) : CallA Try.prog 65 [.ptr 1 0, .str a0, .str a1] [.fam 0 a2, .var [.int .i64 a3, .mp 2, .vs 3 3 a4 a5 a6, .bool a7], .mp a8, .vec 3 a9] K E := by
  refine call_wk fun K' hK => ?_
  refine call_keep (n₀ := 4) tab_ok Try.func65 rfl rfl rfl rfl ?_
  intro J hJ
  obtain rfl : o = J.o := by rw [ho, hJ]; rfl
  unfold f65 at H
  cbv
  repeat' (first
    | ((with_reducible refine awp_go2 ?_); cbv)
    | (refine KeepQ.mk [] (by decide) ?_; cbv; cases H; refine hK _ _ _ _ ?_ ?_ rfl h <;> cbv)
    | (first | refine known_t (kn_bnot_t ho rfl) ?_ | refine known_y (kn_bnot_t ho rfl) ?_)
    | (first | refine known_f (kn_bnot_f ho rfl) ?_ | refine known_x (kn_bnot_f ho rfl) ?_)
    | (refine ifB_go H ?_ ?_ <;> clear H <;> intro hh H)
    | (refine req_go H ?_; clear H; intro hh H)
    | (refine sh142_find H ?_ ?_ <;> clear H; (intro _ H; cbv); rotate_left; (intro H; cbv))
    | (obtain ⟨R, hR, H2⟩ := bindR_go H; refine call_in hJ [0, 1, 2, 3] (by decide) rfl rfl rfl (f94_call _ ho _ _ _ _ _ _ _ _ _ _ hR _ _ ?_); clear H hR; rcases R with ⟨_, _, _, _⟩; all_goals (replace H := H2; clear H2; (try dsimp only at H); cbv))
    | (obtain ⟨R, hR, H2⟩ := bindR_go H; refine call_in hJ [0, 1, 2, 3] (by decide) rfl rfl rfl (f92_call _ ho _ _ _ _ _ _ _ _ _ _ hR _ _ ?_); clear H hR; rcases R with ⟨_⟩ | ⟨_⟩; all_goals (replace H := H2; clear H2; (try dsimp only at H); cbv)))
end Go.Proofs.Ytjdbmfipciadfaa.A
namespace Go.Proofs.Ytjdbmfipciadfaa.A
open Go Go.Pt
set_option maxHeartbeats 4000000
set_option maxRecDepth 100000
inductive F115R where
  | v0 (y0 y1 y2 y3 y4 y5 y6 : Int) (y7 y8 : List AV)
def F115R.av : F115R → AV
  | .v0 y0 _ _ _ _ _ _ _ _ => .int .i64 y0
def F115R.hp (a1 : List AV) (a8 : Int) (a9 : Bool) : F115R → List Ent
  | .v0 _ y1 y2 y3 y4 y5 y6 y7 y8 => [.fam 0 a1, .var [.vs 4 2 y1 y2 y3, .vs 5 3 y4 y5 y6, .int .i64 a8, .bool a9], .dead, .dead, .vec 2 y7, .vec 3 y8]
noncomputable def f115 (o : Ops) (fuel : Nat) (a0 : ByteArray) (a1 : List AV) (a2 a3 a4 a5 a6 a7 a8 : Int) (a9 : Bool) (a10 a11 : List AV) : Option F115R :=
  bindR (f144 o fuel a0 a1 a2 a3 a4 a5 a6 a7 a8 a9 a10 a11) fun r => match r with
  | .v0 r12 => ifB (o.bnot (o.cmp .eql r12 0))
    (some (.v0 r12 a2 a3 a4 a5 a6 a7 a10 a11))
    (bindR (f142 o fuel a0 a1 a2 a3 a4 a5 a6 a7 a8 a9 a10 a11) fun r => match r with
     | .v0 r13 => req (o.le 0 r13) <|
       req (o.le (o.sum a2 r13) a4) <|
       req (o.le 0 a2) <|
       req (o.le 0 r13) <|
       req (o.le (o.sum a2 r13) (o.len a10)) <|
       req (o.emp []) <|
       req (o.room [] (o.sub a10 a2 (o.sum a2 r13)) 40) <|
       req (o.le 0 (o.ar .add .i64 r13 1)) <|
       req (o.le (o.ar .add .i64 r13 1) a3) <|
       req (o.le 0 (o.sum a2 (o.ar .add .i64 r13 1))) <|
       req (o.le 0 (o.dif a3 (o.ar .add .i64 r13 1))) <|
       req (o.le (o.sum (o.sum a2 (o.ar .add .i64 r13 1)) (o.dif a3 (o.ar .add .i64 r13 1))) (o.len a10)) <|
       req (o.is 0 0) <|
       req (o.le 0 (o.len (o.sub a10 a2 (o.sum a2 r13)))) <|
       req (o.le (o.len (o.sub a10 a2 (o.sum a2 r13))) (o.len (o.sub a10 a2 (o.sum a2 r13)))) <|
       req (o.room (o.sub (o.sub a10 a2 (o.sum a2 r13)) 0 (o.len (o.sub a10 a2 (o.sum a2 r13)))) (o.sub a10 (o.sum a2 (o.ar .add .i64 r13 1)) (o.sum (o.sum a2 (o.ar .add .i64 r13 1)) (o.dif a3 (o.ar .add .i64 r13 1)))) 40) <|
       bindR (f146 o fuel a0 a1 0 (o.len (o.apnd (o.sub (o.sub a10 a2 (o.sum a2 r13)) 0 (o.len (o.sub a10 a2 (o.sum a2 r13)))) (o.sub a10 (o.sum a2 (o.ar .add .i64 r13 1)) (o.sum (o.sum a2 (o.ar .add .i64 r13 1)) (o.dif a3 (o.ar .add .i64 r13 1)))))) (o.len (o.apnd (o.sub (o.sub a10 a2 (o.sum a2 r13)) 0 (o.len (o.sub a10 a2 (o.sum a2 r13)))) (o.sub a10 (o.sum a2 (o.ar .add .i64 r13 1)) (o.sum (o.sum a2 (o.ar .add .i64 r13 1)) (o.dif a3 (o.ar .add .i64 r13 1)))))) a5 a6 a7 a8 a9 (o.apnd (o.sub (o.sub a10 a2 (o.sum a2 r13)) 0 (o.len (o.sub a10 a2 (o.sum a2 r13)))) (o.sub a10 (o.sum a2 (o.ar .add .i64 r13 1)) (o.sum (o.sum a2 (o.ar .add .i64 r13 1)) (o.dif a3 (o.ar .add .i64 r13 1))))) a11) fun r => match r with
       | .v0 r14 r15 r16 r17 => some (.v0 0 0 (o.len (o.apnd (o.sub (o.sub a10 a2 (o.sum a2 r13)) 0 (o.len (o.sub a10 a2 (o.sum a2 r13)))) (o.sub a10 (o.sum a2 (o.ar .add .i64 r13 1)) (o.sum (o.sum a2 (o.ar .add .i64 r13 1)) (o.dif a3 (o.ar .add .i64 r13 1)))))) (o.len (o.apnd (o.sub (o.sub a10 a2 (o.sum a2 r13)) 0 (o.len (o.sub a10 a2 (o.sum a2 r13)))) (o.sub a10 (o.sum a2 (o.ar .add .i64 r13 1)) (o.sum (o.sum a2 (o.ar .add .i64 r13 1)) (o.dif a3 (o.ar .add .i64 r13 1)))))) r14 r15 r16 (o.apnd (o.sub (o.sub a10 a2 (o.sum a2 r13)) 0 (o.len (o.sub a10 a2 (o.sum a2 r13)))) (o.sub a10 (o.sum a2 (o.ar .add .i64 r13 1)) (o.sum (o.sum a2 (o.ar .add .i64 r13 1)) (o.dif a3 (o.ar .add .i64 r13 1))))) r17))
theorem f115_call (o : Ops) (ho : o = stdOps) (fuel : Nat) (a0 : ByteArray) (a1 : List AV) (a2 a3 a4 a5 a6 a7 a8 : Int) (a9 : Bool) (a10 a11 : List AV) {R : F115R} (H : f115 o fuel a0 a1 a2 a3 a4 a5 a6 a7 a8 a9 a10 a11 = some R) (K : AV → List Ent → Prop) (E : AV → List Ent → Prop) (h : K R.av (F115R.hp a1 a8 a9 R)) : CallA Try.prog 115 [.ptr 1 0, .str a0] [.fam 0 a1, .var [.vs 2 2 a2 a3 a4, .vs 3 3 a5 a6 a7, .int .i64 a8, .bool a9], .vec 2 a10, .vec 3 a11] K E := by
  refine call_wk fun K' hK => ?_
  refine call_keep (n₀ := 4) tab_ok Try.func115 rfl rfl rfl rfl ?_
  intro J hJ
  obtain rfl : o = J.o := by rw [ho, hJ]; rfl
  unfold f115 at H
  cbv
  repeat' (first
    | ((with_reducible refine awp_go2 ?_); cbv)
    | (refine KeepQ.tn _ (by first | exact .inl rfl | exact .inr rfl) (Turn.trans (Turn.at 4 (turn_mv 1 0 2 2 rfl rfl rfl rfl (leN_t rfl)) rfl) (Turn.at 5 (turn_mv 1 1 3 3 rfl rfl rfl rfl (leN_t rfl)) rfl)) [4, 5] (by decide) ?_; cbv; cases H; refine hK _ _ _ _ ?_ ?_ rfl h <;> cbv)
    | (refine KeepQ.tn _ (by first | exact .inl rfl | exact .inr rfl) (Turn.trans (Turn.at 7 (turn_mvg 2 2 rfl (leN_t rfl)) rfl) (Turn.at 8 (turn_mvg 3 3 rfl (leN_t rfl)) rfl)) [5, 6] (by decide) ?_; cbv; cases H; refine hK _ _ _ _ ?_ ?_ rfl h <;> cbv)
    | (refine ifB_go H ?_ ?_ <;> clear H <;> intro hh H)
    | (with_reducible refine and3_go ?_)
    | (refine req_go H ?_; clear H; intro hh H)
    | (obtain ⟨R, hR, H2⟩ := bindR_go H; refine call_in hJ [0, 1, 5, 3] (by decide) rfl rfl rfl (f146_call _ ho _ _ _ _ _ _ _ _ _ _ _ _ _ hR _ _ ?_); clear H hR; rcases R with ⟨_, _, _, _⟩; all_goals (replace H := H2; clear H2; (try dsimp only at H); cbv))
    | (obtain ⟨R, hR, H2⟩ := bindR_go H; refine call_in hJ [0, 1, 2, 3] (by decide) rfl rfl rfl (f142_call _ ho _ _ _ _ _ _ _ _ _ _ _ _ _ hR _ _ ?_); clear H hR; rcases R with ⟨_⟩; all_goals (replace H := H2; clear H2; (try dsimp only at H); cbv))
    | (obtain ⟨R, hR, H2⟩ := bindR_go H; refine call_in hJ [0, 1, 2, 3] (by decide) rfl rfl rfl (f144_call _ ho _ _ _ _ _ _ _ _ _ _ _ _ _ hR _ _ ?_); clear H hR; rcases R with ⟨_⟩; all_goals (replace H := H2; clear H2; (try dsimp only at H); cbv)))
end Go.Proofs.Ytjdbmfipciadfaa.A
namespace Go.Proofs.Ytjdbmfipciadfaa.A
open Go Go.Pt
set_option maxHeartbeats 4000000
set_option maxRecDepth 100000
inductive F114R where
  | v0 (y0 y1 y2 y3 y4 y5 y6 : Int) (y7 y8 : List AV)
def F114R.av : F114R → AV
  | .v0 y0 _ _ _ _ _ _ _ _ => .int .i64 y0
def F114R.hp (a2 : List AV) (a9 : Int) (a10 : Bool) : F114R → List Ent
  | .v0 _ y1 y2 y3 y4 y5 y6 y7 y8 => [.fam 0 a2, .var [.vs 4 2 y1 y2 y3, .vs 5 3 y4 y5 y6, .int .i64 a9, .bool a10], .dead, .dead, .vec 2 y7, .vec 3 y8]
inductive F114L0 where
  | x0 (y0 y1 : Int) (y2 : List AV)
noncomputable def f114_l0 (o : Ops) (fuel : Nat) (r20 r19 : Int) (r23 : List AV) (a0 a1 : ByteArray) (a2 : List AV) (r27 r28 r29 r21 a9 : Int) (a10 : Bool) (r30 : List AV) : Nat → Int → Int → Int → List AV → Option F114L0
  | 0, _, _, _, _ => none
  | n + 1, w40, w41, w42, w43 =>
    ifB (o.cmp .lss w42 r20)
    (req (o.inb w42 r20) <|
     req (o.inb (o.sum r19 w42) (o.len r23)) <|
     getA (o.get r23 (o.sum r19 w42)) fun e => sh158 e fun v44 v45 v46 =>
     ifB (o.seq v44 a0)
     (req (o.is 0 0) <|
      req (o.le 0 w40) <|
      req (o.le w40 (o.len w43)) <|
      req (o.room (o.sub w43 0 w40) [.agg [.str a1, .int .i64 v45, .sl 1 v46 .no]] 48) <|
      f114_l0 o fuel r20 r19 r23 a0 a1 a2 r27 r28 r29 r21 a9 a10 r30 n (o.len (o.apnd (o.sub w43 0 w40) [.agg [.str a1, .int .i64 v45, .sl 1 v46 .no]])) (o.len (o.apnd (o.sub w43 0 w40) [.agg [.str a1, .int .i64 v45, .sl 1 v46 .no]])) (o.ar .add .i64 w42 1) (o.apnd (o.sub w43 0 w40) [.agg [.str a1, .int .i64 v45, .sl 1 v46 .no]]))
     (req (o.is 0 0) <|
      req (o.le 0 w40) <|
      req (o.le w40 (o.len w43)) <|
      req (o.room (o.sub w43 0 w40) [.agg [.str v44, .int .i64 v45, .sl 1 v46 .no]] 48) <|
      f114_l0 o fuel r20 r19 r23 a0 a1 a2 r27 r28 r29 r21 a9 a10 r30 n (o.len (o.apnd (o.sub w43 0 w40) [.agg [.str v44, .int .i64 v45, .sl 1 v46 .no]])) (o.len (o.apnd (o.sub w43 0 w40) [.agg [.str v44, .int .i64 v45, .sl 1 v46 .no]])) (o.ar .add .i64 w42 1) (o.apnd (o.sub w43 0 w40) [.agg [.str v44, .int .i64 v45, .sl 1 v46 .no]])))
    (some (.x0 w40 w41 w43))
theorem f114_l0_go {J : Jd} {n₀ : Nat} (hJ : J = std Try.prog n₀) {o : Ops} (hJo : J.o = o) {fuel : Nat} {r20 r19 : Int} {r23 : List AV} {a0 a1 : ByteArray} {a2 : List AV} {r27 r28 r29 r21 a9 : Int} {a10 : Bool} {r30 : List AV} {w40i : Int} {w41i : Int} {w42i : Int} {w43i : List AV} {α : Type} {k : F114L0 → Option α} {r : α} {c : Code} {Q : Ex → St → Prop} {s : St}
    (H : bindR (f114_l0 o fuel r20 r19 r23 a0 a1 a2 r27 r28 r29 r21 a9 a10 r30 fuel w40i w41i w42i w43i) k = some r) (hn : n₀ ≤ 7) (hle : Turn n₀ s ⟨[(12, .int .i64 w42i), (11, .vs 4 3 0 w40i w41i), (2, .str a1), (1, .str a0), (0, .ptr 1 0)], [.fam 0 a2, .var [.vs 5 2 r27 r28 r29, .vs 6 3 r19 r20 r21, .int .i64 a9, .bool a10], .dead, .dead, .vec 3 w43i, .vec 2 r30, .vec 3 r23], 97⟩)
    (round : ∀ X, k X = some r → ∀ (n : Nat) (w40 : Int) (w41 : Int) (w42 : Int) (w43 : List AV), f114_l0 o fuel r20 r19 r23 a0 a1 a2 r27 r28 r29 r21 a9 a10 r30 (n + 1) w40 w41 w42 w43 = some X → ∀ N : St → Prop,
      (∀ (s' : St) (w40' : Int) (w41' : Int) (w42' : Int) (w43' : List AV), f114_l0 o fuel r20 r19 r23 a0 a1 a2 r27 r28 r29 r21 a9 a10 r30 n w40' w41' w42' w43' = some X → Turn n₀ s' ⟨[(12, .int .i64 w42'), (11, .vs 4 3 0 w40' w41'), (2, .str a1), (1, .str a0), (0, .ptr 1 0)], [.fam 0 a2, .var [.vs 5 2 r27 r28 r29, .vs 6 3 r19 r20 r21, .int .i64 a9, .bool a10], .dead, .dead, .vec 3 w43', .vec 2 r30, .vec 3 r23], 97⟩ → N s') → awp J tab c (thenQ N Q) ⟨[(12, .int .i64 w42), (11, .vs 4 3 0 w40 w41), (2, .str a1), (1, .str a0), (0, .ptr 1 0)], [.fam 0 a2, .var [.vs 5 2 r27 r28 r29, .vs 6 3 r19 r20 r21, .int .i64 a9, .bool a10], .dead, .dead, .vec 3 w43, .vec 2 r30, .vec 3 r23], 97⟩) : J.code (.loop c) Q s := by
  subst hJo
  obtain ⟨X, hX, HX⟩ := bindR_go H
  refine loop_turn_at (β := Nat × Int × Int × Int × List AV) hJ tab_ok (fun | (_, w40, w41, w42, w43) => ⟨[(12, .int .i64 w42), (11, .vs 4 3 0 w40 w41), (2, .str a1), (1, .str a0), (0, .ptr 1 0)], [.fam 0 a2, .var [.vs 5 2 r27 r28 r29, .vs 6 3 r19 r20 r21, .int .i64 a9, .bool a10], .dead, .dead, .vec 3 w43, .vec 2 r30, .vec 3 r23], 97⟩) (fun | (n, w40, w41, w42, w43) => f114_l0 J.o fuel r20 r19 r23 a0 a1 a2 r27 r28 r29 r21 a9 a10 r30 n w40 w41 w42 w43 = some X) (fun | (n, _, _, _, _) => n) (fuel, w40i, w41i, w42i, w43i) hX hle (by rintro ⟨_, _, _, _, _⟩; exact hn) ?_
  rintro ⟨n, w40, w41, w42, w43⟩ hb N hN
  rcases n with _ | n
  · exact none_go (show (none : Option F114L0) = some X from hb)
  exact round X HX n w40 w41 w42 w43 hb N fun s' w40' w41' w42' w43' h1 h2 => hN s' (n, w40', w41', w42', w43') h1 (Nat.lt_succ_self n) h2
inductive F114L1 where
  | x0 (y0 y1 : Int) (y2 : List AV)
noncomputable def f114_l1 (o : Ops) (fuel : Nat) (a7 a6 : Int) (a12 : List AV) (a0 a1 : ByteArray) (a2 : List AV) (r53 r54 r55 a8 a9 : Int) (a10 : Bool) (a11 r56 : List AV) : Nat → Int → Int → Int → List AV → Option F114L1
  | 0, _, _, _, _ => none
  | n + 1, w66, w67, w68, w69 =>
    ifB (o.cmp .lss w68 a7)
    (req (o.inb w68 a7) <|
     req (o.inb (o.sum a6 w68) (o.len a12)) <|
     getA (o.get a12 (o.sum a6 w68)) fun e => sh158 e fun v70 v71 v72 =>
     ifB (o.seq v70 a0)
     (req (o.is 0 0) <|
      req (o.le 0 w66) <|
      req (o.le w66 (o.len w69)) <|
      req (o.room (o.sub w69 0 w66) [.agg [.str a1, .int .i64 v71, .sl 1 v72 .no]] 48) <|
      f114_l1 o fuel a7 a6 a12 a0 a1 a2 r53 r54 r55 a8 a9 a10 a11 r56 n (o.len (o.apnd (o.sub w69 0 w66) [.agg [.str a1, .int .i64 v71, .sl 1 v72 .no]])) (o.len (o.apnd (o.sub w69 0 w66) [.agg [.str a1, .int .i64 v71, .sl 1 v72 .no]])) (o.ar .add .i64 w68 1) (o.apnd (o.sub w69 0 w66) [.agg [.str a1, .int .i64 v71, .sl 1 v72 .no]]))
     (req (o.is 0 0) <|
      req (o.le 0 w66) <|
      req (o.le w66 (o.len w69)) <|
      req (o.room (o.sub w69 0 w66) [.agg [.str v70, .int .i64 v71, .sl 1 v72 .no]] 48) <|
      f114_l1 o fuel a7 a6 a12 a0 a1 a2 r53 r54 r55 a8 a9 a10 a11 r56 n (o.len (o.apnd (o.sub w69 0 w66) [.agg [.str v70, .int .i64 v71, .sl 1 v72 .no]])) (o.len (o.apnd (o.sub w69 0 w66) [.agg [.str v70, .int .i64 v71, .sl 1 v72 .no]])) (o.ar .add .i64 w68 1) (o.apnd (o.sub w69 0 w66) [.agg [.str v70, .int .i64 v71, .sl 1 v72 .no]])))
    (some (.x0 w66 w67 w69))
theorem f114_l1_go {J : Jd} {n₀ : Nat} (hJ : J = std Try.prog n₀) {o : Ops} (hJo : J.o = o) {fuel : Nat} {a7 a6 : Int} {a12 : List AV} {a0 a1 : ByteArray} {a2 : List AV} {r53 r54 r55 a8 a9 : Int} {a10 : Bool} {a11 r56 : List AV} {w66i : Int} {w67i : Int} {w68i : Int} {w69i : List AV} {α : Type} {k : F114L1 → Option α} {r : α} {c : Code} {Q : Ex → St → Prop} {s : St}
    (H : bindR (f114_l1 o fuel a7 a6 a12 a0 a1 a2 r53 r54 r55 a8 a9 a10 a11 r56 fuel w66i w67i w68i w69i) k = some r) (hn : n₀ ≤ 6) (hle : Turn n₀ s ⟨[(12, .int .i64 w68i), (11, .vs 4 3 0 w66i w67i), (2, .str a1), (1, .str a0), (0, .ptr 1 0)], [.fam 0 a2, .var [.vs 5 2 r53 r54 r55, .vs 3 3 a6 a7 a8, .int .i64 a9, .bool a10], .vec 2 a11, .vec 3 a12, .vec 3 w69i, .vec 2 r56], 97⟩)
    (round : ∀ X, k X = some r → ∀ (n : Nat) (w66 : Int) (w67 : Int) (w68 : Int) (w69 : List AV), f114_l1 o fuel a7 a6 a12 a0 a1 a2 r53 r54 r55 a8 a9 a10 a11 r56 (n + 1) w66 w67 w68 w69 = some X → ∀ N : St → Prop,
      (∀ (s' : St) (w66' : Int) (w67' : Int) (w68' : Int) (w69' : List AV), f114_l1 o fuel a7 a6 a12 a0 a1 a2 r53 r54 r55 a8 a9 a10 a11 r56 n w66' w67' w68' w69' = some X → Turn n₀ s' ⟨[(12, .int .i64 w68'), (11, .vs 4 3 0 w66' w67'), (2, .str a1), (1, .str a0), (0, .ptr 1 0)], [.fam 0 a2, .var [.vs 5 2 r53 r54 r55, .vs 3 3 a6 a7 a8, .int .i64 a9, .bool a10], .vec 2 a11, .vec 3 a12, .vec 3 w69', .vec 2 r56], 97⟩ → N s') → awp J tab c (thenQ N Q) ⟨[(12, .int .i64 w68), (11, .vs 4 3 0 w66 w67), (2, .str a1), (1, .str a0), (0, .ptr 1 0)], [.fam 0 a2, .var [.vs 5 2 r53 r54 r55, .vs 3 3 a6 a7 a8, .int .i64 a9, .bool a10], .vec 2 a11, .vec 3 a12, .vec 3 w69, .vec 2 r56], 97⟩) : J.code (.loop c) Q s := by
  subst hJo
  obtain ⟨X, hX, HX⟩ := bindR_go H
  refine loop_turn_at (β := Nat × Int × Int × Int × List AV) hJ tab_ok (fun | (_, w66, w67, w68, w69) => ⟨[(12, .int .i64 w68), (11, .vs 4 3 0 w66 w67), (2, .str a1), (1, .str a0), (0, .ptr 1 0)], [.fam 0 a2, .var [.vs 5 2 r53 r54 r55, .vs 3 3 a6 a7 a8, .int .i64 a9, .bool a10], .vec 2 a11, .vec 3 a12, .vec 3 w69, .vec 2 r56], 97⟩) (fun | (n, w66, w67, w68, w69) => f114_l1 J.o fuel a7 a6 a12 a0 a1 a2 r53 r54 r55 a8 a9 a10 a11 r56 n w66 w67 w68 w69 = some X) (fun | (n, _, _, _, _) => n) (fuel, w66i, w67i, w68i, w69i) hX hle (by rintro ⟨_, _, _, _, _⟩; exact hn) ?_
  rintro ⟨n, w66, w67, w68, w69⟩ hb N hN
  rcases n with _ | n
  · exact none_go (show (none : Option F114L1) = some X from hb)
  exact round X HX n w66 w67 w68 w69 hb N fun s' w66' w67' w68' w69' h1 h2 => hN s' (n, w66', w67', w68', w69') h1 (Nat.lt_succ_self n) h2
noncomputable def f114 (o : Ops) (fuel : Nat) (a0 a1 : ByteArray) (a2 : List AV) (a3 a4 a5 a6 a7 a8 a9 : Int) (a10 : Bool) (a11 a12 : List AV) : Option F114R :=
  bindR (f144 o fuel a0 a2 a3 a4 a5 a6 a7 a8 a9 a10 a11 a12) fun r => match r with
  | .v0 r13 => ifB (o.bnot (o.cmp .eql r13 0))
    (some (.v0 r13 a3 a4 a5 a6 a7 a8 a11 a12))
    (ifB (o.seq a1 ⟨#[]⟩)
     (some (.v0 31 a3 a4 a5 a6 a7 a8 a11 a12))
     (ifB (o.seq a1 a0)
      (some (.v0 0 a3 a4 a5 a6 a7 a8 a11 a12))
      (bindR (f142 o fuel a1 a2 a3 a4 a5 a6 a7 a8 a9 a10 a11 a12) fun r => match r with
       | .v0 r14 => ifB (o.cmp .geq r14 0)
         (bindR (f115 o fuel a1 a2 a3 a4 a5 a6 a7 a8 a9 a10 a11 a12) fun r => match r with
          | .v0 _ r16 r17 r18 r19 r20 r21 r22 r23 => bindR (f142 o fuel a0 a2 r16 r17 r18 r19 r20 r21 a9 a10 r22 r23) fun r => match r with
            | .v0 r24 => req (o.inb r24 r17) <|
              req (o.inb (o.sum r16 r24) (o.len r22)) <|
              getA (o.get r22 (o.sum r16 r24)) fun e => sh164 e fun _ v26 =>
              req (o.le 0 r24) <|
              req (o.le (o.sum r16 r24) r18) <|
              req (o.le 0 r16) <|
              req (o.le 0 r24) <|
              req (o.le (o.sum r16 r24) (o.len r22)) <|
              req (o.emp []) <|
              req (o.room [] (o.sub r22 r16 (o.sum r16 r24)) 40) <|
              req (o.le 0 (o.ar .add .i64 r24 1)) <|
              req (o.le (o.ar .add .i64 r24 1) r17) <|
              req (o.le 0 (o.sum r16 (o.ar .add .i64 r24 1))) <|
              req (o.le 0 (o.dif r17 (o.ar .add .i64 r24 1))) <|
              req (o.le (o.sum (o.sum r16 (o.ar .add .i64 r24 1)) (o.dif r17 (o.ar .add .i64 r24 1))) (o.len r22)) <|
              req (o.is 0 0) <|
              req (o.le 0 (o.len (o.sub r22 r16 (o.sum r16 r24)))) <|
              req (o.le (o.len (o.sub r22 r16 (o.sum r16 r24))) (o.len (o.sub r22 r16 (o.sum r16 r24)))) <|
              req (o.room (o.sub (o.sub r22 r16 (o.sum r16 r24)) 0 (o.len (o.sub r22 r16 (o.sum r16 r24)))) (o.sub r22 (o.sum r16 (o.ar .add .i64 r24 1)) (o.sum (o.sum r16 (o.ar .add .i64 r24 1)) (o.dif r17 (o.ar .add .i64 r24 1)))) 40) <|
              bindR (f143 o fuel a1 v26 a2 0 (o.len (o.apnd (o.sub (o.sub r22 r16 (o.sum r16 r24)) 0 (o.len (o.sub r22 r16 (o.sum r16 r24)))) (o.sub r22 (o.sum r16 (o.ar .add .i64 r24 1)) (o.sum (o.sum r16 (o.ar .add .i64 r24 1)) (o.dif r17 (o.ar .add .i64 r24 1)))))) (o.len (o.apnd (o.sub (o.sub r22 r16 (o.sum r16 r24)) 0 (o.len (o.sub r22 r16 (o.sum r16 r24)))) (o.sub r22 (o.sum r16 (o.ar .add .i64 r24 1)) (o.sum (o.sum r16 (o.ar .add .i64 r24 1)) (o.dif r17 (o.ar .add .i64 r24 1)))))) r19 r20 r21 a9 a10 (o.apnd (o.sub (o.sub r22 r16 (o.sum r16 r24)) 0 (o.len (o.sub r22 r16 (o.sum r16 r24)))) (o.sub r22 (o.sum r16 (o.ar .add .i64 r24 1)) (o.sum (o.sum r16 (o.ar .add .i64 r24 1)) (o.dif r17 (o.ar .add .i64 r24 1))))) r23) fun r => match r with
              | .v0 r27 r28 r29 r30 => bindR (f114_l0 o fuel r20 r19 r23 a0 a1 a2 r27 r28 r29 r21 a9 a10 r30 fuel 0 0 0 []) fun r => match r with
                | .x0 y47 y48 y49 => some (.v0 0 r27 r28 r29 0 y47 y48 r30 y49))
         (bindR (f142 o fuel a0 a2 a3 a4 a5 a6 a7 a8 a9 a10 a11 a12) fun r => match r with
          | .v0 r50 => req (o.inb r50 a4) <|
            req (o.inb (o.sum a3 r50) (o.len a11)) <|
            getA (o.get a11 (o.sum a3 r50)) fun e => sh164 e fun _ v52 =>
            req (o.le 0 r50) <|
            req (o.le (o.sum a3 r50) a5) <|
            req (o.le 0 a3) <|
            req (o.le 0 r50) <|
            req (o.le (o.sum a3 r50) (o.len a11)) <|
            req (o.emp []) <|
            req (o.room [] (o.sub a11 a3 (o.sum a3 r50)) 40) <|
            req (o.le 0 (o.ar .add .i64 r50 1)) <|
            req (o.le (o.ar .add .i64 r50 1) a4) <|
            req (o.le 0 (o.sum a3 (o.ar .add .i64 r50 1))) <|
            req (o.le 0 (o.dif a4 (o.ar .add .i64 r50 1))) <|
            req (o.le (o.sum (o.sum a3 (o.ar .add .i64 r50 1)) (o.dif a4 (o.ar .add .i64 r50 1))) (o.len a11)) <|
            req (o.is 0 0) <|
            req (o.le 0 (o.len (o.sub a11 a3 (o.sum a3 r50)))) <|
            req (o.le (o.len (o.sub a11 a3 (o.sum a3 r50))) (o.len (o.sub a11 a3 (o.sum a3 r50)))) <|
            req (o.room (o.sub (o.sub a11 a3 (o.sum a3 r50)) 0 (o.len (o.sub a11 a3 (o.sum a3 r50)))) (o.sub a11 (o.sum a3 (o.ar .add .i64 r50 1)) (o.sum (o.sum a3 (o.ar .add .i64 r50 1)) (o.dif a4 (o.ar .add .i64 r50 1)))) 40) <|
            bindR (f143 o fuel a1 v52 a2 0 (o.len (o.apnd (o.sub (o.sub a11 a3 (o.sum a3 r50)) 0 (o.len (o.sub a11 a3 (o.sum a3 r50)))) (o.sub a11 (o.sum a3 (o.ar .add .i64 r50 1)) (o.sum (o.sum a3 (o.ar .add .i64 r50 1)) (o.dif a4 (o.ar .add .i64 r50 1)))))) (o.len (o.apnd (o.sub (o.sub a11 a3 (o.sum a3 r50)) 0 (o.len (o.sub a11 a3 (o.sum a3 r50)))) (o.sub a11 (o.sum a3 (o.ar .add .i64 r50 1)) (o.sum (o.sum a3 (o.ar .add .i64 r50 1)) (o.dif a4 (o.ar .add .i64 r50 1)))))) a6 a7 a8 a9 a10 (o.apnd (o.sub (o.sub a11 a3 (o.sum a3 r50)) 0 (o.len (o.sub a11 a3 (o.sum a3 r50)))) (o.sub a11 (o.sum a3 (o.ar .add .i64 r50 1)) (o.sum (o.sum a3 (o.ar .add .i64 r50 1)) (o.dif a4 (o.ar .add .i64 r50 1))))) a12) fun r => match r with
            | .v0 r53 r54 r55 r56 => bindR (f114_l1 o fuel a7 a6 a12 a0 a1 a2 r53 r54 r55 a8 a9 a10 a11 r56 fuel 0 0 0 []) fun r => match r with
              | .x0 y73 y74 y75 => some (.v0 0 r53 r54 r55 0 y73 y74 r56 y75)))))
theorem f114_call (o : Ops) (ho : o = stdOps) (fuel : Nat) (a0 a1 : ByteArray) (a2 : List AV) (a3 a4 a5 a6 a7 a8 a9 : Int) (a10 : Bool) (a11 a12 : List AV) {R : F114R} (H : f114 o fuel a0 a1 a2 a3 a4 a5 a6 a7 a8 a9 a10 a11 a12 = some R) (K : AV → List Ent → Prop) (E : AV → List Ent → Prop) (h : K R.av (F114R.hp a2 a9 a10 R)) : CallA Try.prog 114 [.ptr 1 0, .str a0, .str a1] [.fam 0 a2, .var [.vs 2 2 a3 a4 a5, .vs 3 3 a6 a7 a8, .int .i64 a9, .bool a10], .vec 2 a11, .vec 3 a12] K E := by
  refine call_wk fun K' hK => ?_
  refine call_keep (n₀ := 4) tab_ok Try.func114 rfl rfl rfl rfl ?_
  intro J hJ
  obtain rfl : o = J.o := by rw [ho, hJ]; rfl
  unfold f114 at H
  cbv
  repeat' (first
    | ((with_reducible refine awp_go2 ?_); cbv)
    | (cases H; replace H := HX1; clear HX1; (try dsimp only at H))
    | (cases H; replace H := HX0; clear HX0; (try dsimp only at H))
    | (refine KeepQ.tn _ (by first | exact .inl rfl | exact .inr rfl) (Turn.trans (Turn.at 4 (turn_mv 1 0 2 2 rfl rfl rfl rfl (leN_t rfl)) rfl) (Turn.at 5 (turn_mv 1 1 3 3 rfl rfl rfl rfl (leN_t rfl)) rfl)) [4, 5] (by decide) ?_; cbv; cases H; refine hK _ _ _ _ ?_ ?_ rfl h <;> cbv)
    | (refine KeepQ.tn _ (by first | exact .inl rfl | exact .inr rfl) (Turn.trans (Turn.at 6 (turn_mvg 2 2 rfl (leN_t rfl)) rfl) (Turn.at 7 (turn_mvg 3 3 rfl (leN_t rfl)) rfl)) [5, 4] (by decide) ?_; cbv; cases H; refine hK _ _ _ _ ?_ ?_ rfl h <;> cbv)
    | (refine KeepQ.mk [5, 4] (by decide) ?_; cbv; cases H; refine hK _ _ _ _ ?_ ?_ rfl h <;> cbv)
    | (refine hN0 _ _ _ _ _ H (Turn.trans (Turn.pack [8, 5, 6] (by decide) (leN_t rfl)) (Turn.le ⟨?_, ?_, rfl, rfl⟩ (leN_t rfl))) <;> (cbv; (repeat' (first | exact trivial | exact rfl | apply And.intro)); done))
    | (refine hN1 _ _ _ _ _ H (Turn.trans (Turn.pack [7, 5] (by decide) (leN_t rfl)) (Turn.le ⟨?_, ?_, rfl, rfl⟩ (leN_t rfl))) <;> (cbv; (repeat' (first | exact trivial | exact rfl | apply And.intro)); done))
    | (refine ifB_go H ?_ ?_ <;> clear H <;> intro hh H)
    | (with_reducible refine and3_go ?_)
    | (refine req_go H ?_; clear H; intro hh H)
    | (refine sh158_get H ?_; clear H; intro _ _ _ he H; cbv)
    | (refine sh164_get H ?_; clear H; intro _ _ he H; cbv)
    | (obtain ⟨R, hR, H2⟩ := bindR_go H; refine call_in hJ [0, 1, 8, 5] (by decide) rfl rfl rfl (f143_call _ ho _ _ _ _ _ _ _ _ _ _ _ _ _ _ hR _ _ ?_); clear H hR; rcases R with ⟨_, _, _, _⟩; all_goals (replace H := H2; clear H2; (try dsimp only at H); cbv))
    | (obtain ⟨R, hR, H2⟩ := bindR_go H; refine call_in hJ [0, 1, 4, 5] (by decide) rfl rfl rfl (f142_call _ ho _ _ _ _ _ _ _ _ _ _ _ _ _ hR _ _ ?_); clear H hR; rcases R with ⟨_⟩; all_goals (replace H := H2; clear H2; (try dsimp only at H); cbv))
    | (obtain ⟨R, hR, H2⟩ := bindR_go H; refine call_in hJ [0, 1, 2, 3] (by decide) rfl rfl rfl (f115_call _ ho _ _ _ _ _ _ _ _ _ _ _ _ _ hR _ _ ?_); clear H hR; rcases R with ⟨_, _, _, _, _, _, _, _, _⟩; all_goals (replace H := H2; clear H2; (try dsimp only at H); cbv))
    | (obtain ⟨R, hR, H2⟩ := bindR_go H; refine call_in hJ [0, 1, 6, 3] (by decide) rfl rfl rfl (f143_call _ ho _ _ _ _ _ _ _ _ _ _ _ _ _ _ hR _ _ ?_); clear H hR; rcases R with ⟨_, _, _, _⟩; all_goals (replace H := H2; clear H2; (try dsimp only at H); cbv))
    | (obtain ⟨R, hR, H2⟩ := bindR_go H; refine call_in hJ [0, 1, 2, 3] (by decide) rfl rfl rfl (f142_call _ ho _ _ _ _ _ _ _ _ _ _ _ _ _ hR _ _ ?_); clear H hR; rcases R with ⟨_⟩; all_goals (replace H := H2; clear H2; (try dsimp only at H); cbv))
    | (obtain ⟨R, hR, H2⟩ := bindR_go H; refine call_in hJ [0, 1, 2, 3] (by decide) rfl rfl rfl (f144_call _ ho _ _ _ _ _ _ _ _ _ _ _ _ _ hR _ _ ?_); clear H hR; rcases R with ⟨_⟩; all_goals (replace H := H2; clear H2; (try dsimp only at H); cbv))
    | (refine f114_l0_go hJ (o := J.o) rfl H (by decide) (Turn.trans (turn_nilr 11 3 rfl (leN_t rfl)) (Turn.trans (Turn.pack [10, 9, 5] (by decide) (leN_t rfl)) (Turn.le ⟨?_, ?_, rfl, rfl⟩ (leN_t rfl)))) ?_
       · cbv; (repeat' (first | exact trivial | exact rfl | apply And.intro))
       · cbv; (repeat' (first | exact trivial | exact rfl | apply And.intro))
       clear H
       intro X0 HX0 n _ _ _ _ H Nx0 hN0
       rw [f114_l0] at H
       cbv)
    | (refine f114_l1_go hJ (o := J.o) rfl H (by decide) (Turn.trans (turn_nilr 11 3 rfl (leN_t rfl)) (Turn.trans (Turn.pack [8, 7] (by decide) (leN_t rfl)) (Turn.le ⟨?_, ?_, rfl, rfl⟩ (leN_t rfl)))) ?_
       · cbv; (repeat' (first | exact trivial | exact rfl | apply And.intro))
       · cbv; (repeat' (first | exact trivial | exact rfl | apply And.intro))
       clear H
       intro X1 HX1 n _ _ _ _ H Nx1 hN1
       rw [f114_l1] at H
       cbv))
end Go.Proofs.Ytjdbmfipciadfaa.A
namespace Go.Proofs.Ytjdbmfipciadfaa.A
open Go Go.Pt
set_option maxHeartbeats 4000000
set_option maxRecDepth 100000
inductive F138_1R where
  | v0 (y0 : Bool)
def F138_1R.av : F138_1R → AV
  | .v0 y0 => .bool y0
def F138_1R.hp (a3 : List AV) : F138_1R → List Ent
  | .v0 _ => [.fam 0 a3, .var [.nilp]]
noncomputable def f138_1 (_o : Ops) (_fuel : Nat) (_a0 _a1 : Int) (_a2 _a3 : List AV) : Option F138_1R :=
  some (.v0 false)
theorem f138_1_call (o : Ops) (ho : o = stdOps) (fuel : Nat) (a0 a1 : Int) (a2 a3 : List AV) {R : F138_1R} (H : f138_1 o fuel a0 a1 a2 a3 = some R) (K : AV → List Ent → Prop) (E : AV → List Ent → Prop) (h : K R.av (F138_1R.hp a3 R)) : CallA Try.prog 138 [.agg [.fp 0 a0 0, .int .i64 a1, .sl 1 a2 .no], .ptr 1 0] [.fam 0 a3, .var [.nilp]] K E := by
  refine call_wk fun K' hK => ?_
  refine call_keep (n₀ := 2) tab_ok Try.func138 rfl rfl rfl rfl ?_
  intro J hJ
  obtain rfl : o = J.o := by rw [ho, hJ]; rfl
  unfold f138_1 at H
  cbv
  repeat' (first
    | (refine KeepQ.mk [] (by decide) ?_; cbv; cases H; refine hK _ _ _ _ ?_ ?_ rfl h <;> cbv))
inductive F157_1R where
  | v0 (y0 : Int)
def F157_1R.av : F157_1R → AV
  | .v0 y0 => .int .i64 y0
def F157_1R.hp (a3 a4 : List AV) : F157_1R → List Ent
  | .v0 _ => [.fam 0 a3, .vec 3 a4, .var [.nilp]]
inductive F157_1L0 where
  | x0 (y0 : Int)
  | x1
noncomputable def f157_1_l0 (o : Ops) (fuel : Nat) (a1 a0 : Int) (a4 a3 : List AV) (a2 : Int) : Nat → Int → Option F157_1L0
  | 0, _ => none
  | n + 1, w9 =>
    ifB (o.cmp .lss w9 a1)
    (req (o.inb w9 a1) <|
     req (o.inb (o.sum a0 w9) (o.len a4)) <|
     getA (o.get a4 (o.sum a0 w9)) fun e => sh150 e fun v10 v11 v12 =>
     bindR (f138_1 o fuel v10 v11 v12 a3) fun r => match r with
     | .v0 r13 => ifB r13
       (some (.x0 w9))
       (f157_1_l0 o fuel a1 a0 a4 a3 a2 n (o.ar .add .i64 w9 1)))
    (some (.x1 ))
theorem f157_1_l0_go {J : Jd} {n₀ : Nat} (hJ : J = std Try.prog n₀) {o : Ops} (hJo : J.o = o) {fuel : Nat} {a1 a0 : Int} {a4 a3 : List AV} {a2 : Int} {w9i : Int} {α : Type} {k : F157_1L0 → Option α} {r : α} {c : Code} {Q : Ex → St → Prop} {s : St}
    (H : bindR (f157_1_l0 o fuel a1 a0 a4 a3 a2 fuel w9i) k = some r) (hn : n₀ ≤ 3) (hle : Le s ⟨[(8, .int .i64 w9i), (7, .int .i64 a1), (1, .func 138 [.ptr 2 0]), (0, .vs 1 3 a0 a1 a2)], [.fam 0 a3, .vec 3 a4, .var [.nilp]], 19⟩)
    (round : ∀ X, k X = some r → ∀ (n : Nat) (w9 : Int), f157_1_l0 o fuel a1 a0 a4 a3 a2 (n + 1) w9 = some X → ∀ N : St → Prop,
      (∀ (env : List (Nat × AV)) (w9' : Int) (v : List Ent), f157_1_l0 o fuel a1 a0 a4 a3 a2 n w9' = some X → wkEnv env [(8, .int .i64 w9'), (7, .int .i64 a1), (1, .func 138 [.ptr 2 0]), (0, .vs 1 3 a0 a1 a2)] → N ⟨env, [.fam 0 a3, .vec 3 a4, .var [.nilp]] ++ v, 19⟩) → awp J tab c (thenQ N Q) ⟨[(8, .int .i64 w9), (7, .int .i64 a1), (1, .func 138 [.ptr 2 0]), (0, .vs 1 3 a0 a1 a2)], [.fam 0 a3, .vec 3 a4, .var [.nilp]], 19⟩) : J.code (.loop c) Q s := by
  subst hJo
  obtain ⟨X, hX, HX⟩ := bindR_go H
  refine loop_at (β := Nat × Int) hJ tab_ok (fun | (_, w9) => ⟨[(8, .int .i64 w9), (7, .int .i64 a1), (1, .func 138 [.ptr 2 0]), (0, .vs 1 3 a0 a1 a2)], [.fam 0 a3, .vec 3 a4, .var [.nilp]], 19⟩) (fun | (n, w9) => f157_1_l0 J.o fuel a1 a0 a4 a3 a2 n w9 = some X) (fun | (n, _) => n) (fuel, w9i) hX hle (by rintro ⟨_, _⟩; exact hn) ?_
  rintro ⟨n, w9⟩ hb N hN
  rcases n with _ | n
  · exact none_go (show (none : Option F157_1L0) = some X from hb)
  exact round X HX n w9 hb N fun env w9' v h1 h2 => hN _ (n, w9') h1 (Nat.lt_succ_self n) ⟨h2, by first | (cbv; done) | (cbv; repeat' (first | exact trivial | exact rfl | apply And.intro)), rfl, rfl⟩
noncomputable def f157_1 (o : Ops) (fuel : Nat) (a0 a1 a2 : Int) (a3 a4 : List AV) : Option F157_1R :=
  bindR (f157_1_l0 o fuel a1 a0 a4 a3 a2 fuel 0) fun r => match r with
  | .x0 y14 => some (.v0 y14)
  | .x1  => some (.v0 (-1))
theorem f157_1_call (o : Ops) (ho : o = stdOps) (fuel : Nat) (a0 a1 a2 : Int) (a3 a4 : List AV) {R : F157_1R} (H : f157_1 o fuel a0 a1 a2 a3 a4 = some R) (K : AV → List Ent → Prop) (E : AV → List Ent → Prop) (h : K R.av (F157_1R.hp a3 a4 R)) : CallA Try.prog 157 [.vs 1 3 a0 a1 a2, .func 138 [.ptr 2 0]] [.fam 0 a3, .vec 3 a4, .var [.nilp]] K E := by
  refine call_wk fun K' hK => ?_
  refine call_keep (n₀ := 3) tab_ok Try.func157 rfl rfl rfl rfl ?_
  intro J hJ
  obtain rfl : o = J.o := by rw [ho, hJ]; rfl
  unfold f157_1 at H
  cbv
  repeat' (first
    | ((with_reducible refine awp_go2 ?_); cbv)
    | (cases H; replace H := HX0; clear HX0; (try dsimp only at H))
    | (refine KeepQ.mk [] (by decide) ?_; cbv; cases H; refine hK _ _ _ _ ?_ ?_ rfl h <;> cbv)
    | (refine hN0 _ _ _ H ?_; with_reducible refine wkEnv_go2 ?_; cbv)
    | (refine ifB_go H ?_ ?_ <;> clear H <;> intro hh H)
    | (refine req_go H ?_; clear H; intro hh H)
    | (refine sh150_get H ?_; clear H; intro _ _ _ he H; cbv)
    | (obtain ⟨R, hR, H2⟩ := bindR_go H; refine call_in hJ [0, 2] (by decide) rfl rfl rfl (f138_1_call _ ho _ _ _ _ _ hR _ _ ?_); clear H hR; rcases R with ⟨_⟩; all_goals (replace H := H2; clear H2; (try dsimp only at H); cbv))
    | (refine f157_1_l0_go hJ (o := J.o) rfl H (by decide) ⟨?_, ?_, rfl, rfl⟩ ?_
       · cbv; (repeat' (first | exact trivial | exact rfl | apply And.intro))
       · cbv; (repeat' (first | exact trivial | exact rfl | apply And.intro))
       clear H
       intro X0 HX0 n _ H Nx0 hN0
       rw [f157_1_l0] at H
       cbv))
inductive F137_1R where
  | v0 (y0 y1 y2 : Int) (y3 : List AV)
def F137_1R.av : F137_1R → AV
  | .v0 y0 y1 y2 _ => .vs 1 3 y0 y1 y2
def F137_1R.hp (a3 : List AV) : F137_1R → List Ent
  | .v0 _ _ _ y3 => [.fam 0 a3, .vec 3 y3, .var [.nilp]]
inductive F137_1L0 where
  | x0 (y0 : Int) (y1 : List AV)
noncomputable def f137_1_l0 (o : Ops) (fuel : Nat) (a1 a0 : Int) (a3 : List AV) (a2 : Int) : Nat → Int → Int → List AV → Option F137_1L0
  | 0, _, _, _ => none
  | n + 1, w10, w11, w12 =>
    ifB (o.cmp .lss w11 a1)
    (req (o.inb w11 a1) <|
     req (o.inb (o.sum a0 w11) (o.len w12)) <|
     getA (o.get w12 (o.sum a0 w11)) fun e => sh150 e fun v13 v14 v15 =>
     bindR (f138_1 o fuel v13 v14 v15 a3) fun r => match r with
     | .v0 r16 => ifB (o.bnot r16)
       (req (o.inb w10 a1) <|
        req (o.inb (o.sum a0 w10) (o.len w12)) <|
        f137_1_l0 o fuel a1 a0 a3 a2 n (o.ar .add .i64 w10 1) (o.ar .add .i64 w11 1) (o.upd w12 (o.sum a0 w10) (.agg [.fp 0 v13 0, .int .i64 v14, .sl 1 v15 .no])))
       (f137_1_l0 o fuel a1 a0 a3 a2 n w10 (o.ar .add .i64 w11 1) w12))
    (some (.x0 w10 w12))
theorem f137_1_l0_go {J : Jd} {n₀ : Nat} (hJ : J = std Try.prog n₀) {o : Ops} (hJo : J.o = o) {fuel : Nat} {a1 a0 : Int} {a3 : List AV} {a2 : Int} {w10i : Int} {w11i : Int} {w12i : List AV} {α : Type} {k : F137_1L0 → Option α} {r : α} {c : Code} {Q : Ex → St → Prop} {s : St}
    (H : bindR (f137_1_l0 o fuel a1 a0 a3 a2 fuel w10i w11i w12i) k = some r) (hn : n₀ ≤ 3) (hle : Le s ⟨[(6, .int .i64 w11i), (5, .int .i64 w10i), (1, .func 138 [.ptr 2 0]), (0, .vs 1 3 a0 a1 a2)], [.fam 0 a3, .vec 3 w12i, .var [.nilp]], 42⟩)
    (round : ∀ X, k X = some r → ∀ (n : Nat) (w10 : Int) (w11 : Int) (w12 : List AV), f137_1_l0 o fuel a1 a0 a3 a2 (n + 1) w10 w11 w12 = some X → ∀ N : St → Prop,
      (∀ (env : List (Nat × AV)) (w10' : Int) (w11' : Int) (w12' : List AV) (v : List Ent), f137_1_l0 o fuel a1 a0 a3 a2 n w10' w11' w12' = some X → wkEnv env [(6, .int .i64 w11'), (5, .int .i64 w10'), (1, .func 138 [.ptr 2 0]), (0, .vs 1 3 a0 a1 a2)] → N ⟨env, [.fam 0 a3, .vec 3 w12', .var [.nilp]] ++ v, 42⟩) → awp J tab c (thenQ N Q) ⟨[(6, .int .i64 w11), (5, .int .i64 w10), (1, .func 138 [.ptr 2 0]), (0, .vs 1 3 a0 a1 a2)], [.fam 0 a3, .vec 3 w12, .var [.nilp]], 42⟩) : J.code (.loop c) Q s := by
  subst hJo
  obtain ⟨X, hX, HX⟩ := bindR_go H
  refine loop_at (β := Nat × Int × Int × List AV) hJ tab_ok (fun | (_, w10, w11, w12) => ⟨[(6, .int .i64 w11), (5, .int .i64 w10), (1, .func 138 [.ptr 2 0]), (0, .vs 1 3 a0 a1 a2)], [.fam 0 a3, .vec 3 w12, .var [.nilp]], 42⟩) (fun | (n, w10, w11, w12) => f137_1_l0 J.o fuel a1 a0 a3 a2 n w10 w11 w12 = some X) (fun | (n, _, _, _) => n) (fuel, w10i, w11i, w12i) hX hle (by rintro ⟨_, _, _, _⟩; exact hn) ?_
  rintro ⟨n, w10, w11, w12⟩ hb N hN
  rcases n with _ | n
  · exact none_go (show (none : Option F137_1L0) = some X from hb)
  exact round X HX n w10 w11 w12 hb N fun env w10' w11' w12' v h1 h2 => hN _ (n, w10', w11', w12') h1 (Nat.lt_succ_self n) ⟨h2, by first | (cbv; done) | (cbv; repeat' (first | exact trivial | exact rfl | apply And.intro)), rfl, rfl⟩
noncomputable def f137_1 (o : Ops) (fuel : Nat) (a0 a1 a2 : Int) (a3 a4 : List AV) : Option F137_1R :=
  bindR (f157_1 o fuel a0 a1 a2 a3 a4) fun r => match r with
  | .v0 r5 => ifB (o.cmp .eql r5 (-1))
    (some (.v0 a0 a1 a2 a4))
    (bindR (f137_1_l0 o fuel a1 a0 a3 a2 fuel r5 (o.ar .add .i64 r5 1) a4) fun r => match r with
     | .x0 y17 y18 => req (o.le 0 y17) <|
       req (o.le y17 a1) <|
       req (o.le 0 (o.sum a0 y17)) <|
       req (o.le 0 (o.dif a1 y17)) <|
       req (o.le (o.sum (o.sum a0 y17) (o.dif a1 y17)) (o.len y18)) <|
       req (o.le 0 y17) <|
       req (o.le (o.sum a0 y17) a2) <|
       some (.v0 a0 y17 a2 (o.lay y18 (o.sum a0 y17) (o.rep (o.dif a1 y17) (.agg [.nilp, .int .i64 0, .nils])))))
theorem f137_1_call (o : Ops) (ho : o = stdOps) (fuel : Nat) (a0 a1 a2 : Int) (a3 a4 : List AV) {R : F137_1R} (H : f137_1 o fuel a0 a1 a2 a3 a4 = some R) (K : AV → List Ent → Prop) (E : AV → List Ent → Prop) (h : K R.av (F137_1R.hp a3 R)) : CallA Try.prog 137 [.vs 1 3 a0 a1 a2, .func 138 [.ptr 2 0]] [.fam 0 a3, .vec 3 a4, .var [.nilp]] K E := by
  refine call_wk fun K' hK => ?_
  refine call_keep (n₀ := 3) tab_ok Try.func137 rfl rfl rfl rfl ?_
  intro J hJ
  obtain rfl : o = J.o := by rw [ho, hJ]; rfl
  unfold f137_1 at H
  cbv
  repeat' (first
    | ((with_reducible refine awp_go2 ?_); cbv)
    | (cases H; replace H := HX0; clear HX0; (try dsimp only at H))
    | (refine KeepQ.mk [] (by decide) ?_; cbv; cases H; refine hK _ _ _ _ ?_ ?_ rfl h <;> cbv)
    | (refine hN0 _ _ _ _ _ H ?_; with_reducible refine wkEnv_go2 ?_; cbv)
    | (refine ifB_go H ?_ ?_ <;> clear H <;> intro hh H)
    | (refine req_go H ?_; clear H; intro hh H)
    | (refine sh150_get H ?_; clear H; intro _ _ _ he H; cbv)
    | (obtain ⟨R, hR, H2⟩ := bindR_go H; refine call_in hJ [0, 2] (by decide) rfl rfl rfl (f138_1_call _ ho _ _ _ _ _ hR _ _ ?_); clear H hR; rcases R with ⟨_⟩; all_goals (replace H := H2; clear H2; (try dsimp only at H); cbv))
    | (obtain ⟨R, hR, H2⟩ := bindR_go H; refine call_in hJ [0, 1, 2] (by decide) rfl rfl rfl (f157_1_call _ ho _ _ _ _ _ _ hR _ _ ?_); clear H hR; rcases R with ⟨_⟩; all_goals (replace H := H2; clear H2; (try dsimp only at H); cbv))
    | (refine f137_1_l0_go hJ (o := J.o) rfl H (by decide) ⟨?_, ?_, rfl, rfl⟩ ?_
       · cbv; (repeat' (first | exact trivial | exact rfl | apply And.intro))
       · cbv; (repeat' (first | exact trivial | exact rfl | apply And.intro))
       clear H
       intro X0 HX0 n _ _ _ H Nx0 hN0
       rw [f137_1_l0] at H
       cbv))
inductive F94_1R where
  | v0 (y0 y1 y2 : Int) (y3 : List AV)
def F94_1R.av : F94_1R → AV
  | .v0 _ _ _ _ => .tup []
def F94_1R.hp (a0 : List AV) (a1 : Int) (a5 : Bool) (a6 : List (AV × AV)) : F94_1R → List Ent
  | .v0 y0 y1 y2 y3 => [.fam 0 a0, .var [.int .i64 a1, .mp 2, .vs 3 3 y0 y1 y2, .bool a5], .mp a6, .vec 3 y3]
noncomputable def f94_1 (o : Ops) (fuel : Nat) (a0 : List AV) (_a1 a2 a3 a4 : Int) (_a5 : Bool) (_a6 : List (AV × AV)) (a7 : List AV) : Option F94_1R :=
  bindR (f137_1 o fuel a2 a3 a4 a0 a7) fun r => match r with
  | .v0 r8 r9 r10 r11 => some (.v0 r8 r9 r10 r11)
theorem f94_1_call (o : Ops) (ho : o = stdOps) (fuel : Nat) (a0 : List AV) (a1 a2 a3 a4 : Int) (a5 : Bool) (a6 : List (AV × AV)) (a7 : List AV) {R : F94_1R} (H : f94_1 o fuel a0 a1 a2 a3 a4 a5 a6 a7 = some R) (K : AV → List Ent → Prop) (E : AV → List Ent → Prop) (h : K R.av (F94_1R.hp a0 a1 a5 a6 R)) : CallA Try.prog 94 [.ptr 1 0, .nilp] [.fam 0 a0, .var [.int .i64 a1, .mp 2, .vs 3 3 a2 a3 a4, .bool a5], .mp a6, .vec 3 a7] K E := by
  refine call_wk fun K' hK => ?_
  refine call_keep (n₀ := 4) tab_ok Try.func94 rfl rfl rfl rfl ?_
  intro J hJ
  obtain rfl : o = J.o := by rw [ho, hJ]; rfl
  unfold f94_1 at H
  cbv
  repeat' (first
    | (refine KeepQ.mk [] (by decide) ?_; cbv; cases H; refine hK _ _ _ _ ?_ ?_ rfl h <;> cbv)
    | (obtain ⟨R, hR, H2⟩ := bindR_go H; refine call_in hJ [0, 3, 4] (by decide) rfl rfl rfl (f137_1_call _ ho _ _ _ _ _ _ hR _ _ ?_); clear H hR; rcases R with ⟨_, _, _, _⟩; all_goals (replace H := H2; clear H2; (try dsimp only at H); cbv)))
end Go.Proofs.Ytjdbmfipciadfaa.A
namespace Go.Proofs.Ytjdbmfipciadfaa.A
open Go Go.Pt
set_option maxHeartbeats 4000000
set_option maxRecDepth 100000
inductive F66R where
  | v0 (y0 y1 y2 y3 : Int) (y4 : List (AV × AV)) (y5 : List AV)
def F66R.av : F66R → AV
  | .v0 y0 _ _ _ _ _ => .int .i64 y0
def F66R.hp (a1 : List AV) (a2 : Int) (a6 : Bool) : F66R → List Ent
  | .v0 _ y1 y2 y3 y4 y5 => [.fam 0 a1, .var [.int .i64 a2, .mp 2, .vs 3 3 y1 y2 y3, .bool a6], .mp y4, .vec 3 y5]
noncomputable def f66 (o : Ops) (fuel : Nat) (a0 : ByteArray) (a1 : List AV) (a2 a3 a4 a5 : Int) (a6 : Bool) (a7 : List (AV × AV)) (a8 : List AV) : Option F66R :=
  bindR (f92 o fuel a0 a1 a2 a3 a4 a5 a6 a7 a8) fun r => match r with
  | .v0 r9 => ifB (o.bnot (o.cmp .eql r9 0))
    (some (.v0 r9 a3 a4 a5 a7 a8))
    (bindR (f94_1 o fuel a1 a2 a3 a4 a5 a6 a7 a8) fun r => match r with
     | .v0 r10 r11 r12 r13 => req (o.mok false [.str] a7) <|
       some (.v0 0 r10 r11 r12 (o.mdel a7 (.str a0)) r13))
  | .v1 r14 => ifB (o.bnot (o.cmp .eql 0 0))
    (some (.v0 0 a3 a4 a5 a7 a8))
    (bindR (f94 o fuel r14 a1 a2 a3 a4 a5 a6 a7 a8) fun r => match r with
     | .v0 r15 r16 r17 r18 => req (o.mok false [.str] a7) <|
       some (.v0 0 r15 r16 r17 (o.mdel a7 (.str a0)) r18))
theorem f66_call (o : Ops) (ho : o = stdOps) (fuel : Nat) (a0 : ByteArray) (a1 : List AV) (a2 a3 a4 a5 : Int) (a6 : Bool) (a7 : List (AV × AV)) (a8 : List AV) {R : F66R} (H : f66 o fuel a0 a1 a2 a3 a4 a5 a6 a7 a8 = some R) (K : AV → List Ent → Prop) (E : AV → List Ent → Prop) (h : K R.av (F66R.hp a1 a2 a6 R)) : CallA Try.prog 66 [.ptr 1 0, .str a0] [.fam 0 a1, .var [.int .i64 a2, .mp 2, .vs 3 3 a3 a4 a5, .bool a6], .mp a7, .vec 3 a8] K E := by
  refine call_wk fun K' hK => ?_
  refine call_keep (n₀ := 4) tab_ok Try.func66 rfl rfl rfl rfl ?_
  intro J hJ
  obtain rfl : o = J.o := by rw [ho, hJ]; rfl
  unfold f66 at H
  cbv
  repeat' (first
    | ((with_reducible refine awp_go2 ?_); cbv)
    | (refine KeepQ.mk [] (by decide) ?_; cbv; cases H; refine hK _ _ _ _ ?_ ?_ rfl h <;> cbv)
    | (refine ifB_go H ?_ ?_ <;> clear H <;> intro hh H)
    | (refine req_go H ?_; clear H; intro hh H)
    | (obtain ⟨R, hR, H2⟩ := bindR_go H; refine call_in hJ [0, 1, 2, 3] (by decide) rfl rfl rfl (f94_1_call _ ho _ _ _ _ _ _ _ _ _ hR _ _ ?_); clear H hR; rcases R with ⟨_, _, _, _⟩; all_goals (replace H := H2; clear H2; (try dsimp only at H); cbv))
    | (obtain ⟨R, hR, H2⟩ := bindR_go H; refine call_in hJ [0, 1, 2, 3] (by decide) rfl rfl rfl (f94_call _ ho _ _ _ _ _ _ _ _ _ _ hR _ _ ?_); clear H hR; rcases R with ⟨_, _, _, _⟩; all_goals (replace H := H2; clear H2; (try dsimp only at H); cbv))
    | (obtain ⟨R, hR, H2⟩ := bindR_go H; refine call_in hJ [0, 1, 2, 3] (by decide) rfl rfl rfl (f92_call _ ho _ _ _ _ _ _ _ _ _ _ hR _ _ ?_); clear H hR; rcases R with ⟨_⟩ | ⟨_⟩; all_goals (replace H := H2; clear H2; (try dsimp only at H); cbv)))
inductive F116R where
  | v0 (y0 y1 y2 y3 : Int) (y4 : Bool) (y5 y6 : List AV)
def F116R.av : F116R → AV
  | .v0 y0 _ _ _ _ _ _ => .int .i64 y0
def F116R.hp (a2 : List AV) (a3 a4 a5 a9 : Int) : F116R → List Ent
  | .v0 _ y1 y2 y3 y4 y5 y6 => [.fam 0 a2, .var [.vs 2 2 a3 a4 a5, .vs 4 3 y1 y2 y3, .int .i64 a9, .bool y4], .vec 2 y5, .dead, .vec 3 y6]
inductive F116L0 where
  | x0 (y0 : List AV)
noncomputable def f116_l0 (o : Ops) (fuel : Nat) (a7 a6 : Int) (a12 : List AV) (a0 a1 : Int) (a2 : List AV) (a3 a4 a5 a8 a9 : Int) (a10 : Bool) : Nat → Int → List AV → Option F116L0
  | 0, _, _ => none
  | n + 1, w40, w41 =>
    ifB (o.cmp .lss w40 a7)
    (req (o.inb w40 a7) <|
     req (o.inb (o.sum a6 w40) (o.len a12)) <|
     getA (o.get a12 (o.sum a6 w40)) fun e => sh158 e fun _ _ v44 =>
     ifB (o.cmp .eql w40 (o.ar .rem .i64 (o.mx (o.mx a0 (o.neg .i64 a0)) 0) (o.ar .add .i64 a7 1)))
     (req (o.nz (o.ar .add .i64 (o.len v44) 1)) <|
      req (o.le 0 (o.ar .rem .i64 (o.mx (o.mx a1 (o.neg .i64 a1)) 0) (o.ar .add .i64 (o.len v44) 1))) <|
      req (o.le (o.ar .rem .i64 (o.mx (o.mx a1 (o.neg .i64 a1)) 0) (o.ar .add .i64 (o.len v44) 1)) (o.len v44)) <|
      ifB (o.cmp .leq w40 (o.ar .rem .i64 (o.mx (o.mx a0 (o.neg .i64 a0)) 0) (o.ar .add .i64 a7 1)))
      (req (o.inb w40 a7) <|
       req (o.inb (o.sum a6 w40) (o.len a12)) <|
       getA (o.get a12 (o.sum a6 w40)) fun e => sh158 e fun v45 _ _ =>
       bindR (f142 o fuel v45 a2 a3 a4 a5 a6 a7 a8 a9 a10 w41 a12) fun r => match r with
       | .v0 r48 => req (o.inb r48 a4) <|
         req (o.inb (o.sum a3 r48) (o.len w41)) <|
         getA (o.get w41 (o.sum a3 r48)) fun e => sh164 e fun _ v50 =>
         req (o.inb w40 a7) <|
         req (o.inb (o.sum a6 w40) (o.len a12)) <|
         getA (o.get a12 (o.sum a6 w40)) fun e => sh158 e fun _ v52 _ =>
         bindR (f147 o fuel v50 v52 (o.sub v44 0 (o.ar .rem .i64 (o.mx (o.mx a1 (o.neg .i64 a1)) 0) (o.ar .add .i64 (o.len v44) 1))) a2) fun r => match r with
         | .v0 r54 => req (o.inb r48 a4) <|
           req (o.inb (o.sum a3 r48) (o.len w41)) <|
           getA (o.get w41 (o.sum a3 r48)) fun e => sh164 e fun v55 _ =>
           f116_l0 o fuel a7 a6 a12 a0 a1 a2 a3 a4 a5 a8 a9 a10 n (o.ar .add .i64 w40 1) (o.upd w41 (o.sum a3 r48) (.agg [.str v55, .sl 1 r54 .no])))
      (f116_l0 o fuel a7 a6 a12 a0 a1 a2 a3 a4 a5 a8 a9 a10 n (o.ar .add .i64 w40 1) w41))
     (ifB (o.cmp .leq w40 (o.ar .rem .i64 (o.mx (o.mx a0 (o.neg .i64 a0)) 0) (o.ar .add .i64 a7 1)))
      (req (o.inb w40 a7) <|
       req (o.inb (o.sum a6 w40) (o.len a12)) <|
       getA (o.get a12 (o.sum a6 w40)) fun e => sh158 e fun v57 _ _ =>
       bindR (f142 o fuel v57 a2 a3 a4 a5 a6 a7 a8 a9 a10 w41 a12) fun r => match r with
       | .v0 r60 => req (o.inb r60 a4) <|
         req (o.inb (o.sum a3 r60) (o.len w41)) <|
         getA (o.get w41 (o.sum a3 r60)) fun e => sh164 e fun _ v62 =>
         req (o.inb w40 a7) <|
         req (o.inb (o.sum a6 w40) (o.len a12)) <|
         getA (o.get a12 (o.sum a6 w40)) fun e => sh158 e fun _ v64 _ =>
         bindR (f147 o fuel v62 v64 v44 a2) fun r => match r with
         | .v0 r66 => req (o.inb r60 a4) <|
           req (o.inb (o.sum a3 r60) (o.len w41)) <|
           getA (o.get w41 (o.sum a3 r60)) fun e => sh164 e fun v67 _ =>
           f116_l0 o fuel a7 a6 a12 a0 a1 a2 a3 a4 a5 a8 a9 a10 n (o.ar .add .i64 w40 1) (o.upd w41 (o.sum a3 r60) (.agg [.str v67, .sl 1 r66 .no])))
      (f116_l0 o fuel a7 a6 a12 a0 a1 a2 a3 a4 a5 a8 a9 a10 n (o.ar .add .i64 w40 1) w41)))
    (some (.x0 w41))
theorem f116_l0_go {J : Jd} {n₀ : Nat} (hJ : J = std Try.prog n₀) {o : Ops} (hJo : J.o = o) {fuel : Nat} {a7 a6 : Int} {a12 : List AV} {a0 a1 : Int} {a2 : List AV} {a3 a4 a5 a8 a9 : Int} {a10 : Bool} {w40i : Int} {w41i : List AV} {α : Type} {k : F116L0 → Option α} {r : α} {c : Code} {Q : Ex → St → Prop} {s : St}
    (H : bindR (f116_l0 o fuel a7 a6 a12 a0 a1 a2 a3 a4 a5 a8 a9 a10 fuel w40i w41i) k = some r) (hn : n₀ ≤ 4) (hle : Le s ⟨[(8, .int .i64 w40i), (7, .int .i64 (o.ar .rem .i64 (o.mx (o.mx a0 (o.neg .i64 a0)) 0) (o.ar .add .i64 a7 1))), (2, .int .i64 a1), (0, .ptr 1 0)], [.fam 0 a2, .var [.vs 2 2 a3 a4 a5, .vs 3 3 a6 a7 a8, .int .i64 a9, .bool a10], .vec 2 w41i, .vec 3 a12], 100⟩)
    (round : ∀ X, k X = some r → ∀ (n : Nat) (w40 : Int) (w41 : List AV), f116_l0 o fuel a7 a6 a12 a0 a1 a2 a3 a4 a5 a8 a9 a10 (n + 1) w40 w41 = some X → ∀ N : St → Prop,
      (∀ (env : List (Nat × AV)) (w40' : Int) (w41' : List AV) (v : List Ent), f116_l0 o fuel a7 a6 a12 a0 a1 a2 a3 a4 a5 a8 a9 a10 n w40' w41' = some X → wkEnv env [(8, .int .i64 w40'), (7, .int .i64 (o.ar .rem .i64 (o.mx (o.mx a0 (o.neg .i64 a0)) 0) (o.ar .add .i64 a7 1))), (2, .int .i64 a1), (0, .ptr 1 0)] → N ⟨env, [.fam 0 a2, .var [.vs 2 2 a3 a4 a5, .vs 3 3 a6 a7 a8, .int .i64 a9, .bool a10], .vec 2 w41', .vec 3 a12] ++ v, 100⟩) → awp J tab c (thenQ N Q) ⟨[(8, .int .i64 w40), (7, .int .i64 (o.ar .rem .i64 (o.mx (o.mx a0 (o.neg .i64 a0)) 0) (o.ar .add .i64 a7 1))), (2, .int .i64 a1), (0, .ptr 1 0)], [.fam 0 a2, .var [.vs 2 2 a3 a4 a5, .vs 3 3 a6 a7 a8, .int .i64 a9, .bool a10], .vec 2 w41, .vec 3 a12], 100⟩) : J.code (.loop c) Q s := by
  subst hJo
  obtain ⟨X, hX, HX⟩ := bindR_go H
  refine loop_at (β := Nat × Int × List AV) hJ tab_ok (fun | (_, w40, w41) => ⟨[(8, .int .i64 w40), (7, .int .i64 (J.o.ar .rem .i64 (J.o.mx (J.o.mx a0 (J.o.neg .i64 a0)) 0) (J.o.ar .add .i64 a7 1))), (2, .int .i64 a1), (0, .ptr 1 0)], [.fam 0 a2, .var [.vs 2 2 a3 a4 a5, .vs 3 3 a6 a7 a8, .int .i64 a9, .bool a10], .vec 2 w41, .vec 3 a12], 100⟩) (fun | (n, w40, w41) => f116_l0 J.o fuel a7 a6 a12 a0 a1 a2 a3 a4 a5 a8 a9 a10 n w40 w41 = some X) (fun | (n, _, _) => n) (fuel, w40i, w41i) hX hle (by rintro ⟨_, _, _⟩; exact hn) ?_
  rintro ⟨n, w40, w41⟩ hb N hN
  rcases n with _ | n
  · exact none_go (show (none : Option F116L0) = some X from hb)
  exact round X HX n w40 w41 hb N fun env w40' w41' v h1 h2 => hN _ (n, w40', w41') h1 (Nat.lt_succ_self n) ⟨h2, by first | (cbv; done) | (cbv; repeat' (first | exact trivial | exact rfl | apply And.intro)), rfl, rfl⟩
noncomputable def f116 (o : Ops) (fuel : Nat) (a0 a1 : Int) (a2 : List AV) (a3 a4 a5 a6 a7 a8 a9 : Int) (a10 : Bool) (a11 a12 : List AV) : Option F116R :=
  ifB a10
  (some (.v0 32 a6 a7 a8 a10 a11 a12))
  (req (o.nz (o.ar .add .i64 a7 1)) <|
   bindR (f116_l0 o fuel a7 a6 a12 a0 a1 a2 a3 a4 a5 a8 a9 a10 fuel 0 a11) fun r => match r with
   | .x0 y69 => some (.v0 0 0 0 0 true y69 []))
theorem f116_call (o : Ops) (ho : o = stdOps) (fuel : Nat) (a0 a1 : Int) (a2 : List AV) (a3 a4 a5 a6 a7 a8 a9 : Int) (a10 : Bool) (a11 a12 : List AV) {R : F116R} (H : f116 o fuel a0 a1 a2 a3 a4 a5 a6 a7 a8 a9 a10 a11 a12 = some R) (K : AV → List Ent → Prop) (E : AV → List Ent → Prop) (h : K R.av (F116R.hp a2 a3 a4 a5 a9 R)) : CallA Try.prog 116 [.ptr 1 0, .int .i64 a0, .int .i64 a1] [.fam 0 a2, .var [.vs 2 2 a3 a4 a5, .vs 3 3 a6 a7 a8, .int .i64 a9, .bool a10], .vec 2 a11, .vec 3 a12] K E := by
  refine call_wk fun K' hK => ?_
  refine call_keep (n₀ := 4) tab_ok Try.func116 rfl rfl rfl rfl ?_
  intro J hJ
  obtain rfl : o = J.o := by rw [ho, hJ]; rfl
  unfold f116 at H
  cbv
  repeat' (first
    | ((with_reducible refine awp_go2 ?_); cbv)
    | (cases H; replace H := HX0; clear HX0; (try dsimp only at H))
    | (refine KeepQ.tn _ (by first | exact .inl rfl | exact .inr rfl) (Turn.trans (Turn.at 4 (turn_nilrh 1 1 3 rfl rfl (leN_t rfl)) rfl) (Turn.at 5 (turn_mvg 3 3 rfl (leN_t rfl)) rfl)) [4] (by decide) ?_; cbv; cases H; refine hK _ _ _ _ ?_ ?_ rfl h <;> cbv)
    | (refine KeepQ.tn _ (by first | exact .inl rfl | exact .inr rfl) (Turn.at 4 (turn_mv 1 1 3 3 rfl rfl rfl rfl (leN_t rfl)) rfl) [4] (by decide) ?_; cbv; cases H; refine hK _ _ _ _ ?_ ?_ rfl h <;> cbv)
    | (refine hN0 _ _ _ _ H ?_; with_reducible refine wkEnv_go2 ?_; cbv)
    | (refine ifB_go H ?_ ?_ <;> clear H <;> intro hh H)
    | (refine req_go H ?_; clear H; intro hh H)
    | (refine sh158_get H ?_; clear H; intro _ _ _ he H; cbv)
    | (refine sh164_get H ?_; clear H; intro _ _ he H; cbv)
    | (obtain ⟨R, hR, H2⟩ := bindR_go H; refine call_in hJ [0] (by decide) rfl rfl rfl (f147_call _ ho _ _ _ _ _ hR _ _ ?_); clear H hR; rcases R with ⟨_⟩; all_goals (replace H := H2; clear H2; (try dsimp only at H); cbv))
    | (obtain ⟨R, hR, H2⟩ := bindR_go H; refine call_in hJ [0, 1, 2, 3] (by decide) rfl rfl rfl (f142_call _ ho _ _ _ _ _ _ _ _ _ _ _ _ _ hR _ _ ?_); clear H hR; rcases R with ⟨_⟩; all_goals (replace H := H2; clear H2; (try dsimp only at H); cbv))
    | (refine f116_l0_go hJ (o := J.o) rfl H (by decide) ⟨?_, ?_, rfl, rfl⟩ ?_
       · cbv; (repeat' (first | exact trivial | exact rfl | apply And.intro))
       · cbv; (repeat' (first | exact trivial | exact rfl | apply And.intro))
       clear H
       intro X0 HX0 n _ _ H Nx0 hN0
       rw [f116_l0] at H
       cbv))
end Go.Proofs.Ytjdbmfipciadfaa.A
namespace Go.Proofs.Ytjdbmfipciadfaa.A
open Go Go.Pt
set_option maxHeartbeats 4000000
set_option maxRecDepth 100000
inductive F117R where
  | v0 (y0 : Int) (y1 : Bool)
def F117R.av : F117R → AV
  | .v0 y0 _ => .int .i64 y0
def F117R.hp (a0 : List AV) (a1 a2 a3 a4 a5 a6 a7 : Int) (a9 a10 : List AV) : F117R → List Ent
  | .v0 _ y1 => [.fam 0 a0, .var [.vs 2 2 a1 a2 a3, .vs 3 3 a4 a5 a6, .int .i64 a7, .bool y1], .vec 2 a9, .vec 3 a10]
noncomputable def f117 (o : Ops) (_fuel : Nat) (_a0 : List AV) (_a1 _a2 _a3 _a4 _a5 _a6 _a7 : Int) (a8 : Bool) (_a9 _a10 : List AV) : Option F117R :=
  ifB (o.bnot a8)
  (some (.v0 1 a8))
  (some (.v0 0 false))
theorem f117_call (o : Ops) (ho : o = stdOps) (fuel : Nat) (a0 : List AV) (a1 a2 a3 a4 a5 a6 a7 : Int) (a8 : Bool) (a9 a10 : List AV) {R : F117R} (H : f117 o fuel a0 a1 a2 a3 a4 a5 a6 a7 a8 a9 a10 = some R) (K : AV → List Ent → Prop) (E : AV → List Ent → Prop) (h : K R.av (F117R.hp a0 a1 a2 a3 a4 a5 a6 a7 a9 a10 R)) : CallA Try.prog 117 [.ptr 1 0] [.fam 0 a0, .var [.vs 2 2 a1 a2 a3, .vs 3 3 a4 a5 a6, .int .i64 a7, .bool a8], .vec 2 a9, .vec 3 a10] K E := by
  refine call_wk fun K' hK => ?_
  refine call_keep (n₀ := 4) tab_ok Try.func117 rfl rfl rfl rfl ?_
  intro J hJ
  obtain rfl : o = J.o := by rw [ho, hJ]; rfl
  unfold f117 at H
  cbv
  repeat' (first
    | ((with_reducible refine awp_go2 ?_); cbv)
    | (refine KeepQ.mk [] (by decide) ?_; cbv; cases H; refine hK _ _ _ _ ?_ ?_ rfl h <;> cbv)
    | (refine ifB_go H ?_ ?_ <;> clear H <;> intro hh H))
end Go.Proofs.Ytjdbmfipciadfaa.A
namespace Go.Proofs.Ytjdbmfipciadfaa.A
open Go Go.Pt
set_option maxHeartbeats 4000000
set_option maxRecDepth 100000
inductive F51R where
  | v0 (y0 : Bool) (y1 : List AV) (y2 y3 y4 : Int) (y5 : Bool) (y6 y7 y8 y9 y10 y11 : Int) (y12 : Bool) (y13 : List (AV × AV)) (y14 y15 y16 : List AV)
def F51R.av : F51R → AV
  | .v0 y0 _ _ _ _ _ _ _ _ _ _ _ _ _ _ _ _ => .bool y0
def F51R.hp (a7 a18 : Int) : F51R → List Ent
  | .v0 _ y1 y2 y3 y4 y5 y6 y7 y8 y9 y10 y11 y12 y13 y14 y15 y16 => [.fam 0 y1, .var [.int .i64 a7, .mp 3, .vs 7 3 y2 y3 y4, .bool y5], .var [.vs 8 2 y6 y7 y8, .vs 9 3 y9 y10 y11, .int .i64 a18, .bool y12], .mp y13, .dead, .dead, .dead, .vec 3 y14, .vec 2 y15, .vec 3 y16]
noncomputable def f51 (o : Ops) (fuel : Nat) (a0 : Int) (a1 a2 : ByteArray) (a3 a4 : Int) (a5 a6 : List AV) (a7 a8 a9 a10 : Int) (a11 : Bool) (a12 a13 a14 a15 a16 a17 a18 : Int) (a19 : Bool) (a20 : List (AV × AV)) (a21 a22 a23 : List AV) : Option F51R :=
  ifB (o.cmp .eql a0 0)
  (bindR (f63 o fuel a1 a6 a7 a8 a9 a10 a11 a20 a21) fun r => match r with
   | .v0 r24 r25 r26 => bindR (f110 o fuel a1 r25 a12 a13 a14 a15 a16 a17 a18 a19 a22 a23) fun r => match r with
     | .v0 r27 r28 r29 r30 r31 => some (.v0 (o.cmp .eql r24 r27) r25 a8 a9 a10 a11 r28 r29 r30 a15 a16 a17 a19 r26 a21 r31 a23))
  (ifB (o.cmp .eql a0 1)
   (bindR (f34 o fuel a1 a3 a5 a6 a7 a8 a9 a10 a11 a20 a21) fun r => match r with
    | .v0 r32 r33 r34 r35 r36 r37 => bindR (f111 o fuel a1 a3 a5 a6 a12 a13 a14 a15 a16 a17 a18 a19 a22 a23) fun r => match r with
      | .v0 r38 r39 r40 r41 r42 => some (.v0 (o.cmp .eql r32 r38) a6 r33 r34 r35 a11 a12 a13 a14 r39 r40 r41 a19 r36 r37 a22 r42))
   (ifB (o.cmp .eql a0 2)
    (bindR (f64 o fuel a1 a3 a6 a7 a8 a9 a10 a11 a20 a21) fun r => match r with
     | .v0 r43 r44 r45 r46 r47 r48 => bindR (f112 o fuel a1 a3 r44 a12 a13 a14 a15 a16 a17 a18 a19 a22 a23) fun r => match r with
       | .v0 r49 r50 r51 r52 r53 r54 => some (.v0 (o.cmp .eql r43 r49) r44 r45 r46 r47 a11 a12 a13 a14 r50 r51 r52 a19 a20 r48 r53 r54))
    (ifB (o.cmp .eql a0 3)
     (bindR (f33 o fuel a1 a6 a7 a8 a9 a10 a11 a20 a21) fun r => match r with
      | .v0 r55 r56 r57 r58 r59 r60 => bindR (f113 o fuel a1 r56 a12 a13 a14 a15 a16 a17 a18 a19 a22 a23) fun r => match r with
        | .v0 r61 r62 r63 r64 r65 r66 => some (.v0 (o.cmp .eql r55 r61) r56 r57 r58 r59 a11 a12 a13 a14 r62 r63 r64 a19 a20 r60 r65 r66))
     (ifB (o.cmp .eql a0 4)
      (bindR (f65 o fuel a1 a2 a6 a7 a8 a9 a10 a11 a20 a21) fun r => match r with
       | .v0 r67 r68 r69 r70 r71 r72 => bindR (f114 o fuel a1 a2 a6 a12 a13 a14 a15 a16 a17 a18 a19 a22 a23) fun r => match r with
         | .v0 r73 r74 r75 r76 r77 r78 r79 r80 r81 => some (.v0 (o.cmp .eql r67 r73) a6 r68 r69 r70 a11 r74 r75 r76 r77 r78 r79 a19 r71 r72 r80 r81))
      (ifB (o.cmp .eql a0 5)
       (bindR (f66 o fuel a1 a6 a7 a8 a9 a10 a11 a20 a21) fun r => match r with
        | .v0 r82 r83 r84 r85 r86 r87 => bindR (f115 o fuel a1 a6 a12 a13 a14 a15 a16 a17 a18 a19 a22 a23) fun r => match r with
          | .v0 r88 r89 r90 r91 r92 r93 r94 r95 r96 => some (.v0 (o.cmp .eql r82 r88) a6 r83 r84 r85 a11 r89 r90 r91 r92 r93 r94 a19 r86 r87 r95 r96))
       (ifB (o.cmp .eql a0 6)
        (bindR (f36 o fuel a3 a4 a6 a7 a8 a9 a10 a11 a20 a21) fun r => match r with
         | .v0 r97 r98 r99 r100 r101 r102 r103 => bindR (f116 o fuel a3 a4 r98 a12 a13 a14 a15 a16 a17 a18 a19 a22 a23) fun r => match r with
           | .v0 r104 r105 r106 r107 r108 r109 r110 => some (.v0 (o.cmp .eql r97 r104) r98 r99 r100 r101 r102 a12 a13 a14 r105 r106 r107 r108 a20 r103 r109 r110))
        (ifB (o.cmp .eql a0 7)
         (bindR (f37 o fuel a6 a7 a8 a9 a10 a11 a20 a21) fun r => match r with
          | .v0 r111 r112 => bindR (f117 o fuel a6 a12 a13 a14 a15 a16 a17 a18 a19 a22 a23) fun r => match r with
            | .v0 r113 r114 => some (.v0 (o.cmp .eql r111 r113) a6 a8 a9 a10 r112 a12 a13 a14 a15 a16 a17 r114 a20 a21 a22 a23))
         (some (.v0 true a6 a8 a9 a10 a11 a12 a13 a14 a15 a16 a17 a19 a20 a21 a22 a23)))))))))
theorem f51_call (o : Ops) (ho : o = stdOps) (fuel : Nat) (a0 : Int) (a1 a2 : ByteArray) (a3 a4 : Int) (a5 a6 : List AV) (a7 a8 a9 a10 : Int) (a11 : Bool) (a12 a13 a14 a15 a16 a17 a18 : Int) (a19 : Bool) (a20 : List (AV × AV)) (a21 a22 a23 : List AV) {R : F51R} (H : f51 o fuel a0 a1 a2 a3 a4 a5 a6 a7 a8 a9 a10 a11 a12 a13 a14 a15 a16 a17 a18 a19 a20 a21 a22 a23 = some R) (K : AV → List Ent → Prop) (E : AV → List Ent → Prop) (h : K R.av (F51R.hp a7 a18 R)) : CallA Try.prog 51 [.ptr 1 0, .ptr 2 0, .agg [.int .i64 a0, .str a1, .str a2, .int .i64 a3, .int .i64 a4, .sl 1 a5 .no]] [.fam 0 a6, .var [.int .i64 a7, .mp 3, .vs 4 3 a8 a9 a10, .bool a11], .var [.vs 5 2 a12 a13 a14, .vs 6 3 a15 a16 a17, .int .i64 a18, .bool a19], .mp a20, .vec 3 a21, .vec 2 a22, .vec 3 a23] K E := by
  refine call_wk fun K' hK => ?_
  refine call_keep (n₀ := 7) tab_ok Try.func51 rfl rfl rfl rfl ?_
  intro J hJ
  obtain rfl : o = J.o := by rw [ho, hJ]; rfl
  unfold f51 at H
  cbv
  repeat' (first
    | ((with_reducible refine awp_go2 ?_); cbv)
    | (refine KeepQ.tn _ (by first | exact .inl rfl | exact .inr rfl) (Turn.trans (Turn.trans (Turn.at 8 (turn_mv 1 2 4 3 rfl rfl rfl rfl (leN_t rfl)) rfl) (Turn.at 9 (turn_mv 2 0 5 2 rfl rfl rfl rfl (leN_t rfl)) rfl)) (Turn.at 10 (turn_mv 2 1 6 3 rfl rfl rfl rfl (leN_t rfl)) rfl)) [8, 9, 10] (by decide) ?_; cbv; cases H; refine hK _ _ _ _ ?_ ?_ rfl h <;> cbv)
    | (refine KeepQ.tn _ (by first | exact .inl rfl | exact .inr rfl) (Turn.trans (Turn.at 9 (turn_mv 1 2 4 3 rfl rfl rfl rfl (leN_t rfl)) rfl) (Turn.at 10 (turn_mv 2 1 6 3 rfl rfl rfl rfl (leN_t rfl)) rfl)) [9, 8, 10] (by decide) ?_; cbv; cases H; refine hK _ _ _ _ ?_ ?_ rfl h <;> cbv)
    | (refine KeepQ.tn _ (by first | exact .inl rfl | exact .inr rfl) (Turn.trans (Turn.at 9 (turn_mv 1 2 4 3 rfl rfl rfl rfl (leN_t rfl)) rfl) (Turn.at 10 (turn_mv 2 0 5 2 rfl rfl rfl rfl (leN_t rfl)) rfl)) [9, 10, 8] (by decide) ?_; cbv; cases H; refine hK _ _ _ _ ?_ ?_ rfl h <;> cbv)
    | (refine KeepQ.tn _ (by first | exact .inl rfl | exact .inr rfl) (Turn.at 10 (turn_mv 2 0 5 2 rfl rfl rfl rfl (leN_t rfl)) rfl) [8, 10, 9] (by decide) ?_; cbv; cases H; refine hK _ _ _ _ ?_ ?_ rfl h <;> cbv)
    | (refine KeepQ.tn _ (by first | exact .inl rfl | exact .inr rfl) (Turn.at 10 (turn_mv 1 2 4 3 rfl rfl rfl rfl (leN_t rfl)) rfl) [10, 8, 9] (by decide) ?_; cbv; cases H; refine hK _ _ _ _ ?_ ?_ rfl h <;> cbv)
    | (refine ifB_go H ?_ ?_ <;> clear H <;> intro hh H)
    | (obtain ⟨R, hR, H2⟩ := bindR_go H; refine call_in hJ [0, 2, 5, 6] (by decide) rfl rfl rfl (f110_call _ ho _ _ _ _ _ _ _ _ _ _ _ _ _ hR _ _ ?_); clear H hR; rcases R with ⟨_, _, _, _, _⟩; all_goals (replace H := H2; clear H2; (try dsimp only at H); cbv))
    | (obtain ⟨R, hR, H2⟩ := bindR_go H; refine call_in hJ [0, 1, 3, 4] (by decide) rfl rfl rfl (f63_call _ ho _ _ _ _ _ _ _ _ _ _ hR _ _ ?_); clear H hR; rcases R with ⟨_, _, _⟩; all_goals (replace H := H2; clear H2; (try dsimp only at H); cbv))
    | (obtain ⟨R, hR, H2⟩ := bindR_go H; refine call_in hJ [0, 2, 5, 6] (by decide) rfl rfl rfl (f111_call _ ho _ _ _ _ _ _ _ _ _ _ _ _ _ _ _ hR _ _ ?_); clear H hR; rcases R with ⟨_, _, _, _, _⟩; all_goals (replace H := H2; clear H2; (try dsimp only at H); cbv))
    | (obtain ⟨R, hR, H2⟩ := bindR_go H; refine call_in hJ [0, 1, 3, 4] (by decide) rfl rfl rfl (f34_call _ ho _ _ _ _ _ _ _ _ _ _ _ _ hR _ _ ?_); clear H hR; rcases R with ⟨_, _, _, _, _, _⟩; all_goals (replace H := H2; clear H2; (try dsimp only at H); cbv))
    | (obtain ⟨R, hR, H2⟩ := bindR_go H; refine call_in hJ [0, 2, 5, 6] (by decide) rfl rfl rfl (f112_call _ ho _ _ _ _ _ _ _ _ _ _ _ _ _ _ hR _ _ ?_); clear H hR; rcases R with ⟨_, _, _, _, _, _⟩; all_goals (replace H := H2; clear H2; (try dsimp only at H); cbv))
    | (obtain ⟨R, hR, H2⟩ := bindR_go H; refine call_in hJ [0, 1, 3, 4] (by decide) rfl rfl rfl (f64_call _ ho _ _ _ _ _ _ _ _ _ _ _ hR _ _ ?_); clear H hR; rcases R with ⟨_, _, _, _, _, _⟩; all_goals (replace H := H2; clear H2; (try dsimp only at H); cbv))
    | (obtain ⟨R, hR, H2⟩ := bindR_go H; refine call_in hJ [0, 2, 5, 6] (by decide) rfl rfl rfl (f113_call _ ho _ _ _ _ _ _ _ _ _ _ _ _ _ hR _ _ ?_); clear H hR; rcases R with ⟨_, _, _, _, _, _⟩; all_goals (replace H := H2; clear H2; (try dsimp only at H); cbv))
    | (obtain ⟨R, hR, H2⟩ := bindR_go H; refine call_in hJ [0, 1, 3, 4] (by decide) rfl rfl rfl (f33_call _ ho _ _ _ _ _ _ _ _ _ _ hR _ _ ?_); clear H hR; rcases R with ⟨_, _, _, _, _, _⟩; all_goals (replace H := H2; clear H2; (try dsimp only at H); cbv))
    | (obtain ⟨R, hR, H2⟩ := bindR_go H; refine call_in hJ [0, 2, 5, 6] (by decide) rfl rfl rfl (f114_call _ ho _ _ _ _ _ _ _ _ _ _ _ _ _ _ hR _ _ ?_); clear H hR; rcases R with ⟨_, _, _, _, _, _, _, _, _⟩; all_goals (replace H := H2; clear H2; (try dsimp only at H); cbv))
    | (obtain ⟨R, hR, H2⟩ := bindR_go H; refine call_in hJ [0, 1, 3, 4] (by decide) rfl rfl rfl (f65_call _ ho _ _ _ _ _ _ _ _ _ _ _ hR _ _ ?_); clear H hR; rcases R with ⟨_, _, _, _, _, _⟩; all_goals (replace H := H2; clear H2; (try dsimp only at H); cbv))
    | (obtain ⟨R, hR, H2⟩ := bindR_go H; refine call_in hJ [0, 2, 5, 6] (by decide) rfl rfl rfl (f115_call _ ho _ _ _ _ _ _ _ _ _ _ _ _ _ hR _ _ ?_); clear H hR; rcases R with ⟨_, _, _, _, _, _, _, _, _⟩; all_goals (replace H := H2; clear H2; (try dsimp only at H); cbv))
    | (obtain ⟨R, hR, H2⟩ := bindR_go H; refine call_in hJ [0, 1, 3, 4] (by decide) rfl rfl rfl (f66_call _ ho _ _ _ _ _ _ _ _ _ _ hR _ _ ?_); clear H hR; rcases R with ⟨_, _, _, _, _, _⟩; all_goals (replace H := H2; clear H2; (try dsimp only at H); cbv))
    | (obtain ⟨R, hR, H2⟩ := bindR_go H; refine call_in hJ [0, 2, 5, 6] (by decide) rfl rfl rfl (f116_call _ ho _ _ _ _ _ _ _ _ _ _ _ _ _ _ hR _ _ ?_); clear H hR; rcases R with ⟨_, _, _, _, _, _, _⟩; all_goals (replace H := H2; clear H2; (try dsimp only at H); cbv))
    | (obtain ⟨R, hR, H2⟩ := bindR_go H; refine call_in hJ [0, 1, 3, 4] (by decide) rfl rfl rfl (f36_call _ ho _ _ _ _ _ _ _ _ _ _ _ hR _ _ ?_); clear H hR; rcases R with ⟨_, _, _, _, _, _, _⟩; all_goals (replace H := H2; clear H2; (try dsimp only at H); cbv))
    | (obtain ⟨R, hR, H2⟩ := bindR_go H; refine call_in hJ [0, 2, 5, 6] (by decide) rfl rfl rfl (f117_call _ ho _ _ _ _ _ _ _ _ _ _ _ _ hR _ _ ?_); clear H hR; rcases R with ⟨_, _⟩; all_goals (replace H := H2; clear H2; (try dsimp only at H); cbv))
    | (obtain ⟨R, hR, H2⟩ := bindR_go H; refine call_in hJ [0, 1, 3, 4] (by decide) rfl rfl rfl (f37_call _ ho _ _ _ _ _ _ _ _ _ hR _ _ ?_); clear H hR; rcases R with ⟨_, _⟩; all_goals (replace H := H2; clear H2; (try dsimp only at H); cbv)))
end Go.Proofs.Ytjdbmfipciadfaa.A
namespace Go.Proofs.Ytjdbmfipciadfaa.A
open Go Go.Pt
set_option maxHeartbeats 4000000
set_option maxRecDepth 100000
inductive F31R where
  | v0
  | v1 (y0 : List AV) (y1 y2 y3 : Int) (y4 : Bool) (y5 y6 y7 y8 y9 y10 : Int) (y11 : Bool) (y12 : List (AV × AV)) (y13 y14 y15 : List AV)
def F31R.av : F31R → AV
  | .v0  => .tup [.nilp, .nilp]
  | .v1 _ _ _ _ _ _ _ _ _ _ _ _ _ _ _ _ => .tup [.ptr 1 0, .ptr 2 0]
def F31R.hp (a0 : Int) (a2 : List AV) : F31R → List Ent
  | .v0  => [.fam 0 a2]
  | .v1 y0 y1 y2 y3 y4 y5 y6 y7 y8 y9 y10 y11 y12 y13 y14 y15 => [.fam 0 y0, .var [.int .i64 a0, .mp 3, .vs 4 3 y1 y2 y3, .bool y4], .var [.vs 5 2 y5 y6 y7, .vs 6 3 y8 y9 y10, .int .i64 a0, .bool y11], .mp y12, .vec 3 y13, .vec 2 y14, .vec 3 y15]
inductive F31L0 where
  | x0 (y0 : List AV) (y1 y2 y3 : Int) (y4 : Bool) (y5 y6 y7 y8 y9 y10 : Int) (y11 : Bool) (y12 : List (AV × AV)) (y13 y14 y15 : List AV)
noncomputable def f31_l0 (o : Ops) (fuel : Nat) (a1 : List AV) (a0 : Int) : Nat → Int → List AV → Int → Int → Int → Bool → Int → Int → Int → Int → Int → Int → Bool → List (AV × AV) → List AV → List AV → List AV → Option F31L0
  | 0, _, _, _, _, _, _, _, _, _, _, _, _, _, _, _, _, _ => none
  | n + 1, w55, w56, w57, w58, w59, w60, w61, w62, w63, w64, w65, w66, w67, w68, w69, w70, w71 =>
    ifB (o.cmp .lss w55 (o.len a1))
    (req (o.inb w55 (o.len a1)) <|
     getA (o.get a1 w55) fun e => sh71 e fun v72 v73 v74 v75 v76 v77 =>
     ifB (o.pick (o.bnot (o.cmp .eql v72 6)) (o.bnot (o.cmp .eql v72 7)) false)
     (bindR (f51 o fuel v72 v73 v74 v75 v76 v77 w56 a0 w57 w58 w59 w60 w61 w62 w63 w64 w65 w66 a0 w67 w68 w69 w70 w71) fun r => match r with
      | .v0 _ r79 r80 r81 r82 r83 r84 r85 r86 r87 r88 r89 r90 r91 r92 r93 r94 => f31_l0 o fuel a1 a0 n (o.ar .add .i64 w55 1) r79 r80 r81 r82 r83 r84 r85 r86 r87 r88 r89 r90 r91 r92 r93 r94)
     (f31_l0 o fuel a1 a0 n (o.ar .add .i64 w55 1) w56 w57 w58 w59 w60 w61 w62 w63 w64 w65 w66 w67 w68 w69 w70 w71))
    (some (.x0 w56 w57 w58 w59 w60 w61 w62 w63 w64 w65 w66 w67 w68 w69 w70 w71))
theorem f31_l0_go {J : Jd} {n₀ : Nat} (hJ : J = std Try.prog n₀) {o : Ops} (hJo : J.o = o) {fuel : Nat} {a1 : List AV} {a0 : Int} {w55i : Int} {w56i : List AV} {w57i : Int} {w58i : Int} {w59i : Int} {w60i : Bool} {w61i : Int} {w62i : Int} {w63i : Int} {w64i : Int} {w65i : Int} {w66i : Int} {w67i : Bool} {w68i : List (AV × AV)} {w69i : List AV} {w70i : List AV} {w71i : List AV} {α : Type} {k : F31L0 → Option α} {r : α} {c : Code} {Q : Ex → St → Prop} {s : St}
    (H : bindR (f31_l0 o fuel a1 a0 fuel w55i w56i w57i w58i w59i w60i w61i w62i w63i w64i w65i w66i w67i w68i w69i w70i w71i) k = some r) (hn : n₀ ≤ 7) (hle : Turn n₀ s ⟨[(34, .int .i64 w55i), (33, .int .i64 (o.len a1)), (32, .sl 6 a1 .no), (8, .ptr 2 0), (6, .ptr 1 0)], [.fam 0 w56i, .var [.int .i64 a0, .mp 3, .vs 4 3 w57i w58i w59i, .bool w60i], .var [.vs 5 2 w61i w62i w63i, .vs 6 3 w64i w65i w66i, .int .i64 a0, .bool w67i], .mp w68i, .vec 3 w69i, .vec 2 w70i, .vec 3 w71i], 53⟩)
    (round : ∀ X, k X = some r → ∀ (n : Nat) (w55 : Int) (w56 : List AV) (w57 : Int) (w58 : Int) (w59 : Int) (w60 : Bool) (w61 : Int) (w62 : Int) (w63 : Int) (w64 : Int) (w65 : Int) (w66 : Int) (w67 : Bool) (w68 : List (AV × AV)) (w69 : List AV) (w70 : List AV) (w71 : List AV), f31_l0 o fuel a1 a0 (n + 1) w55 w56 w57 w58 w59 w60 w61 w62 w63 w64 w65 w66 w67 w68 w69 w70 w71 = some X → ∀ N : St → Prop,
      (∀ (s' : St) (w55' : Int) (w56' : List AV) (w57' : Int) (w58' : Int) (w59' : Int) (w60' : Bool) (w61' : Int) (w62' : Int) (w63' : Int) (w64' : Int) (w65' : Int) (w66' : Int) (w67' : Bool) (w68' : List (AV × AV)) (w69' : List AV) (w70' : List AV) (w71' : List AV), f31_l0 o fuel a1 a0 n w55' w56' w57' w58' w59' w60' w61' w62' w63' w64' w65' w66' w67' w68' w69' w70' w71' = some X → Turn n₀ s' ⟨[(34, .int .i64 w55'), (33, .int .i64 (o.len a1)), (32, .sl 6 a1 .no), (8, .ptr 2 0), (6, .ptr 1 0)], [.fam 0 w56', .var [.int .i64 a0, .mp 3, .vs 4 3 w57' w58' w59', .bool w60'], .var [.vs 5 2 w61' w62' w63', .vs 6 3 w64' w65' w66', .int .i64 a0, .bool w67'], .mp w68', .vec 3 w69', .vec 2 w70', .vec 3 w71'], 53⟩ → N s') → awp J tab c (thenQ N Q) ⟨[(34, .int .i64 w55), (33, .int .i64 (o.len a1)), (32, .sl 6 a1 .no), (8, .ptr 2 0), (6, .ptr 1 0)], [.fam 0 w56, .var [.int .i64 a0, .mp 3, .vs 4 3 w57 w58 w59, .bool w60], .var [.vs 5 2 w61 w62 w63, .vs 6 3 w64 w65 w66, .int .i64 a0, .bool w67], .mp w68, .vec 3 w69, .vec 2 w70, .vec 3 w71], 53⟩) : J.code (.loop c) Q s := by
  subst hJo
  obtain ⟨X, hX, HX⟩ := bindR_go H
  refine loop_turn_at (β := Nat × Int × List AV × Int × Int × Int × Bool × Int × Int × Int × Int × Int × Int × Bool × List (AV × AV) × List AV × List AV × List AV) hJ tab_ok (fun | (_, w55, w56, w57, w58, w59, w60, w61, w62, w63, w64, w65, w66, w67, w68, w69, w70, w71) => ⟨[(34, .int .i64 w55), (33, .int .i64 (J.o.len a1)), (32, .sl 6 a1 .no), (8, .ptr 2 0), (6, .ptr 1 0)], [.fam 0 w56, .var [.int .i64 a0, .mp 3, .vs 4 3 w57 w58 w59, .bool w60], .var [.vs 5 2 w61 w62 w63, .vs 6 3 w64 w65 w66, .int .i64 a0, .bool w67], .mp w68, .vec 3 w69, .vec 2 w70, .vec 3 w71], 53⟩) (fun | (n, w55, w56, w57, w58, w59, w60, w61, w62, w63, w64, w65, w66, w67, w68, w69, w70, w71) => f31_l0 J.o fuel a1 a0 n w55 w56 w57 w58 w59 w60 w61 w62 w63 w64 w65 w66 w67 w68 w69 w70 w71 = some X) (fun | (n, _, _, _, _, _, _, _, _, _, _, _, _, _, _, _, _, _) => n) (fuel, w55i, w56i, w57i, w58i, w59i, w60i, w61i, w62i, w63i, w64i, w65i, w66i, w67i, w68i, w69i, w70i, w71i) hX hle (by rintro ⟨_, _, _, _, _, _, _, _, _, _, _, _, _, _, _, _, _, _⟩; exact hn) ?_
  rintro ⟨n, w55, w56, w57, w58, w59, w60, w61, w62, w63, w64, w65, w66, w67, w68, w69, w70, w71⟩ hb N hN
  rcases n with _ | n
  · exact none_go (show (none : Option F31L0) = some X from hb)
  exact round X HX n w55 w56 w57 w58 w59 w60 w61 w62 w63 w64 w65 w66 w67 w68 w69 w70 w71 hb N fun s' w55' w56' w57' w58' w59' w60' w61' w62' w63' w64' w65' w66' w67' w68' w69' w70' w71' h1 h2 => hN s' (n, w55', w56', w57', w58', w59', w60', w61', w62', w63', w64', w65', w66', w67', w68', w69', w70', w71') h1 (Nat.lt_succ_self n) h2
noncomputable def f31 (o : Ops) (fuel : Nat) (a0 : Int) (a1 a2 : List AV) : Option F31R :=
  bindR (f48 o fuel a0 a2) fun r => match r with
  | .v0  => bindR (f49 o fuel a0 a2) fun r => match r with
    | .v0  => some (.v0 )
    | .v1 _ _ => some (.v0 )
  | .v1 r5 r6 => bindR (f49 o fuel a0 a2) fun r => match r with
    | .v0  => some (.v0 )
    | .v1 r7 r8 => ifB (o.pick (o.pick (o.bnot (o.cmp .eql 0 0)) true false) true false)
      (some (.v0 ))
      (bindR (f31_l0 o fuel a1 a0 fuel 0 a2 0 0 0 false 0 0 0 0 0 0 false r5 r6 r7 r8) fun r => match r with
       | .x0 y95 y96 y97 y98 y99 y100 y101 y102 y103 y104 y105 y106 y107 y108 y109 y110 => some (.v1 y95 y96 y97 y98 y99 y100 y101 y102 y103 y104 y105 y106 y107 y108 y109 y110))
theorem f31_call (o : Ops) (ho : o = stdOps) (fuel : Nat) (a0 : Int) (a1 a2 : List AV) {R : F31R} (H : f31 o fuel a0 a1 a2 = some R) (K : AV → List Ent → Prop) (E : AV → List Ent → Prop) (h : K R.av (F31R.hp a0 a2 R)) : CallA Try.prog 31 [.int .i64 a0, .sl 6 a1 .no] [.fam 0 a2] K E := by
  refine call_wk fun K' hK => ?_
  refine call_keep (n₀ := 1) tab_ok Try.func31 rfl rfl rfl rfl ?_
  intro J hJ
  obtain rfl : o = J.o := by rw [ho, hJ]; rfl
  unfold f31 at H
  cbv
  repeat' (first
    | ((with_reducible refine awp_go2 ?_); cbv)
    | with_reducible exact id
    | (cases H; replace H := HX0; clear HX0; (try dsimp only at H))
    | (refine KeepQ.mk [] (by decide) ?_; cbv; cases H; refine hK _ _ _ _ ?_ ?_ rfl h <;> cbv)
    | (refine KeepQ.mk [1, 2, 3, 4, 5, 6] (by decide) ?_; cbv; cases H; refine hK _ _ _ _ ?_ ?_ rfl h <;> cbv)
    | (refine hN0 _ _ _ _ _ _ _ _ _ _ _ _ _ _ _ _ _ _ H (Turn.trans (Turn.pack [1, 2, 3, 4, 5, 6] (by decide) (leN_t rfl)) (Turn.le ⟨?_, ?_, rfl, rfl⟩ (leN_t rfl))) <;> (cbv; (repeat' (first | exact trivial | exact rfl | apply And.intro)); done))
    | (refine hN0 _ _ _ _ _ _ _ _ _ _ _ _ _ _ _ _ _ _ H (Turn.trans (Turn.pack [1, 2, 3, 8, 9, 10] (by decide) (leN_t rfl)) (Turn.le ⟨?_, ?_, rfl, rfl⟩ (leN_t rfl))) <;> (cbv; (repeat' (first | exact trivial | exact rfl | apply And.intro)); done))
    | (first | refine known_t (kn_pick_t ho (kn_pick_s ho rfl rfl) rfl) ?_ | refine known_y (kn_pick_t ho (kn_pick_s ho rfl rfl) rfl) ?_)
    | (first | refine known_t (kn_pick_s ho rfl rfl) ?_ | refine known_y (kn_pick_s ho rfl rfl) ?_)
    | (refine ifB_go H ?_ ?_ <;> clear H <;> intro hh H)
    | (refine req_go H ?_; clear H; intro hh H)
    | (refine sh71_get H ?_; clear H; intro _ _ _ _ _ _ he H; cbv)
    | (obtain ⟨R, hR, H2⟩ := bindR_go H; refine call_in hJ [0] (by decide) rfl rfl rfl (f49_call _ ho _ _ _ hR _ _ ?_); clear H hR; rcases R with ⟨⟩ | ⟨_, _⟩; all_goals (replace H := H2; clear H2; (try dsimp only at H); cbv))
    | (obtain ⟨R, hR, H2⟩ := bindR_go H; refine call_in hJ [0, 1, 2, 3, 4, 5, 6] (by decide) rfl rfl rfl (f51_call _ ho _ _ _ _ _ _ _ _ _ _ _ _ _ _ _ _ _ _ _ _ _ _ _ _ _ hR _ _ ?_); clear H hR; rcases R with ⟨_, _, _, _, _, _, _, _, _, _, _, _, _, _, _, _, _⟩; all_goals (replace H := H2; clear H2; (try dsimp only at H); cbv))
    | (obtain ⟨R, hR, H2⟩ := bindR_go H; refine call_in hJ [0] (by decide) rfl rfl rfl (f48_call _ ho _ _ _ hR _ _ ?_); clear H hR; rcases R with ⟨⟩ | ⟨_, _⟩; all_goals (replace H := H2; clear H2; (try dsimp only at H); cbv))
    | (refine f31_l0_go hJ (o := J.o) rfl H (by decide) (Turn.trans (Turn.pack [1, 4, 2, 3, 5, 6] (by decide) (leN_t rfl)) (Turn.le ⟨?_, ?_, rfl, rfl⟩ (leN_t rfl))) ?_
       · cbv; (repeat' (first | exact trivial | exact rfl | apply And.intro))
       · cbv; (repeat' (first | exact trivial | exact rfl | apply And.intro))
       clear H
       intro X0 HX0 n _ _ _ _ _ _ _ _ _ _ _ _ _ _ _ _ _ H Nx0 hN0
       rw [f31_l0] at H
       cbv)
    | with_reducible refine And.intro ?_ ?_)
end Go.Proofs.Ytjdbmfipciadfaa.A
