/- Functions of the program and of the document's answer, as plain ones. Written by lift.py. -/import Derived.Test.YtjdbmfipciadfaaSy0
import Derived.Test.YtjdbmfipciadfaaSy9
import Derived.Test.YtjdbmfipciadfaaSy13
import Derived.Test.YtjdbmfipciadfaaSy11
import Derived.Test.YtjdbmfipciadfaaSy10
import Derived.Test.YtjdbmfipciadfaaSy4
import Derived.Test.YtjdbmfipciadfaaSy1
namespace Go.Proofs.Ytjdbmfipciadfaa.A
open Go Go.Pt
set_option maxHeartbeats 4000000
set_option maxRecDepth 100000
inductive F112R where
  | v0 (y0 y1 y2 y3 : Int) (y4 y5 : List AV)
def F112R.av : F112R → AV
  | .v0 y0 _ _ _ _ _ => .int .i64 y0
def F112R.hp (a2 : List AV) (a3 a4 a5 a9 : Int) (a10 : Bool) : F112R → List Ent
  | .v0 _ y1 y2 y3 y4 y5 => [.fam 0 a2, .var [.vs 2 2 a3 a4 a5, .vs 4 3 y1 y2 y3, .int .i64 a9, .bool a10], .vec 2 y4, .dead, .vec 3 y5]
noncomputable def f112 (o : Ops) (fuel : Nat) (a0 : ByteArray) (a1 : Int) (a2 : List AV) (a3 a4 a5 a6 a7 a8 a9 : Int) (a10 : Bool) (a11 a12 : List AV) : Option F112R :=
  bindR (f144 o fuel a0 a2 a3 a4 a5 a6 a7 a8 a9 a10 a11 a12) fun r => match r with
  | .v0 r13 => ifB (o.bnot (o.cmp .eql r13 0))
    (some (.v0 r13 a6 a7 a8 a11 a12))
    (ifB (o.cmp .lss a1 0)
     (some (.v0 33 a6 a7 a8 a11 a12))
     (bindR (f145 o fuel a0 a2 a3 a4 a5 a6 a7 a8 a9 a10 a11 a12) fun r => match r with
      | .v0 r14 => ifB (o.cmp .gtr a1 (o.len r14))
        (some (.v0 33 a6 a7 a8 a11 a12))
        (bindR (f113 o fuel a0 a2 a3 a4 a5 a6 a7 a8 a9 a10 a11 a12) fun r => match r with
         | .v0 _ r16 r17 r18 r19 r20 => bindR (f142 o fuel a0 a2 a3 a4 a5 r16 r17 r18 a9 a10 r19 r20) fun r => match r with
           | .v0 r21 => req (o.inb r21 a4) <|
             req (o.inb (o.sum a3 r21) (o.len r19)) <|
             getA (o.get r19 (o.sum a3 r21)) fun e => sh164 e fun _ v23 =>
             req (o.le 0 a1) <|
             req (o.le a1 a1) <|
             req (o.le a1 (o.len v23)) <|
             req (o.is a1 a1) <|
             req (o.inb r21 a4) <|
             req (o.inb (o.sum a3 r21) (o.len r19)) <|
             getA (o.get r19 (o.sum a3 r21)) fun e => sh164 e fun v24 _ =>
             some (.v0 0 r16 r17 r18 (o.upd r19 (o.sum a3 r21) (.agg [.str v24, .sl 1 (o.sub v23 0 a1) .no])) r20))))
theorem f112_call (o : Ops) (ho : o = stdOps) (fuel : Nat) (a0 : ByteArray) (a1 : Int) (a2 : List AV) (a3 a4 a5 a6 a7 a8 a9 : Int) (a10 : Bool) (a11 a12 : List AV) {R : F112R} (H : f112 o fuel a0 a1 a2 a3 a4 a5 a6 a7 a8 a9 a10 a11 a12 = some R) (K : AV → List Ent → Prop) (E : AV → List Ent → Prop) (h : K R.av (F112R.hp a2 a3 a4 a5 a9 a10 R)) : CallA Try.prog 112 [.ptr 1 0, .str a0, .int .i64 a1] [.fam 0 a2, .var [.vs 2 2 a3 a4 a5, .vs 3 3 a6 a7 a8, .int .i64 a9, .bool a10], .vec 2 a11, .vec 3 a12] K E := by
  refine call_wk fun K' hK => ?_
  refine call_keep (n₀ := 4) tab_ok Try.func112 rfl rfl rfl rfl ?_
  intro J hJ
  obtain rfl : o = J.o := by rw [ho, hJ]; rfl
  unfold f112 at H
  cbv
  repeat' (first
    | ((with_reducible first | refine awp_go2 ?_ | refine aops_go2 ?_ | refine strip_go2 ?_); cbv)
    | (refine KeepQ.tn _ (by first | exact .inl rfl | exact .inr rfl) (Turn.at 4 (turn_mv 1 1 3 3 rfl rfl rfl rfl (leN_t rfl)) rfl) [4] (by decide) ?_; cbv; cases H; refine hK _ _ _ _ ?_ ?_ rfl h <;> cbv)
    | (refine KeepQ.mk [4] (by decide) ?_; cbv; cases H; refine hK _ _ _ _ ?_ ?_ rfl h <;> cbv)
    | (refine ifB_go H ?_ ?_ <;> clear H <;> intro hh H)
    | (refine ifB_og H ?_ ?_ <;> clear H <;> intro hh H)
    | (refine req_go H ?_; clear H; intro hh H)
    | (refine sh164_get H ?_; clear H; intro _ _ he H; cbv)
    | (obtain ⟨R, hR, H2⟩ := bindR_go H; refine call_in hJ [0, 1, 2, 4] (by decide) rfl rfl rfl (f142_call _ ho _ _ _ _ _ _ _ _ _ _ _ _ _ hR _ _ ?_); clear H hR; rcases R with ⟨_⟩; all_goals (replace H := H2; clear H2; (try dsimp only at H); cbv))
    | (obtain ⟨R, hR, H2⟩ := bindR_go H; refine call_in hJ [0, 1, 2, 3] (by decide) rfl rfl rfl (f113_call _ ho _ _ _ _ _ _ _ _ _ _ _ _ _ hR _ _ ?_); clear H hR; rcases R with ⟨_, _, _, _, _, _⟩; all_goals (replace H := H2; clear H2; (try dsimp only at H); cbv))
    | (obtain ⟨R, hR, H2⟩ := bindR_go H; refine call_in hJ [0, 1, 2, 3] (by decide) rfl rfl rfl (f145_call _ ho _ _ _ _ _ _ _ _ _ _ _ _ _ hR _ _ ?_); clear H hR; rcases R with ⟨_⟩; all_goals (replace H := H2; clear H2; (try dsimp only at H); cbv))
    | (obtain ⟨R, hR, H2⟩ := bindR_go H; refine call_in hJ [0, 1, 2, 3] (by decide) rfl rfl rfl (f144_call _ ho _ _ _ _ _ _ _ _ _ _ _ _ _ hR _ _ ?_); clear H hR; rcases R with ⟨_⟩; all_goals (replace H := H2; clear H2; (try dsimp only at H); cbv))
    | with_reducible refine And.intro ?_ ?_
    | (intro _; clear H h; simp only [ho, stdOps] at *; simp_all))
inductive F65R where
  | v0 (y0 y1 y2 y3 : Int) (y4 : List (AV × AV)) (y5 : List AV)
def F65R.av : F65R → AV
  | .v0 y0 _ _ _ _ _ => .int .i64 y0
def F65R.hp (a2 : List AV) (a3 : Int) (a7 : Bool) : F65R → List Ent
  | .v0 _ y1 y2 y3 y4 y5 => [.fam 0 a2, .var [.int .i64 a3, .mp 2, .vs 3 3 y1 y2 y3, .bool a7], .mp y4, .vec 3 y5]
noncomputable def f65 (o : Ops) (fuel : Nat) (a0 a1 : ByteArray) (a2 : List AV) (a3 a4 a5 a6 : Int) (a7 : Bool) (a8 : List (AV × AV)) (a9 : List AV) : Option F65R :=
  bindR (f92 o fuel a0 a2 a3 a4 a5 a6 a7 a8 a9) fun r => match r with
  | .v0 r10 => ifB (o.bnot (o.cmp .eql r10 0))
    (some (.v0 r10 a4 a5 a6 a8 a9))
    (ifB (o.seq a1 ⟨#[]⟩)
     (some (.v0 31 a4 a5 a6 a8 a9))
     (ifB (o.seq a1 a0)
      (some (.v0 0 a4 a5 a6 a8 a9))
      (req (o.mok false [.str] a8) <|
       findA (o.mfind a8 (.str a1)) (fun e => sh142 e fun v11 =>
       bindR (f94 o fuel v11 a2 a3 a4 a5 a6 a7 a8 a9) fun r => match r with
        | .v0 r12 r13 r14 r15 => req (o.mok false [.str] a8) <|
          req (o.mok false [.str] (o.mdel a8 (.str a0))) <|
          some (.v0 0 r12 r13 r14 (o.mput (o.mdel a8 (.str a0)) (.str a1) (.nilp)) r15))
       (req (o.mok false [.str] a8) <|
        req (o.mok false [.str] (o.mdel a8 (.str a0))) <|
        some (.v0 0 a4 a5 a6 (o.mput (o.mdel a8 (.str a0)) (.str a1) (.nilp)) a9)))))
  | .v1 r16 => ifB (o.bnot (o.cmp .eql 0 0))
    (some (.v0 0 a4 a5 a6 a8 a9))
    (ifB (o.seq a1 ⟨#[]⟩)
     (some (.v0 31 a4 a5 a6 a8 a9))
     (ifB (o.seq a1 a0)
      (some (.v0 0 a4 a5 a6 a8 a9))
      (req (o.mok false [.str] a8) <|
       findA (o.mfind a8 (.str a1)) (fun e => sh142 e fun v17 =>
       bindR (f94 o fuel v17 a2 a3 a4 a5 a6 a7 a8 a9) fun r => match r with
        | .v0 r18 r19 r20 r21 => req (o.mok false [.str] a8) <|
          req (o.mok false [.str] (o.mdel a8 (.str a0))) <|
          some (.v0 0 r18 r19 r20 (o.mput (o.mdel a8 (.str a0)) (.str a1) (.fp 0 r16 0)) r21))
       (req (o.mok false [.str] a8) <|
        req (o.mok false [.str] (o.mdel a8 (.str a0))) <|
        some (.v0 0 a4 a5 a6 (o.mput (o.mdel a8 (.str a0)) (.str a1) (.fp 0 r16 0)) a9)))))
theorem f65_call (o : Ops) (ho : o = stdOps) (fuel : Nat) (a0 a1 : ByteArray) (a2 : List AV) (a3 a4 a5 a6 : Int) (a7 : Bool) (a8 : List (AV × AV)) (a9 : List AV) {R : F65R} (H : f65 o fuel a0 a1 a2 a3 a4 a5 a6 a7 a8 a9 = some R) (K : AV → List Ent → Prop) (E : AV → List Ent → Prop) (h : K R.av (F65R.hp a2 a3 a7 R)) : CallA Try.prog 65 [.ptr 1 0, .str a0, .str a1] [.fam 0 a2, .var [.int .i64 a3, .mp 2, .vs 3 3 a4 a5 a6, .bool a7], .mp a8, .vec 3 a9] K E := by
  refine call_wk fun K' hK => ?_
  refine call_keep (n₀ := 4) tab_ok Try.func65 rfl rfl rfl rfl ?_
  intro J hJ
  obtain rfl : o = J.o := by rw [ho, hJ]; rfl
  unfold f65 at H
  cbv
  repeat' (first
    | ((with_reducible refine awp_go2 ?_); cbv)
    | (refine KeepQ.mk [] (by decide) ?_; cbv; cases H; refine hK _ _ _ _ ?_ ?_ rfl h <;> cbv)
    | (first | refine known_t (kn_bnot_t ho rfl) ?_ | refine known_y (kn_bnot_t ho rfl) ?_)
    | (first | refine known_f (kn_bnot_f ho rfl) ?_ | refine known_x (kn_bnot_f ho rfl) ?_)
    | (refine ifB_go H ?_ ?_ <;> clear H <;> intro hh H)
    | (refine req_go H ?_; clear H; intro hh H)
    | (refine sh142_find H ?_ ?_ <;> clear H; (intro _ H; cbv); rotate_left; (intro H; cbv))
    | (obtain ⟨R, hR, H2⟩ := bindR_go H; refine call_in hJ [0, 1, 2, 3] (by decide) rfl rfl rfl (f94_call _ ho _ _ _ _ _ _ _ _ _ _ hR _ _ ?_); clear H hR; rcases R with ⟨_, _, _, _⟩; all_goals (replace H := H2; clear H2; (try dsimp only at H); cbv))
    | (obtain ⟨R, hR, H2⟩ := bindR_go H; refine call_in hJ [0, 1, 2, 3] (by decide) rfl rfl rfl (f92_call _ ho _ _ _ _ _ _ _ _ _ _ hR _ _ ?_); clear H hR; rcases R with ⟨_⟩ | ⟨_⟩; all_goals (replace H := H2; clear H2; (try dsimp only at H); cbv)))
end Go.Proofs.Ytjdbmfipciadfaa.A
