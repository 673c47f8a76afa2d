/- Functions of the program and of the document's answer, as plain ones. Written by lift.py. -/import Derived.Test.YtjdbmfipciadfaaSy0
import Derived.Test.YtjdbmfipciadfaaSy2
import Derived.Test.YtjdbmfipciadfaaSy1
namespace Go.Proofs.Ytjdbmfipciadfaa.A
open Go Go.Pt
set_option maxHeartbeats 4000000
set_option maxRecDepth 100000
inductive F39R where
  | v0 (y0 : List AV) (y1 : Int)
def F39R.av : F39R → AV
  | .v0 y0 y1 => .tup [.sl 1 y0 .no, .int .i64 y1]
def F39R.hp (a3 : List AV) (a4 a5 a6 a7 : Int) (a8 : Bool) (a9 : List (AV × AV)) (a10 : List AV) : F39R → List Ent
  | .v0 _ _ => [.fam 0 a3, .var [.int .i64 a4, .mp 2, .vs 3 3 a5 a6 a7, .bool a8], .mp a9, .vec 3 a10]
noncomputable def f39 (o : Ops) (fuel : Nat) (a0 : ByteArray) (a1 a2 : Int) (a3 : List AV) (a4 a5 a6 a7 : Int) (a8 : Bool) (a9 : List (AV × AV)) (a10 : List AV) : Option F39R :=
  bindR (f92 o fuel a0 a3 a4 a5 a6 a7 a8 a9 a10) fun r => match r with
  | .v0 r11 => ifB (o.bnot (o.cmp .eql r11 0))
    (some (.v0 [] r11))
    (none)
  | .v1 r12 => ifB (o.bnot (o.cmp .eql 0 0))
    (some (.v0 [] 0))
    (bindR (f93_1 o fuel r12 a3 a4 a5 a6 a7 a8 a9 a10) fun r => match r with
     | .v0 r13 => ifB (o.pick (o.pick (o.pick (o.cmp .lss a2 0) true (o.cmp .lss a1 0)) true (o.cmp .gtr a1 (o.len r13))) true (o.cmp .gtr a2 (o.ar .sub .i64 (o.len r13) a1)))
       (some (.v0 [] 33))
       (req (o.le 0 a1) <|
        req (o.le a1 (o.ar .add .i64 a1 a2)) <|
        req (o.le (o.ar .add .i64 a1 a2) (o.ar .add .i64 a1 a2)) <|
        req (o.le (o.ar .add .i64 a1 a2) (o.len r13)) <|
        some (.v0 (o.sub r13 a1 (o.ar .add .i64 a1 a2)) 0)))
theorem f39_call (o : Ops) (ho : o = stdOps) (fuel : Nat) (a0 : ByteArray) (a1 a2 : Int) (a3 : List AV) (a4 a5 a6 a7 : Int) (a8 : Bool) (a9 : List (AV × AV)) (a10 : List AV) {R : F39R} (H : f39 o fuel a0 a1 a2 a3 a4 a5 a6 a7 a8 a9 a10 = some R) (K : AV → List Ent → Prop) (E : AV → List Ent → Prop) (h : K R.av (F39R.hp a3 a4 a5 a6 a7 a8 a9 a10 R)) : CallA Try.prog 39 [.ptr 1 0, .str a0, .int .i64 a1, .int .i64 a2] [.fam 0 a3, .var [.int .i64 a4, .mp 2, .vs 3 3 a5 a6 a7, .bool a8], .mp a9, .vec 3 a10] K E := by
  refine call_wk fun K' hK => ?_
  refine call_keep (n₀ := 4) tab_ok Try.func39 rfl rfl rfl rfl ?_
  intro J hJ
  obtain rfl : o = J.o := by rw [ho, hJ]; rfl
  unfold f39 at H
  cbv
  repeat' (first
    | ((with_reducible refine awp_go2 ?_); cbv)
    | with_reducible exact id
    | exact none_go H
    | (refine KeepQ.mk [] (by decide) ?_; cbv; cases H; refine hK _ _ _ _ ?_ ?_ rfl h <;> cbv)
    | (refine ifB_go H ?_ ?_ <;> clear H <;> intro hh H)
    | (refine req_go H ?_; clear H; intro hh H)
    | (refine tok_go ?_; cbv)
    | (obtain ⟨R, hR, H2⟩ := bindR_go H; refine call_in hJ [0, 1, 2, 3] (by decide) rfl rfl rfl (f93_1_call _ ho _ _ _ _ _ _ _ _ _ _ hR _ _ ?_); clear H hR; rcases R with ⟨_⟩; all_goals (replace H := H2; clear H2; (try dsimp only at H); cbv))
    | (obtain ⟨R, hR, H2⟩ := bindR_go H; refine call_in hJ [0, 1, 2, 3] (by decide) rfl rfl rfl (f92_call _ ho _ _ _ _ _ _ _ _ _ _ hR _ _ ?_); clear H hR; rcases R with ⟨_⟩ | ⟨_⟩; all_goals (replace H := H2; clear H2; (try dsimp only at H); cbv))
    | with_reducible refine And.intro ?_ ?_)
inductive F38R where
  | v0 (y0 y1 : Int)
def F38R.av : F38R → AV
  | .v0 y0 y1 => .tup [.int .i64 y0, .int .i64 y1]
def F38R.hp (a1 : List AV) (a2 a3 a4 a5 : Int) (a6 : Bool) (a7 : List (AV × AV)) (a8 : List AV) : F38R → List Ent
  | .v0 _ _ => [.fam 0 a1, .var [.int .i64 a2, .mp 2, .vs 3 3 a3 a4 a5, .bool a6], .mp a7, .vec 3 a8]
noncomputable def f38 (o : Ops) (fuel : Nat) (a0 : ByteArray) (a1 : List AV) (a2 a3 a4 a5 : Int) (a6 : Bool) (a7 : List (AV × AV)) (a8 : List AV) : Option F38R :=
  bindR (f92 o fuel a0 a1 a2 a3 a4 a5 a6 a7 a8) fun r => match r with
  | .v0 r9 => ifB (o.bnot (o.cmp .eql r9 0))
    (some (.v0 0 r9))
    (none)
  | .v1 r10 => ifB (o.bnot (o.cmp .eql 0 0))
    (some (.v0 0 0))
    (bindR (f93_1 o fuel r10 a1 a2 a3 a4 a5 a6 a7 a8) fun r => match r with
     | .v0 r11 => some (.v0 (o.len r11) 0))
theorem f38_call (o : Ops) (ho : o = stdOps) (fuel : Nat) (a0 : ByteArray) (a1 : List AV) (a2 a3 a4 a5 : Int) (a6 : Bool) (a7 : List (AV × AV)) (a8 : List AV) {R : F38R} (H : f38 o fuel a0 a1 a2 a3 a4 a5 a6 a7 a8 = some R) (K : AV → List Ent → Prop) (E : AV → List Ent → Prop) (h : K R.av (F38R.hp a1 a2 a3 a4 a5 a6 a7 a8 R)) : CallA Try.prog 38 [.ptr 1 0, .str a0] [.fam 0 a1, .var [.int .i64 a2, .mp 2, .vs 3 3 a3 a4 a5, .bool a6], .mp a7, .vec 3 a8] K E := by
  refine call_wk fun K' hK => ?_
  refine call_keep (n₀ := 4) tab_ok Try.func38 rfl rfl rfl rfl ?_
  intro J hJ
  obtain rfl : o = J.o := by rw [ho, hJ]; rfl
  unfold f38 at H
  cbv
  repeat' (first
    | ((with_reducible refine awp_go2 ?_); cbv)
    | exact none_go H
    | (refine KeepQ.mk [] (by decide) ?_; cbv; cases H; refine hK _ _ _ _ ?_ ?_ rfl h <;> cbv)
    | (refine ifB_go H ?_ ?_ <;> clear H <;> intro hh H)
    | (obtain ⟨R, hR, H2⟩ := bindR_go H; refine call_in hJ [0, 1, 2, 3] (by decide) rfl rfl rfl (f93_1_call _ ho _ _ _ _ _ _ _ _ _ _ hR _ _ ?_); clear H hR; rcases R with ⟨_⟩; all_goals (replace H := H2; clear H2; (try dsimp only at H); cbv))
    | (obtain ⟨R, hR, H2⟩ := bindR_go H; refine call_in hJ [0, 1, 2, 3] (by decide) rfl rfl rfl (f92_call _ ho _ _ _ _ _ _ _ _ _ _ hR _ _ ?_); clear H hR; rcases R with ⟨_⟩ | ⟨_⟩; all_goals (replace H := H2; clear H2; (try dsimp only at H); cbv)))
inductive F40R where
  | v0 (y0 : Bool)
def F40R.av : F40R → AV
  | .v0 y0 => .bool y0
def F40R.hp (a2 : List AV) : F40R → List Ent
  | .v0 _ => [.fam 0 a2]
noncomputable def f40 (o : Ops) (_fuel : Nat) (a0 a1 _a2 : List AV) : Option F40R :=
  req (o.isb a0) <|
  req (o.isb a1) <|
  some (.v0 (o.seq (o.ofb a0) (o.ofb a1)))
theorem f40_call (o : Ops) (ho : o = stdOps) (fuel : Nat) (a0 a1 a2 : List AV) {R : F40R} (H : f40 o fuel a0 a1 a2 = some R) (K : AV → List Ent → Prop) (E : AV → List Ent → Prop) (h : K R.av (F40R.hp a2 R)) : CallA Try.prog 40 [.sl 1 a0 .no, .sl 1 a1 .no] [.fam 0 a2] K E := by
  refine call_wk fun K' hK => ?_
  refine call_keep (n₀ := 1) tab_ok Try.func40 rfl rfl rfl rfl ?_
  intro J hJ
  obtain rfl : o = J.o := by rw [ho, hJ]; rfl
  unfold f40 at H
  cbv
  repeat' (first
    | (refine KeepQ.mk [] (by decide) ?_; cbv; cases H; refine hK _ _ _ _ ?_ ?_ rfl h <;> cbv)
    | (refine req_go H ?_; clear H; intro hh H))
end Go.Proofs.Ytjdbmfipciadfaa.A
