/- Functions of the program and of the document's answer, as plain ones. Written by lift.py. -/import Derived.Test.YtjdbmfipciadfaaSy0
import Derived.Test.YtjdbmfipciadfaaSy11
import Derived.Test.YtjdbmfipciadfaaSy10
import Derived.Test.YtjdbmfipciadfaaSy9
namespace Go.Proofs.Ytjdbmfipciadfaa.A
open Go Go.Pt
set_option maxHeartbeats 4000000
set_option maxRecDepth 100000
inductive F122R where
  | v0 (y0 : List AV) (y1 : Int)
def F122R.av : F122R → AV
  | .v0 y0 y1 => .tup [.sl 1 y0 .no, .int .i64 y1]
def F122R.hp (a3 : List AV) (a4 a5 a6 a7 a8 a9 a10 : Int) (a11 : Bool) (a12 a13 : List AV) : F122R → List Ent
  | .v0 _ _ => [.fam 0 a3, .var [.vs 2 2 a4 a5 a6, .vs 3 3 a7 a8 a9, .int .i64 a10, .bool a11], .vec 2 a12, .vec 3 a13]
noncomputable def f122 (o : Ops) (fuel : Nat) (a0 : ByteArray) (a1 a2 : Int) (a3 : List AV) (a4 a5 a6 a7 a8 a9 a10 : Int) (a11 : Bool) (a12 a13 : List AV) : Option F122R :=
  bindR (f144 o fuel a0 a3 a4 a5 a6 a7 a8 a9 a10 a11 a12 a13) fun r => match r with
  | .v0 r14 => ifB (o.bnot (o.cmp .eql r14 0))
    (some (.v0 [] r14))
    (bindR (f145 o fuel a0 a3 a4 a5 a6 a7 a8 a9 a10 a11 a12 a13) fun r => match r with
     | .v0 r15 => ifB (o.pick (o.pick (o.pick (o.cmp .lss a2 0) true (o.cmp .lss a1 0)) true (o.cmp .gtr a1 (o.len r15))) true (o.cmp .gtr a2 (o.ar .sub .i64 (o.len r15) a1)))
       (some (.v0 [] 33))
       (req (o.le 0 a1) <|
        req (o.le a1 (o.ar .add .i64 a1 a2)) <|
        req (o.le (o.ar .add .i64 a1 a2) (o.len r15)) <|
        req (o.room [] (o.sub r15 a1 (o.ar .add .i64 a1 a2)) 1) <|
        some (.v0 (o.apnd [] (o.sub r15 a1 (o.ar .add .i64 a1 a2))) 0)))
theorem f122_call (o : Ops) (ho : o = stdOps) (fuel : Nat) (a0 : ByteArray) (a1 a2 : Int) (a3 : List AV) (a4 a5 a6 a7 a8 a9 a10 : Int) (a11 : Bool) (a12 a13 : List AV) {R : F122R} (H : f122 o fuel a0 a1 a2 a3 a4 a5 a6 a7 a8 a9 a10 a11 a12 a13 = some R) (K : AV → List Ent → Prop) (E : AV → List Ent → Prop) (h : K R.av (F122R.hp a3 a4 a5 a6 a7 a8 a9 a10 a11 a12 a13 R)) : CallA Try.prog 122 [.ptr 1 0, .str a0, .int .i64 a1, .int .i64 a2] [.fam 0 a3, .var [.vs 2 2 a4 a5 a6, .vs 3 3 a7 a8 a9, .int .i64 a10, .bool a11], .vec 2 a12, .vec 3 a13] K E := by
  refine call_wk fun K' hK => ?_
  refine call_keep (n₀ := 4) tab_ok Try.func122 rfl rfl rfl rfl ?_
  intro J hJ
  obtain rfl : o = J.o := by rw [ho, hJ]; rfl
  unfold f122 at H
  cbv
  repeat' (first
    | ((with_reducible refine awp_go2 ?_); cbv)
    | with_reducible exact id
    | (refine KeepQ.mk [] (by decide) ?_; cbv; cases H; refine hK _ _ _ _ ?_ ?_ rfl h <;> cbv)
    | (refine ifB_go H ?_ ?_ <;> clear H <;> intro hh H)
    | (refine req_go H ?_; clear H; intro hh H)
    | (obtain ⟨R, hR, H2⟩ := bindR_go H; refine call_in hJ [0, 1, 2, 3] (by decide) rfl rfl rfl (f145_call _ ho _ _ _ _ _ _ _ _ _ _ _ _ _ hR _ _ ?_); clear H hR; rcases R with ⟨_⟩; all_goals (replace H := H2; clear H2; (try dsimp only at H); cbv))
    | (obtain ⟨R, hR, H2⟩ := bindR_go H; refine call_in hJ [0, 1, 2, 3] (by decide) rfl rfl rfl (f144_call _ ho _ _ _ _ _ _ _ _ _ _ _ _ _ hR _ _ ?_); clear H hR; rcases R with ⟨_⟩; all_goals (replace H := H2; clear H2; (try dsimp only at H); cbv))
    | with_reducible refine And.intro ?_ ?_)
inductive F123R where
  | v0 (y0 : List AV) (y1 : Int)
def F123R.av : F123R → AV
  | .v0 y0 y1 => .tup [.sl 1 y0 .no, .int .i64 y1]
def F123R.hp (a1 : List AV) (a2 a3 a4 a5 a6 a7 a8 : Int) (a9 : Bool) (a10 a11 : List AV) : F123R → List Ent
  | .v0 _ _ => [.fam 0 a1, .var [.vs 2 2 a2 a3 a4, .vs 3 3 a5 a6 a7, .int .i64 a8, .bool a9], .vec 2 a10, .vec 3 a11]
noncomputable def f123 (o : Ops) (fuel : Nat) (a0 : ByteArray) (a1 : List AV) (a2 a3 a4 a5 a6 a7 a8 : Int) (a9 : Bool) (a10 a11 : List AV) : Option F123R :=
  bindR (f144 o fuel a0 a1 a2 a3 a4 a5 a6 a7 a8 a9 a10 a11) fun r => match r with
  | .v0 r12 => ifB (o.bnot (o.cmp .eql r12 0))
    (some (.v0 [] r12))
    (bindR (f142 o fuel a0 a1 a2 a3 a4 a5 a6 a7 a8 a9 a10 a11) fun r => match r with
     | .v0 r13 => req (o.inb r13 a3) <|
       req (o.inb (o.sum a2 r13) (o.len a10)) <|
       getA (o.get a10 (o.sum a2 r13)) fun e => sh164 e fun _ v15 =>
       req (o.room [] v15 1) <|
       some (.v0 (o.apnd [] v15) 0))
theorem f123_call (o : Ops) (ho : o = stdOps) (fuel : Nat) (a0 : ByteArray) (a1 : List AV) (a2 a3 a4 a5 a6 a7 a8 : Int) (a9 : Bool) (a10 a11 : List AV) {R : F123R} (H : f123 o fuel a0 a1 a2 a3 a4 a5 a6 a7 a8 a9 a10 a11 = some R) (K : AV → List Ent → Prop) (E : AV → List Ent → Prop) (h : K R.av (F123R.hp a1 a2 a3 a4 a5 a6 a7 a8 a9 a10 a11 R)) : CallA Try.prog 123 [.ptr 1 0, .str a0] [.fam 0 a1, .var [.vs 2 2 a2 a3 a4, .vs 3 3 a5 a6 a7, .int .i64 a8, .bool a9], .vec 2 a10, .vec 3 a11] K E := by
  refine call_wk fun K' hK => ?_
  refine call_keep (n₀ := 4) tab_ok Try.func123 rfl rfl rfl rfl ?_
  intro J hJ
  obtain rfl : o = J.o := by rw [ho, hJ]; rfl
  unfold f123 at H
  cbv
  repeat' (first
    | ((with_reducible refine awp_go2 ?_); cbv)
    | (refine KeepQ.mk [] (by decide) ?_; cbv; cases H; refine hK _ _ _ _ ?_ ?_ rfl h <;> cbv)
    | (refine ifB_go H ?_ ?_ <;> clear H <;> intro hh H)
    | (refine req_go H ?_; clear H; intro hh H)
    | (refine sh164_get H ?_; clear H; intro _ _ he H; cbv)
    | (obtain ⟨R, hR, H2⟩ := bindR_go H; refine call_in hJ [0, 1, 2, 3] (by decide) rfl rfl rfl (f142_call _ ho _ _ _ _ _ _ _ _ _ _ _ _ _ hR _ _ ?_); clear H hR; rcases R with ⟨_⟩; all_goals (replace H := H2; clear H2; (try dsimp only at H); cbv))
    | (obtain ⟨R, hR, H2⟩ := bindR_go H; refine call_in hJ [0, 1, 2, 3] (by decide) rfl rfl rfl (f144_call _ ho _ _ _ _ _ _ _ _ _ _ _ _ _ hR _ _ ?_); clear H hR; rcases R with ⟨_⟩; all_goals (replace H := H2; clear H2; (try dsimp only at H); cbv)))
end Go.Proofs.Ytjdbmfipciadfaa.A
