/- Functions of the program and of the document's answer, as plain ones. Written by lift.py. -/import Derived.Test.YtjdbmfipciadfaaSy0
namespace Go.Proofs.Ytjdbmfipciadfaa.A
open Go Go.Pt
set_option maxHeartbeats 4000000
set_option maxRecDepth 100000
inductive F117R where
  | v0 (y0 : Int) (y1 : Bool)
def F117R.av : F117R → AV
  | .v0 y0 _ => .int .i64 y0
def F117R.hp (a0 : List AV) (a1 a2 a3 a4 a5 a6 a7 : Int) (a9 a10 : List AV) : F117R → List Ent
  | .v0 _ y1 => [.fam 0 a0, .var [.vs 2 2 a1 a2 a3, .vs 3 3 a4 a5 a6, .int .i64 a7, .bool y1], .vec 2 a9, .vec 3 a10]
noncomputable def f117 (o : Ops) (_fuel : Nat) (_a0 : List AV) (_a1 _a2 _a3 _a4 _a5 _a6 _a7 : Int) (a8 : Bool) (_a9 _a10 : List AV) : Option F117R :=
  ifB (o.bnot a8)
  (some (.v0 1 a8))
  (some (.v0 0 false))
theorem f117_call (o : Ops) (ho : o = stdOps) (fuel : Nat) (a0 : List AV) (a1 a2 a3 a4 a5 a6 a7 : Int) (a8 : Bool) (a9 a10 : List AV) {R : F117R} (H : f117 o fuel a0 a1 a2 a3 a4 a5 a6 a7 a8 a9 a10 = some R) (K : AV → List Ent → Prop) (E : AV → List Ent → Prop) (h : K R.av (F117R.hp a0 a1 a2 a3 a4 a5 a6 a7 a9 a10 R)) : CallA Try.prog 117 [.ptr 1 0] [.fam 0 a0, .var [.vs 2 2 a1 a2 a3, .vs 3 3 a4 a5 a6, .int .i64 a7, .bool a8], .vec 2 a9, .vec 3 a10] K E := by
  refine call_wk fun K' hK => ?_
  refine call_keep (n₀ := 4) tab_ok Try.func117 rfl rfl rfl rfl ?_
  intro J hJ
  obtain rfl : o = J.o := by rw [ho, hJ]; rfl
  unfold f117 at H
  cbv
  repeat' (first
    | ((with_reducible refine awp_go2 ?_); cbv)
    | (refine KeepQ.mk [] (by decide) ?_; cbv; cases H; refine hK _ _ _ _ ?_ ?_ rfl h <;> cbv)
    | (refine ifB_go H ?_ ?_ <;> clear H <;> intro hh H))
end Go.Proofs.Ytjdbmfipciadfaa.A
