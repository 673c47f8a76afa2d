/- Functions of the program and of the document's answer, as plain ones. Written by lift.py. -/import Derived.Test.YtjdbmfipciadfaaSy0
import Derived.Test.YtjdbmfipciadfaaStMan
namespace Go.Proofs.Ytjdbmfipciadfaa.A
open Go Go.Pt
set_option maxHeartbeats 4000000
set_option maxRecDepth 100000
inductive F48R where
  | v0
  | v1 (y0 : List (AV × AV)) (y1 : List AV)
def F48R.av : F48R → AV
  | .v0  => .tup [.nilp, .int .i64 1]
  | .v1 _ _ => .tup [.ptr 1 0, .int .i64 0]
def F48R.hp (a0 : Int) (a1 : List AV) : F48R → List Ent
  | .v0  => [.fam 0 a1]
  | .v1 y0 y1 => [.fam 0 a1, .var [.int .i64 a0, .mp 2, .vs 3 3 0 0 0, .bool false], .mp y0, .vec 3 y1]
noncomputable def f48 (o : Ops) (_fuel : Nat) (a0 : Int) (_a1 : List AV) : Option F48R :=
  ifB (o.pick (o.cmp .lss a0 0) true (o.cmp .gtr a0 4194304))
  (some (.v0 ))
  (some (.v1 [] []))
theorem f48_call (o : Ops) (ho : o = stdOps) (fuel : Nat) (a0 : Int) (a1 : List AV) {R : F48R} (H : f48 o fuel a0 a1 = some R) (K : AV → List Ent → Prop) (E : AV → List Ent → Prop) (h : K R.av (F48R.hp a0 a1 R)) : CallA Try.prog 48 [.int .i64 a0] [.fam 0 a1] K E := by
  refine call_wk fun K' hK => ?_
  refine call_keep (n₀ := 1) tab_ok Try.func48 rfl rfl rfl rfl ?_
  intro J hJ
  obtain rfl : o = J.o := by rw [ho, hJ]; rfl
  unfold f48 at H
  cbv
  repeat' (first
    | ((with_reducible refine awp_go2 ?_); cbv)
    | with_reducible exact id
    | (refine KeepQ.tn _ (by first | exact .inl rfl | exact .inr rfl) (Turn.at 3 (turn_nilrh 2 2 3 rfl rfl (leN_t rfl)) rfl) [2, 1, 3] (by decide) ?_; cbv; cases H; refine hK _ _ _ _ ?_ ?_ rfl h <;> cbv)
    | (refine KeepQ.mk [] (by decide) ?_; cbv; cases H; refine hK _ _ _ _ ?_ ?_ rfl h <;> cbv)
    | (refine ifB_go H ?_ ?_ <;> clear H <;> intro hh H)
    | with_reducible refine And.intro ?_ ?_)
inductive F96R where
  | v0 (y0 : Bool)
def F96R.av : F96R → AV
  | .v0 y0 => .bool y0
def F96R.hp (a0 : List AV) (a1 a2 a3 a4 : Int) (a5 : Bool) (a6 : List (AV × AV)) (a7 : List AV) : F96R → List Ent
  | .v0 _ => [.fam 0 a0, .var [.int .i64 a1, .mp 2, .vs 3 3 a2 a3 a4, .bool a5], .mp a6, .vec 3 a7]
noncomputable def f96 (o : Ops) (_fuel : Nat) (_a0 : List AV) (_a1 _a2 _a3 _a4 : Int) (_a5 : Bool) (_a6 : List (AV × AV)) (_a7 : List AV) : Option F96R :=
  some (.v0 (o.pick false true false))
theorem f96_call (o : Ops) (ho : o = stdOps) (fuel : Nat) (a0 : List AV) (a1 a2 a3 a4 : Int) (a5 : Bool) (a6 : List (AV × AV)) (a7 : List AV) {R : F96R} (H : f96 o fuel a0 a1 a2 a3 a4 a5 a6 a7 = some R) (K : AV → List Ent → Prop) (E : AV → List Ent → Prop) (h : K R.av (F96R.hp a0 a1 a2 a3 a4 a5 a6 a7 R)) : CallA Try.prog 96 [.ptr 1 0] [.fam 0 a0, .var [.int .i64 a1, .mp 2, .vs 3 3 a2 a3 a4, .bool a5], .mp a6, .vec 3 a7] K E := by
  refine call_wk fun K' hK => ?_
  refine call_keep (n₀ := 4) tab_ok Try.func96 rfl rfl rfl rfl ?_
  intro J hJ
  obtain rfl : o = J.o := by rw [ho, hJ]; rfl
  unfold f96 at H
  cbv
  repeat' (first
    | with_reducible exact id
    | (refine KeepQ.mk [] (by decide) ?_; cbv; cases H; refine hK _ _ _ _ ?_ ?_ rfl h <;> cbv)
    | with_reducible refine And.intro ?_ ?_)
inductive F97R where
  | v0 (y0 : Int)
def F97R.av : F97R → AV
  | .v0 y0 => .int .i64 y0
def F97R.hp (a0 : List AV) (a1 a2 a3 a4 : Int) (a5 : Bool) (a6 : List (AV × AV)) (a7 : List AV) : F97R → List Ent
  | .v0 _ => [.fam 0 a0, .var [.int .i64 a1, .mp 2, .vs 3 3 a2 a3 a4, .bool a5], .mp a6, .vec 3 a7]
noncomputable def f97 (o : Ops) (fuel : Nat) (a0 : List AV) (a1 a2 a3 a4 : Int) (a5 : Bool) (a6 : List (AV × AV)) (a7 : List AV) : Option F97R :=
  bindR (f96 o fuel a0 a1 a2 a3 a4 a5 a6 a7) fun r => match r with
  | .v0 r8 => ifB r8
    (some (.v0 2))
    (ifB a5
     (some (.v0 32))
     (some (.v0 0)))
theorem f97_call (o : Ops) (ho : o = stdOps) (fuel : Nat) (a0 : List AV) (a1 a2 a3 a4 : Int) (a5 : Bool) (a6 : List (AV × AV)) (a7 : List AV) {R : F97R} (H : f97 o fuel a0 a1 a2 a3 a4 a5 a6 a7 = some R) (K : AV → List Ent → Prop) (E : AV → List Ent → Prop) (h : K R.av (F97R.hp a0 a1 a2 a3 a4 a5 a6 a7 R)) : CallA Try.prog 97 [.ptr 1 0] [.fam 0 a0, .var [.int .i64 a1, .mp 2, .vs 3 3 a2 a3 a4, .bool a5], .mp a6, .vec 3 a7] K E := by
  refine call_wk fun K' hK => ?_
  refine call_keep (n₀ := 4) tab_ok Try.func97 rfl rfl rfl rfl ?_
  intro J hJ
  obtain rfl : o = J.o := by rw [ho, hJ]; rfl
  unfold f97 at H
  cbv
  repeat' (first
    | ((with_reducible refine awp_go2 ?_); cbv)
    | (refine KeepQ.mk [] (by decide) ?_; cbv; cases H; refine hK _ _ _ _ ?_ ?_ rfl h <;> cbv)
    | (refine ifB_go H ?_ ?_ <;> clear H <;> intro hh H)
    | (obtain ⟨R, hR, H2⟩ := bindR_go H; refine call_in hJ [0, 1, 2, 3] (by decide) rfl rfl rfl (f96_call _ ho _ _ _ _ _ _ _ _ _ hR _ _ ?_); clear H hR; rcases R with ⟨_⟩; all_goals (replace H := H2; clear H2; (try dsimp only at H); cbv)))
inductive F63R where
  | v0 (y0 : Int) (y1 : List AV) (y2 : List (AV × AV))
def F63R.av : F63R → AV
  | .v0 y0 _ _ => .int .i64 y0
def F63R.hp (a2 a3 a4 a5 : Int) (a6 : Bool) (a8 : List AV) : F63R → List Ent
  | .v0 _ y1 y2 => [.fam 0 y1, .var [.int .i64 a2, .mp 2, .vs 3 3 a3 a4 a5, .bool a6], .mp y2, .vec 3 a8]
noncomputable def f63 (o : Ops) (fuel : Nat) (a0 : ByteArray) (a1 : List AV) (a2 a3 a4 a5 : Int) (a6 : Bool) (a7 : List (AV × AV)) (a8 : List AV) : Option F63R :=
  bindR (f97 o fuel a1 a2 a3 a4 a5 a6 a7 a8) fun r => match r with
  | .v0 r9 => ifB (o.bnot (o.cmp .eql r9 0))
    (some (.v0 r9 a1 a7))
    (ifB (o.seq a0 ⟨#[]⟩)
     (some (.v0 31 a1 a7))
     (req (o.mok false [.str] a7) <|
      findA (o.mfind a7 (.str a0)) (fun e => sh142 e fun _ =>
      some (.v0 31 a1 a7))
      (ifB (o.cmp .geq (o.mlen a7) 4096)
       (some (.v0 6 a1 a7))
       (req (o.mok false [.str] a7) <|
        some (.v0 0 (o.apnd a1 [.agg [.sl 1 [] .no]]) (o.mput a7 (.str a0) (.fp 0 (o.len a1) 0)))))))
theorem f63_call (o : Ops) (ho : o = stdOps) (fuel : Nat) (a0 : ByteArray) (a1 : List AV) (a2 a3 a4 a5 : Int) (a6 : Bool) (a7 : List (AV × AV)) (a8 : List AV) {R : F63R} (H : f63 o fuel a0 a1 a2 a3 a4 a5 a6 a7 a8 = some R) (K : AV → List Ent → Prop) (E : AV → List Ent → Prop) (h : K R.av (F63R.hp a2 a3 a4 a5 a6 a8 R)) : CallA Try.prog 63 [.ptr 1 0, .str a0] [.fam 0 a1, .var [.int .i64 a2, .mp 2, .vs 3 3 a3 a4 a5, .bool a6], .mp a7, .vec 3 a8] K E := by
  refine call_wk fun K' hK => ?_
  refine call_keep (n₀ := 4) tab_ok Try.func63 rfl rfl rfl rfl ?_
  intro J hJ
  obtain rfl : o = J.o := by rw [ho, hJ]; rfl
  unfold f63 at H
  cbv
  repeat' (first
    | ((with_reducible first | refine awp_go2 ?_ | refine aops_go2 ?_ | refine strip_go2 ?_); cbv)
    | with_reducible exact id
    | (refine KeepQ.mk [] (by decide) ?_; cbv; cases H; refine hK _ _ _ _ ?_ ?_ rfl h <;> cbv)
    | (first | refine known_t (kn_bnot_t ho rfl) ?_ | refine known_y (kn_bnot_t ho rfl) ?_)
    | (first | refine known_f (kn_bnot_f ho rfl) ?_ | refine known_x (kn_bnot_f ho rfl) ?_)
    | (refine ifB_go H ?_ ?_ <;> clear H <;> intro hh H)
    | (refine ifB_og H ?_ ?_ <;> clear H <;> intro hh H)
    | (refine req_go H ?_; clear H; intro hh H)
    | (refine sh142_find H ?_ ?_ <;> clear H; (intro _ H; cbv); rotate_left; (intro H; cbv))
    | (obtain ⟨R, hR, H2⟩ := bindR_go H; refine call_in hJ [0, 1, 2, 3] (by decide) rfl rfl rfl (f97_call _ ho _ _ _ _ _ _ _ _ _ hR _ _ ?_); clear H hR; rcases R with ⟨_⟩; all_goals (replace H := H2; clear H2; (try dsimp only at H); cbv))
    | with_reducible refine And.intro ?_ ?_
    | (intro _; clear H h; simp only [ho, stdOps] at *; simp_all))
inductive F92R where
  | v0 (y0 : Int)
  | v1 (y0 : Int)
def F92R.av : F92R → AV
  | .v0 y0 => .tup [.nilp, .int .i64 y0]
  | .v1 y0 => .tup [.fp 0 y0 0, .int .i64 0]
def F92R.hp (a1 : List AV) (a2 a3 a4 a5 : Int) (a6 : Bool) (a7 : List (AV × AV)) (a8 : List AV) : F92R → List Ent
  | .v0 _ => [.fam 0 a1, .var [.int .i64 a2, .mp 2, .vs 3 3 a3 a4 a5, .bool a6], .mp a7, .vec 3 a8]
  | .v1 _ => [.fam 0 a1, .var [.int .i64 a2, .mp 2, .vs 3 3 a3 a4 a5, .bool a6], .mp a7, .vec 3 a8]
noncomputable def f92 (o : Ops) (fuel : Nat) (a0 : ByteArray) (a1 : List AV) (a2 a3 a4 a5 : Int) (a6 : Bool) (a7 : List (AV × AV)) (a8 : List AV) : Option F92R :=
  bindR (f97 o fuel a1 a2 a3 a4 a5 a6 a7 a8) fun r => match r with
  | .v0 r9 => ifB (o.bnot (o.cmp .eql r9 0))
    (some (.v0 r9))
    (req (o.mok false [.str] a7) <|
     findA (o.mfind a7 (.str a0)) (fun e => sh142 e fun v10 =>
     some (.v1 v10))
     (some (.v0 4)))
theorem f92_call (o : Ops) (ho : o = stdOps) (fuel : Nat) (a0 : ByteArray) (a1 : List AV) (a2 a3 a4 a5 : Int) (a6 : Bool) (a7 : List (AV × AV)) (a8 : List AV) {R : F92R} (H : f92 o fuel a0 a1 a2 a3 a4 a5 a6 a7 a8 = some R) (K : AV → List Ent → Prop) (E : AV → List Ent → Prop) (h : K R.av (F92R.hp a1 a2 a3 a4 a5 a6 a7 a8 R)) : CallA Try.prog 92 [.ptr 1 0, .str a0] [.fam 0 a1, .var [.int .i64 a2, .mp 2, .vs 3 3 a3 a4 a5, .bool a6], .mp a7, .vec 3 a8] K E := by
  refine call_wk fun K' hK => ?_
  refine call_keep (n₀ := 4) tab_ok Try.func92 rfl rfl rfl rfl ?_
  intro J hJ
  obtain rfl : o = J.o := by rw [ho, hJ]; rfl
  unfold f92 at H
  cbv
  repeat' (first
    | ((with_reducible refine awp_go2 ?_); cbv)
    | (refine KeepQ.mk [] (by decide) ?_; cbv; cases H; refine hK _ _ _ _ ?_ ?_ rfl h <;> cbv)
    | (first | refine known_t (kn_bnot_t ho rfl) ?_ | refine known_y (kn_bnot_t ho rfl) ?_)
    | (first | refine known_f (kn_bnot_f ho rfl) ?_ | refine known_x (kn_bnot_f ho rfl) ?_)
    | (refine ifB_go H ?_ ?_ <;> clear H <;> intro hh H)
    | (refine req_go H ?_; clear H; intro hh H)
    | (refine sh142_find H ?_ ?_ <;> clear H; (intro _ H; cbv); rotate_left; (intro H; cbv))
    | (obtain ⟨R, hR, H2⟩ := bindR_go H; refine call_in hJ [0, 1, 2, 3] (by decide) rfl rfl rfl (f97_call _ ho _ _ _ _ _ _ _ _ _ hR _ _ ?_); clear H hR; rcases R with ⟨_⟩; all_goals (replace H := H2; clear H2; (try dsimp only at H); cbv)))
inductive F99R where
  | v0 (y0 : List AV)
def F99R.av : F99R → AV
  | .v0 y0 => .sl 1 y0 .no
def F99R.hp (a3 : List AV) : F99R → List Ent
  | .v0 _ => [.fam 0 a3]
noncomputable def f99 (o : Ops) (fuel : Nat) (a0 : List AV) (a1 : Int) (a2 _a3 : List AV) : Option F99R :=
  req (o.le 0 a1) <|
  req (o.le a1 (o.len a0)) <|
  req (o.le 0 (o.mn (o.len a0) (o.ar .add .i64 a1 (o.len a2)))) <|
  req (o.le (o.mn (o.len a0) (o.ar .add .i64 a1 (o.len a2))) (o.len a0)) <|
  bindR (f139 o fuel [.sl 1 (o.sub a0 0 a1) .no, .sl 1 a2 .no, .sl 1 (o.drop a0 (o.mn (o.len a0) (o.ar .add .i64 a1 (o.len a2)))) .no]) fun r => match r with
  | .v0 r4 => some (.v0 r4)
theorem f99_call (o : Ops) (ho : o = stdOps) (fuel : Nat) (a0 : List AV) (a1 : Int) (a2 a3 : List AV) {R : F99R} (H : f99 o fuel a0 a1 a2 a3 = some R) (K : AV → List Ent → Prop) (E : AV → List Ent → Prop) (h : K R.av (F99R.hp a3 R)) : CallA Try.prog 99 [.sl 1 a0 .no, .int .i64 a1, .sl 1 a2 .no] [.fam 0 a3] K E := by
  refine call_wk fun K' hK => ?_
  refine call_keep (n₀ := 1) tab_ok Try.func99 rfl rfl rfl rfl ?_
  intro J hJ
  obtain rfl : o = J.o := by rw [ho, hJ]; rfl
  unfold f99 at H
  cbv
  repeat' (first
    | (refine KeepQ.mk [] (by decide) ?_; cbv; cases H; refine hK _ _ _ _ ?_ ?_ rfl h <;> cbv)
    | (refine req_go H ?_; clear H; intro hh H)
    | (obtain ⟨R, hR, H2⟩ := bindR_go H; refine call_weakF hJ [.sl 1 [] .no] ?_; cbv; refine call_in hJ [] (by decide) rfl rfl rfl (f139_call _ ho _ _ hR _ _ ?_); clear H hR; rcases R with ⟨_⟩; all_goals (replace H := H2; clear H2; (try dsimp only at H); cbv)))
inductive F95R where
  | v0 (y0 : List AV)
def F95R.av : F95R → AV
  | .v0 y0 => .sl 1 y0 .no
def F95R.hp (a1 : List AV) : F95R → List Ent
  | .v0 _ => [.fam 0 a1]
noncomputable def f95 (o : Ops) (_fuel : Nat) (a0 _a1 : List AV) : Option F95R :=
  isNil a0 false fun b2 =>
  ifB b2
  (some (.v0 []))
  (req (o.room [] a0 1) <|
   some (.v0 (o.apnd [] a0)))
theorem f95_call (o : Ops) (ho : o = stdOps) (fuel : Nat) (a0 a1 : List AV) {R : F95R} (H : f95 o fuel a0 a1 = some R) (K : AV → List Ent → Prop) (E : AV → List Ent → Prop) (h : K R.av (F95R.hp a1 R)) : CallA Try.prog 95 [.sl 1 a0 .no] [.fam 0 a1] K E := by
  refine call_wk fun K' hK => ?_
  refine call_keep (n₀ := 1) tab_ok Try.func95 rfl rfl rfl rfl ?_
  intro J hJ
  obtain rfl : o = J.o := by rw [ho, hJ]; rfl
  unfold f95 at H
  cbv
  repeat' (first
    | ((with_reducible refine awp_go2 ?_); cbv)
    | with_reducible exact ⟨_, rfl⟩
    | (refine KeepQ.mk [] (by decide) ?_; cbv; cases H; refine hK _ _ _ _ ?_ ?_ rfl h <;> cbv)
    | (refine ifB_go H ?_ ?_ <;> clear H <;> intro hh H)
    | (refine req_go H ?_; clear H; intro hh H)
    | (refine nil_go H ?_; clear H; intro b H; cbv)
    | with_reducible refine And.intro ?_ ?_)
end Go.Proofs.Ytjdbmfipciadfaa.A
