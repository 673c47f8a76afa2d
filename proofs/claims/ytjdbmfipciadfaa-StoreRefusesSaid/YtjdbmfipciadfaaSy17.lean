/- Functions of the program and of the document's answer, as plain ones. Written by lift.py. -/import Derived.Test.YtjdbmfipciadfaaSy0
namespace Go.Proofs.Ytjdbmfipciadfaa.A
open Go Go.Pt
set_option maxHeartbeats 4000000
set_option maxRecDepth 100000
inductive F138_1R where
  | v0 (y0 : Bool)
def F138_1R.av : F138_1R → AV
  | .v0 y0 => .bool y0
def F138_1R.hp (a3 : List AV) : F138_1R → List Ent
  | .v0 _ => [.fam 0 a3, .var [.nilp]]
noncomputable def f138_1 (_o : Ops) (_fuel : Nat) (_a0 _a1 : Int) (_a2 _a3 : List AV) : Option F138_1R :=
  some (.v0 false)
theorem f138_1_call (o : Ops) (ho : o = stdOps) (fuel : Nat) (a0 a1 : Int) (a2 a3 : List AV) {R : F138_1R} (H : f138_1 o fuel a0 a1 a2 a3 = some R) (K : AV → List Ent → Prop) (E : AV → List Ent → Prop) (h : K R.av (F138_1R.hp a3 R)) : CallA Try.prog 138 [.agg [.fp 0 a0 0, .int .i64 a1, .sl 1 a2 .no], .ptr 1 0] [.fam 0 a3, .var [.nilp]] K E := by
  refine call_wk fun K' hK => ?_
  refine call_keep (n₀ := 2) tab_ok Try.func138 rfl rfl rfl rfl ?_
  intro J hJ
  obtain rfl : o = J.o := by rw [ho, hJ]; rfl
  unfold f138_1 at H
  cbv
  repeat' (first
    | (refine KeepQ.mk [] (by decide) ?_; cbv; cases H; refine hK _ _ _ _ ?_ ?_ rfl h <;> cbv))
inductive F157_1R where
  | v0 (y0 : Int)
def F157_1R.av : F157_1R → AV
  | .v0 y0 => .int .i64 y0
def F157_1R.hp (a3 a4 : List AV) : F157_1R → List Ent
  | .v0 _ => [.fam 0 a3, .vec 3 a4, .var [.nilp]]
inductive F157_1L0 where
  | x0 (y0 : Int)
  | x1
noncomputable def f157_1_l0 (o : Ops) (fuel : Nat) (a1 a0 : Int) (a4 a3 : List AV) (a2 : Int) : Nat → Int → Option F157_1L0
  | 0, _ => none
  | n + 1, w9 =>
    ifB (o.cmp .lss w9 a1)
    (req (o.inb w9 a1) <|
     req (o.inb (o.sum a0 w9) (o.len a4)) <|
     getA (o.get a4 (o.sum a0 w9)) fun e => sh150 e fun v10 v11 v12 =>
     bindR (f138_1 o fuel v10 v11 v12 a3) fun r => match r with
     | .v0 r13 => ifB r13
       (some (.x0 w9))
       (f157_1_l0 o fuel a1 a0 a4 a3 a2 n (o.ar .add .i64 w9 1)))
    (some (.x1 ))
theorem f157_1_l0_go {J : Jd} {n₀ : Nat} (hJ : J = std Try.prog n₀) {o : Ops} (hJo : J.o = o) {fuel : Nat} {a1 a0 : Int} {a4 a3 : List AV} {a2 : Int} {w9i : Int} {α : Type} {k : F157_1L0 → Option α} {r : α} {c : Code} {Q : Ex → St → Prop} {s : St}
    (H : bindR (f157_1_l0 o fuel a1 a0 a4 a3 a2 fuel w9i) k = some r) (hn : n₀ ≤ 3) (hle : Le s ⟨[(8, .int .i64 w9i), (7, .int .i64 a1), (1, .func 138 [.ptr 2 0]), (0, .vs 1 3 a0 a1 a2)], [.fam 0 a3, .vec 3 a4, .var [.nilp]], 19⟩)
    (round : ∀ X, k X = some r → ∀ (n : Nat) (w9 : Int), f157_1_l0 o fuel a1 a0 a4 a3 a2 (n + 1) w9 = some X → ∀ N : St → Prop,
      (∀ (env : List (Nat × AV)) (w9' : Int) (v : List Ent), f157_1_l0 o fuel a1 a0 a4 a3 a2 n w9' = some X → wkEnv env [(8, .int .i64 w9'), (7, .int .i64 a1), (1, .func 138 [.ptr 2 0]), (0, .vs 1 3 a0 a1 a2)] → N ⟨env, [.fam 0 a3, .vec 3 a4, .var [.nilp]] ++ v, 19⟩) → awp J tab c (thenQ N Q) ⟨[(8, .int .i64 w9), (7, .int .i64 a1), (1, .func 138 [.ptr 2 0]), (0, .vs 1 3 a0 a1 a2)], [.fam 0 a3, .vec 3 a4, .var [.nilp]], 19⟩) : J.code (.loop c) Q s := by
  subst hJo
  obtain ⟨X, hX, HX⟩ := bindR_go H
  refine loop_at (β := Nat × Int) hJ tab_ok (fun | (_, w9) => ⟨[(8, .int .i64 w9), (7, .int .i64 a1), (1, .func 138 [.ptr 2 0]), (0, .vs 1 3 a0 a1 a2)], [.fam 0 a3, .vec 3 a4, .var [.nilp]], 19⟩) (fun | (n, w9) => f157_1_l0 J.o fuel a1 a0 a4 a3 a2 n w9 = some X) (fun | (n, _) => n) (fuel, w9i) hX hle (by rintro ⟨_, _⟩; exact hn) ?_
  rintro ⟨n, w9⟩ hb N hN
  rcases n with _ | n
  · exact none_go (show (none : Option F157_1L0) = some X from hb)
  exact round X HX n w9 hb N fun env w9' v h1 h2 => hN _ (n, w9') h1 (Nat.lt_succ_self n) ⟨h2, by first | (cbv; done) | (cbv; repeat' (first | exact trivial | exact rfl | apply And.intro)), rfl, rfl⟩
noncomputable def f157_1 (o : Ops) (fuel : Nat) (a0 a1 a2 : Int) (a3 a4 : List AV) : Option F157_1R :=
  bindR (f157_1_l0 o fuel a1 a0 a4 a3 a2 fuel 0) fun r => match r with
  | .x0 y14 => some (.v0 y14)
  | .x1  => some (.v0 (-1))
theorem f157_1_call (o : Ops) (ho : o = stdOps) (fuel : Nat) (a0 a1 a2 : Int) (a3 a4 : List AV) {R : F157_1R} (H : f157_1 o fuel a0 a1 a2 a3 a4 = some R) (K : AV → List Ent → Prop) (E : AV → List Ent → Prop) (h : K R.av (F157_1R.hp a3 a4 R)) : CallA Try.prog 157 [.vs 1 3 a0 a1 a2, .func 138 [.ptr 2 0]] [.fam 0 a3, .vec 3 a4, .var [.nilp]] K E := by
  refine call_wk fun K' hK => ?_
  refine call_keep (n₀ := 3) tab_ok Try.func157 rfl rfl rfl rfl ?_
  intro J hJ
  obtain rfl : o = J.o := by rw [ho, hJ]; rfl
  unfold f157_1 at H
  cbv
  repeat' (first
    | ((with_reducible refine awp_go2 ?_); cbv)
    | (cases H; replace H := HX0; clear HX0; (try dsimp only at H))
    | (refine KeepQ.mk [] (by decide) ?_; cbv; cases H; refine hK _ _ _ _ ?_ ?_ rfl h <;> cbv)
    | (refine hN0 _ _ _ H ?_; with_reducible refine wkEnv_go2 ?_; cbv)
    | (refine ifB_go H ?_ ?_ <;> clear H <;> intro hh H)
    | (refine req_go H ?_; clear H; intro hh H)
    | (refine sh150_get H ?_; clear H; intro _ _ _ he H; cbv)
    | (obtain ⟨R, hR, H2⟩ := bindR_go H; refine call_in hJ [0, 2] (by decide) rfl rfl rfl (f138_1_call _ ho _ _ _ _ _ hR _ _ ?_); clear H hR; rcases R with ⟨_⟩; all_goals (replace H := H2; clear H2; (try dsimp only at H); cbv))
    | (refine f157_1_l0_go hJ (o := J.o) rfl H (by decide) ⟨?_, ?_, rfl, rfl⟩ ?_
       · cbv; (repeat' (first | exact trivial | exact rfl | apply And.intro))
       · cbv; (repeat' (first | exact trivial | exact rfl | apply And.intro))
       clear H
       intro X0 HX0 n _ H Nx0 hN0
       rw [f157_1_l0] at H
       cbv))
inductive F137_1R where
  | v0 (y0 y1 y2 : Int) (y3 : List AV)
def F137_1R.av : F137_1R → AV
  | .v0 y0 y1 y2 _ => .vs 1 3 y0 y1 y2
def F137_1R.hp (a3 : List AV) : F137_1R → List Ent
  | .v0 _ _ _ y3 => [.fam 0 a3, .vec 3 y3, .var [.nilp]]
inductive F137_1L0 where
  | x0 (y0 : Int) (y1 : List AV)
noncomputable def f137_1_l0 (o : Ops) (fuel : Nat) (a1 a0 : Int) (a3 : List AV) (a2 : Int) : Nat → Int → Int → List AV → Option F137_1L0
  | 0, _, _, _ => none
  | n + 1, w10, w11, w12 =>
    ifB (o.cmp .lss w11 a1)
    (req (o.inb w11 a1) <|
     req (o.inb (o.sum a0 w11) (o.len w12)) <|
     getA (o.get w12 (o.sum a0 w11)) fun e => sh150 e fun v13 v14 v15 =>
     bindR (f138_1 o fuel v13 v14 v15 a3) fun r => match r with
     | .v0 r16 => ifB (o.bnot r16)
       (req (o.inb w10 a1) <|
        req (o.inb (o.sum a0 w10) (o.len w12)) <|
        f137_1_l0 o fuel a1 a0 a3 a2 n (o.ar .add .i64 w10 1) (o.ar .add .i64 w11 1) (o.upd w12 (o.sum a0 w10) (.agg [.fp 0 v13 0, .int .i64 v14, .sl 1 v15 .no])))
       (f137_1_l0 o fuel a1 a0 a3 a2 n w10 (o.ar .add .i64 w11 1) w12))
    (some (.x0 w10 w12))
theorem f137_1_l0_go {J : Jd} {n₀ : Nat} (hJ : J = std Try.prog n₀) {o : Ops} (hJo : J.o = o) {fuel : Nat} {a1 a0 : Int} {a3 : List AV} {a2 : Int} {w10i : Int} {w11i : Int} {w12i : List AV} {α : Type} {k : F137_1L0 → Option α} {r : α} {c : Code} {Q : Ex → St → Prop} {s : St}
    (H : bindR (f137_1_l0 o fuel a1 a0 a3 a2 fuel w10i w11i w12i) k = some r) (hn : n₀ ≤ 3) (hle : Le s ⟨[(6, .int .i64 w11i), (5, .int .i64 w10i), (1, .func 138 [.ptr 2 0]), (0, .vs 1 3 a0 a1 a2)], [.fam 0 a3, .vec 3 w12i, .var [.nilp]], 42⟩)
    (round : ∀ X, k X = some r → ∀ (n : Nat) (w10 : Int) (w11 : Int) (w12 : List AV), f137_1_l0 o fuel a1 a0 a3 a2 (n + 1) w10 w11 w12 = some X → ∀ N : St → Prop,
      (∀ (env : List (Nat × AV)) (w10' : Int) (w11' : Int) (w12' : List AV) (v : List Ent), f137_1_l0 o fuel a1 a0 a3 a2 n w10' w11' w12' = some X → wkEnv env [(6, .int .i64 w11'), (5, .int .i64 w10'), (1, .func 138 [.ptr 2 0]), (0, .vs 1 3 a0 a1 a2)] → N ⟨env, [.fam 0 a3, .vec 3 w12', .var [.nilp]] ++ v, 42⟩) → awp J tab c (thenQ N Q) ⟨[(6, .int .i64 w11), (5, .int .i64 w10), (1, .func 138 [.ptr 2 0]), (0, .vs 1 3 a0 a1 a2)], [.fam 0 a3, .vec 3 w12, .var [.nilp]], 42⟩) : J.code (.loop c) Q s := by
  subst hJo
  obtain ⟨X, hX, HX⟩ := bindR_go H
  refine loop_at (β := Nat × Int × Int × List AV) hJ tab_ok (fun | (_, w10, w11, w12) => ⟨[(6, .int .i64 w11), (5, .int .i64 w10), (1, .func 138 [.ptr 2 0]), (0, .vs 1 3 a0 a1 a2)], [.fam 0 a3, .vec 3 w12, .var [.nilp]], 42⟩) (fun | (n, w10, w11, w12) => f137_1_l0 J.o fuel a1 a0 a3 a2 n w10 w11 w12 = some X) (fun | (n, _, _, _) => n) (fuel, w10i, w11i, w12i) hX hle (by rintro ⟨_, _, _, _⟩; exact hn) ?_
  rintro ⟨n, w10, w11, w12⟩ hb N hN
  rcases n with _ | n
  · exact none_go (show (none : Option F137_1L0) = some X from hb)
  exact round X HX n w10 w11 w12 hb N fun env w10' w11' w12' v h1 h2 => hN _ (n, w10', w11', w12') h1 (Nat.lt_succ_self n) ⟨h2, by first | (cbv; done) | (cbv; repeat' (first | exact trivial | exact rfl | apply And.intro)), rfl, rfl⟩
noncomputable def f137_1 (o : Ops) (fuel : Nat) (a0 a1 a2 : Int) (a3 a4 : List AV) : Option F137_1R :=
  bindR (f157_1 o fuel a0 a1 a2 a3 a4) fun r => match r with
  | .v0 r5 => ifB (o.cmp .eql r5 (-1))
    (some (.v0 a0 a1 a2 a4))
    (bindR (f137_1_l0 o fuel a1 a0 a3 a2 fuel r5 (o.ar .add .i64 r5 1) a4) fun r => match r with
     | .x0 y17 y18 => req (o.le 0 y17) <|
       req (o.le y17 a1) <|
       req (o.le 0 (o.sum a0 y17)) <|
       req (o.le 0 (o.dif a1 y17)) <|
       req (o.le (o.sum (o.sum a0 y17) (o.dif a1 y17)) (o.len y18)) <|
       req (o.le 0 y17) <|
       req (o.le (o.sum a0 y17) a2) <|
       some (.v0 a0 y17 a2 (o.lay y18 (o.sum a0 y17) (o.rep (o.dif a1 y17) (.agg [.nilp, .int .i64 0, .nils])))))
theorem f137_1_call (o : Ops) (ho : o = stdOps) (fuel : Nat) (a0 a1 a2 : Int) (a3 a4 : List AV) {R : F137_1R} (H : f137_1 o fuel a0 a1 a2 a3 a4 = some R) (K : AV → List Ent → Prop) (E : AV → List Ent → Prop) (h : K R.av (F137_1R.hp a3 R)) : CallA Try.prog 137 [.vs 1 3 a0 a1 a2, .func 138 [.ptr 2 0]] [.fam 0 a3, .vec 3 a4, .var [.nilp]] K E := by
  refine call_wk fun K' hK => ?_
  refine call_keep (n₀ := 3) tab_ok Try.func137 rfl rfl rfl rfl ?_
  intro J hJ
  obtain rfl : o = J.o := by rw [ho, hJ]; rfl
  unfold f137_1 at H
  cbv
  repeat' (first
    | ((with_reducible refine awp_go2 ?_); cbv)
    | (cases H; replace H := HX0; clear HX0; (try dsimp only at H))
    | (refine KeepQ.mk [] (by decide) ?_; cbv; cases H; refine hK _ _ _ _ ?_ ?_ rfl h <;> cbv)
    | (refine hN0 _ _ _ _ _ H ?_; with_reducible refine wkEnv_go2 ?_; cbv)
    | (refine ifB_go H ?_ ?_ <;> clear H <;> intro hh H)
    | (refine req_go H ?_; clear H; intro hh H)
    | (refine sh150_get H ?_; clear H; intro _ _ _ he H; cbv)
    | (obtain ⟨R, hR, H2⟩ := bindR_go H; refine call_in hJ [0, 2] (by decide) rfl rfl rfl (f138_1_call _ ho _ _ _ _ _ hR _ _ ?_); clear H hR; rcases R with ⟨_⟩; all_goals (replace H := H2; clear H2; (try dsimp only at H); cbv))
    | (obtain ⟨R, hR, H2⟩ := bindR_go H; refine call_in hJ [0, 1, 2] (by decide) rfl rfl rfl (f157_1_call _ ho _ _ _ _ _ _ hR _ _ ?_); clear H hR; rcases R with ⟨_⟩; all_goals (replace H := H2; clear H2; (try dsimp only at H); cbv))
    | (refine f137_1_l0_go hJ (o := J.o) rfl H (by decide) ⟨?_, ?_, rfl, rfl⟩ ?_
       · cbv; (repeat' (first | exact trivial | exact rfl | apply And.intro))
       · cbv; (repeat' (first | exact trivial | exact rfl | apply And.intro))
       clear H
       intro X0 HX0 n _ _ _ H Nx0 hN0
       rw [f137_1_l0] at H
       cbv))
inductive F94_1R where
  | v0 (y0 y1 y2 : Int) (y3 : List AV)
def F94_1R.av : F94_1R → AV
  | .v0 _ _ _ _ => .tup []
def F94_1R.hp (a0 : List AV) (a1 : Int) (a5 : Bool) (a6 : List (AV × AV)) : F94_1R → List Ent
  | .v0 y0 y1 y2 y3 => [.fam 0 a0, .var [.int .i64 a1, .mp 2, .vs 3 3 y0 y1 y2, .bool a5], .mp a6, .vec 3 y3]
noncomputable def f94_1 (o : Ops) (fuel : Nat) (a0 : List AV) (_a1 a2 a3 a4 : Int) (_a5 : Bool) (_a6 : List (AV × AV)) (a7 : List AV) : Option F94_1R :=
  bindR (f137_1 o fuel a2 a3 a4 a0 a7) fun r => match r with
  | .v0 r8 r9 r10 r11 => some (.v0 r8 r9 r10 r11)
theorem f94_1_call (o : Ops) (ho : o = stdOps) (fuel : Nat) (a0 : List AV) (a1 a2 a3 a4 : Int) (a5 : Bool) (a6 : List (AV × AV)) (a7 : List AV) {R : F94_1R} (H : f94_1 o fuel a0 a1 a2 a3 a4 a5 a6 a7 = some R) (K : AV → List Ent → Prop) (E : AV → List Ent → Prop) (h : K R.av (F94_1R.hp a0 a1 a5 a6 R)) : CallA Try.prog 94 [.ptr 1 0, .nilp] [.fam 0 a0, .var [.int .i64 a1, .mp 2, .vs 3 3 a2 a3 a4, .bool a5], .mp a6, .vec 3 a7] K E := by
  refine call_wk fun K' hK => ?_
  refine call_keep (n₀ := 4) tab_ok Try.func94 rfl rfl rfl rfl ?_
  intro J hJ
  obtain rfl : o = J.o := by rw [ho, hJ]; rfl
  unfold f94_1 at H
  cbv
  repeat' (first
    | (refine KeepQ.mk [] (by decide) ?_; cbv; cases H; refine hK _ _ _ _ ?_ ?_ rfl h <;> cbv)
    | (obtain ⟨R, hR, H2⟩ := bindR_go H; refine call_in hJ [0, 3, 4] (by decide) rfl rfl rfl (f137_1_call _ ho _ _ _ _ _ _ hR _ _ ?_); clear H hR; rcases R with ⟨_, _, _, _⟩; all_goals (replace H := H2; clear H2; (try dsimp only at H); cbv)))
end Go.Proofs.Ytjdbmfipciadfaa.A
