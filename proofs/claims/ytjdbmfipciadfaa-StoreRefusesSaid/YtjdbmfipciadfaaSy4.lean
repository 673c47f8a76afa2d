/- Functions of the program and of the document's answer, as plain ones. Written by lift.py. -/import Derived.Test.YtjdbmfipciadfaaSy0
namespace Go.Proofs.Ytjdbmfipciadfaa.A
open Go Go.Pt
set_option maxHeartbeats 4000000
set_option maxRecDepth 100000
inductive F138R where
  | v0 (y0 : Bool)
def F138R.av : F138R → AV
  | .v0 y0 => .bool y0
def F138R.hp (a3 : List AV) (a4 : Int) : F138R → List Ent
  | .v0 _ => [.fam 0 a3, .var [.fp 0 a4 0]]
noncomputable def f138 (o : Ops) (_fuel : Nat) (a0 _a1 : Int) (_a2 _a3 : List AV) (a4 : Int) : Option F138R :=
  some (.v0 (o.cmp .eql a0 a4))
theorem f138_call (o : Ops) (ho : o = stdOps) (fuel : Nat) (a0 a1 : Int) (a2 a3 : List AV) (a4 : Int) {R : F138R} (H : f138 o fuel a0 a1 a2 a3 a4 = some R) (K : AV → List Ent → Prop) (E : AV → List Ent → Prop) (h : K R.av (F138R.hp a3 a4 R)) : CallA Try.prog 138 [.agg [.fp 0 a0 0, .int .i64 a1, .sl 1 a2 .no], .ptr 1 0] [.fam 0 a3, .var [.fp 0 a4 0]] K E := by
  refine call_wk fun K' hK => ?_
  refine call_keep (n₀ := 2) tab_ok Try.func138 rfl rfl rfl rfl ?_
  intro J hJ
  obtain rfl : o = J.o := by rw [ho, hJ]; rfl
  unfold f138 at H
  cbv
  repeat' (first
    | (refine KeepQ.mk [] (by decide) ?_; cbv; cases H; refine hK _ _ _ _ ?_ ?_ rfl h <;> cbv))
inductive F157R where
  | v0 (y0 : Int)
def F157R.av : F157R → AV
  | .v0 y0 => .int .i64 y0
def F157R.hp (a3 a4 : List AV) (a5 : Int) : F157R → List Ent
  | .v0 _ => [.fam 0 a3, .vec 3 a4, .var [.fp 0 a5 0]]
inductive F157L0 where
  | x0 (y0 : Int)
  | x1
noncomputable def f157_l0 (o : Ops) (fuel : Nat) (a1 a0 : Int) (a4 a3 : List AV) (a5 a2 : Int) : Nat → Int → Option F157L0
  | 0, _ => none
  | n + 1, w10 =>
    ifB (o.cmp .lss w10 a1)
    (req (o.inb w10 a1) <|
     req (o.inb (o.sum a0 w10) (o.len a4)) <|
     getA (o.get a4 (o.sum a0 w10)) fun e => sh150 e fun v11 v12 v13 =>
     bindR (f138 o fuel v11 v12 v13 a3 a5) fun r => match r with
     | .v0 r14 => ifB r14
       (some (.x0 w10))
       (f157_l0 o fuel a1 a0 a4 a3 a5 a2 n (o.ar .add .i64 w10 1)))
    (some (.x1 ))
theorem f157_l0_go {J : Jd} {n₀ : Nat} (hJ : J = std Try.prog n₀) {o : Ops} (hJo : J.o = o) {fuel : Nat} {a1 a0 : Int} {a4 a3 : List AV} {a5 a2 : Int} {w10i : Int} {α : Type} {k : F157L0 → Option α} {r : α} {c : Code} {Q : Ex → St → Prop} {s : St}
    (H : bindR (f157_l0 o fuel a1 a0 a4 a3 a5 a2 fuel w10i) k = some r) (hn : n₀ ≤ 3) (hle : Le s ⟨[(8, .int .i64 w10i), (7, .int .i64 a1), (1, .func 138 [.ptr 2 0]), (0, .vs 1 3 a0 a1 a2)], [.fam 0 a3, .vec 3 a4, .var [.fp 0 a5 0]], 19⟩)
    (round : ∀ X, k X = some r → ∀ (n : Nat) (w10 : Int), f157_l0 o fuel a1 a0 a4 a3 a5 a2 (n + 1) w10 = some X → ∀ N : St → Prop,
      (∀ (env : List (Nat × AV)) (w10' : Int) (v : List Ent), f157_l0 o fuel a1 a0 a4 a3 a5 a2 n w10' = some X → wkEnv env [(8, .int .i64 w10'), (7, .int .i64 a1), (1, .func 138 [.ptr 2 0]), (0, .vs 1 3 a0 a1 a2)] → N ⟨env, [.fam 0 a3, .vec 3 a4, .var [.fp 0 a5 0]] ++ v, 19⟩) → awp J tab c (thenQ N Q) ⟨[(8, .int .i64 w10), (7, .int .i64 a1), (1, .func 138 [.ptr 2 0]), (0, .vs 1 3 a0 a1 a2)], [.fam 0 a3, .vec 3 a4, .var [.fp 0 a5 0]], 19⟩) : J.code (.loop c) Q s := by
  subst hJo
  obtain ⟨X, hX, HX⟩ := bindR_go H
  refine loop_at (β := Nat × Int) hJ tab_ok (fun | (_, w10) => ⟨[(8, .int .i64 w10), (7, .int .i64 a1), (1, .func 138 [.ptr 2 0]), (0, .vs 1 3 a0 a1 a2)], [.fam 0 a3, .vec 3 a4, .var [.fp 0 a5 0]], 19⟩) (fun | (n, w10) => f157_l0 J.o fuel a1 a0 a4 a3 a5 a2 n w10 = some X) (fun | (n, _) => n) (fuel, w10i) hX hle (by rintro ⟨_, _⟩; exact hn) ?_
  rintro ⟨n, w10⟩ hb N hN
  rcases n with _ | n
  · exact none_go (show (none : Option F157L0) = some X from hb)
  exact round X HX n w10 hb N fun env w10' v h1 h2 => hN _ (n, w10') h1 (Nat.lt_succ_self n) ⟨h2, by first | (cbv; done) | (cbv; repeat' (first | exact trivial | exact rfl | apply And.intro)), rfl, rfl⟩
noncomputable def f157 (o : Ops) (fuel : Nat) (a0 a1 a2 : Int) (a3 a4 : List AV) (a5 : Int) : Option F157R :=
  bindR (f157_l0 o fuel a1 a0 a4 a3 a5 a2 fuel 0) fun r => match r with
  | .x0 y15 => some (.v0 y15)
  | .x1  => some (.v0 (-1))
theorem f157_call (o : Ops) (ho : o = stdOps) (fuel : Nat) (a0 a1 a2 : Int) (a3 a4 : List AV) (a5 : Int) {R : F157R} (H : f157 o fuel a0 a1 a2 a3 a4 a5 = some R) (K : AV → List Ent → Prop) (E : AV → List Ent → Prop) (h : K R.av (F157R.hp a3 a4 a5 R)) : CallA Try.prog 157 [.vs 1 3 a0 a1 a2, .func 138 [.ptr 2 0]] [.fam 0 a3, .vec 3 a4, .var [.fp 0 a5 0]] K E := by
  refine call_wk fun K' hK => ?_
  refine call_keep (n₀ := 3) tab_ok Try.func157 rfl rfl rfl rfl ?_
  intro J hJ
  obtain rfl : o = J.o := by rw [ho, hJ]; rfl
  unfold f157 at H
  cbv
  repeat' (first
    | ((with_reducible refine awp_go2 ?_); cbv)
    | (cases H; replace H := HX0; clear HX0; (try dsimp only at H))
    | (refine KeepQ.mk [] (by decide) ?_; cbv; cases H; refine hK _ _ _ _ ?_ ?_ rfl h <;> cbv)
    | (refine hN0 _ _ _ H ?_; with_reducible refine wkEnv_go2 ?_; cbv)
    | (refine ifB_go H ?_ ?_ <;> clear H <;> intro hh H)
    | (refine req_go H ?_; clear H; intro hh H)
    | (refine sh150_get H ?_; clear H; intro _ _ _ he H; cbv)
    | (obtain ⟨R, hR, H2⟩ := bindR_go H; refine call_in hJ [0, 2] (by decide) rfl rfl rfl (f138_call _ ho _ _ _ _ _ _ hR _ _ ?_); clear H hR; rcases R with ⟨_⟩; all_goals (replace H := H2; clear H2; (try dsimp only at H); cbv))
    | (refine f157_l0_go hJ (o := J.o) rfl H (by decide) ⟨?_, ?_, rfl, rfl⟩ ?_
       · cbv; (repeat' (first | exact trivial | exact rfl | apply And.intro))
       · cbv; (repeat' (first | exact trivial | exact rfl | apply And.intro))
       clear H
       intro X0 HX0 n _ H Nx0 hN0
       rw [f157_l0] at H
       cbv))
inductive F137R where
  | v0 (y0 y1 y2 : Int) (y3 : List AV)
def F137R.av : F137R → AV
  | .v0 y0 y1 y2 _ => .vs 1 3 y0 y1 y2
def F137R.hp (a3 : List AV) (a5 : Int) : F137R → List Ent
  | .v0 _ _ _ y3 => [.fam 0 a3, .vec 3 y3, .var [.fp 0 a5 0]]
inductive F137L0 where
  | x0 (y0 : Int) (y1 : List AV)
noncomputable def f137_l0 (o : Ops) (fuel : Nat) (a1 a0 : Int) (a3 : List AV) (a5 a2 : Int) : Nat → Int → Int → List AV → Option F137L0
  | 0, _, _, _ => none
  | n + 1, w11, w12, w13 =>
    ifB (o.cmp .lss w12 a1)
    (req (o.inb w12 a1) <|
     req (o.inb (o.sum a0 w12) (o.len w13)) <|
     getA (o.get w13 (o.sum a0 w12)) fun e => sh150 e fun v14 v15 v16 =>
     bindR (f138 o fuel v14 v15 v16 a3 a5) fun r => match r with
     | .v0 r17 => ifB (o.bnot r17)
       (req (o.inb w11 a1) <|
        req (o.inb (o.sum a0 w11) (o.len w13)) <|
        f137_l0 o fuel a1 a0 a3 a5 a2 n (o.ar .add .i64 w11 1) (o.ar .add .i64 w12 1) (o.upd w13 (o.sum a0 w11) (.agg [.fp 0 v14 0, .int .i64 v15, .sl 1 v16 .no])))
       (f137_l0 o fuel a1 a0 a3 a5 a2 n w11 (o.ar .add .i64 w12 1) w13))
    (some (.x0 w11 w13))
theorem f137_l0_go {J : Jd} {n₀ : Nat} (hJ : J = std Try.prog n₀) {o : Ops} (hJo : J.o = o) {fuel : Nat} {a1 a0 : Int} {a3 : List AV} {a5 a2 : Int} {w11i : Int} {w12i : Int} {w13i : List AV} {α : Type} {k : F137L0 → Option α} {r : α} {c : Code} {Q : Ex → St → Prop} {s : St}
    (H : bindR (f137_l0 o fuel a1 a0 a3 a5 a2 fuel w11i w12i w13i) k = some r) (hn : n₀ ≤ 3) (hle : Le s ⟨[(6, .int .i64 w12i), (5, .int .i64 w11i), (1, .func 138 [.ptr 2 0]), (0, .vs 1 3 a0 a1 a2)], [.fam 0 a3, .vec 3 w13i, .var [.fp 0 a5 0]], 42⟩)
    (round : ∀ X, k X = some r → ∀ (n : Nat) (w11 : Int) (w12 : Int) (w13 : List AV), f137_l0 o fuel a1 a0 a3 a5 a2 (n + 1) w11 w12 w13 = some X → ∀ N : St → Prop,
      (∀ (env : List (Nat × AV)) (w11' : Int) (w12' : Int) (w13' : List AV) (v : List Ent), f137_l0 o fuel a1 a0 a3 a5 a2 n w11' w12' w13' = some X → wkEnv env [(6, .int .i64 w12'), (5, .int .i64 w11'), (1, .func 138 [.ptr 2 0]), (0, .vs 1 3 a0 a1 a2)] → N ⟨env, [.fam 0 a3, .vec 3 w13', .var [.fp 0 a5 0]] ++ v, 42⟩) → awp J tab c (thenQ N Q) ⟨[(6, .int .i64 w12), (5, .int .i64 w11), (1, .func 138 [.ptr 2 0]), (0, .vs 1 3 a0 a1 a2)], [.fam 0 a3, .vec 3 w13, .var [.fp 0 a5 0]], 42⟩) : J.code (.loop c) Q s := by
  subst hJo
  obtain ⟨X, hX, HX⟩ := bindR_go H
  refine loop_at (β := Nat × Int × Int × List AV) hJ tab_ok (fun | (_, w11, w12, w13) => ⟨[(6, .int .i64 w12), (5, .int .i64 w11), (1, .func 138 [.ptr 2 0]), (0, .vs 1 3 a0 a1 a2)], [.fam 0 a3, .vec 3 w13, .var [.fp 0 a5 0]], 42⟩) (fun | (n, w11, w12, w13) => f137_l0 J.o fuel a1 a0 a3 a5 a2 n w11 w12 w13 = some X) (fun | (n, _, _, _) => n) (fuel, w11i, w12i, w13i) hX hle (by rintro ⟨_, _, _, _⟩; exact hn) ?_
  rintro ⟨n, w11, w12, w13⟩ hb N hN
  rcases n with _ | n
  · exact none_go (show (none : Option F137L0) = some X from hb)
  exact round X HX n w11 w12 w13 hb N fun env w11' w12' w13' v h1 h2 => hN _ (n, w11', w12', w13') h1 (Nat.lt_succ_self n) ⟨h2, by first | (cbv; done) | (cbv; repeat' (first | exact trivial | exact rfl | apply And.intro)), rfl, rfl⟩
noncomputable def f137 (o : Ops) (fuel : Nat) (a0 a1 a2 : Int) (a3 a4 : List AV) (a5 : Int) : Option F137R :=
  bindR (f157 o fuel a0 a1 a2 a3 a4 a5) fun r => match r with
  | .v0 r6 => ifB (o.cmp .eql r6 (-1))
    (some (.v0 a0 a1 a2 a4))
    (bindR (f137_l0 o fuel a1 a0 a3 a5 a2 fuel r6 (o.ar .add .i64 r6 1) a4) fun r => match r with
     | .x0 y18 y19 => req (o.le 0 y18) <|
       req (o.le y18 a1) <|
       req (o.le 0 (o.sum a0 y18)) <|
       req (o.le 0 (o.dif a1 y18)) <|
       req (o.le (o.sum (o.sum a0 y18) (o.dif a1 y18)) (o.len y19)) <|
       req (o.le 0 y18) <|
       req (o.le (o.sum a0 y18) a2) <|
       some (.v0 a0 y18 a2 (o.lay y19 (o.sum a0 y18) (o.rep (o.dif a1 y18) (.agg [.nilp, .int .i64 0, .nils])))))
theorem f137_call (o : Ops) (ho : o = stdOps) (fuel : Nat) (a0 a1 a2 : Int) (a3 a4 : List AV) (a5 : Int) {R : F137R} (H : f137 o fuel a0 a1 a2 a3 a4 a5 = some R) (K : AV → List Ent → Prop) (E : AV → List Ent → Prop) (h : K R.av (F137R.hp a3 a5 R)) : CallA Try.prog 137 [.vs 1 3 a0 a1 a2, .func 138 [.ptr 2 0]] [.fam 0 a3, .vec 3 a4, .var [.fp 0 a5 0]] K E := by
  refine call_wk fun K' hK => ?_
  refine call_keep (n₀ := 3) tab_ok Try.func137 rfl rfl rfl rfl ?_
  intro J hJ
  obtain rfl : o = J.o := by rw [ho, hJ]; rfl
  unfold f137 at H
  cbv
  repeat' (first
    | ((with_reducible refine awp_go2 ?_); cbv)
    | (cases H; replace H := HX0; clear HX0; (try dsimp only at H))
    | (refine KeepQ.mk [] (by decide) ?_; cbv; cases H; refine hK _ _ _ _ ?_ ?_ rfl h <;> cbv)
    | (refine hN0 _ _ _ _ _ H ?_; with_reducible refine wkEnv_go2 ?_; cbv)
    | (refine ifB_go H ?_ ?_ <;> clear H <;> intro hh H)
    | (refine req_go H ?_; clear H; intro hh H)
    | (refine sh150_get H ?_; clear H; intro _ _ _ he H; cbv)
    | (obtain ⟨R, hR, H2⟩ := bindR_go H; refine call_in hJ [0, 2] (by decide) rfl rfl rfl (f138_call _ ho _ _ _ _ _ _ hR _ _ ?_); clear H hR; rcases R with ⟨_⟩; all_goals (replace H := H2; clear H2; (try dsimp only at H); cbv))
    | (obtain ⟨R, hR, H2⟩ := bindR_go H; refine call_in hJ [0, 1, 2] (by decide) rfl rfl rfl (f157_call _ ho _ _ _ _ _ _ _ hR _ _ ?_); clear H hR; rcases R with ⟨_⟩; all_goals (replace H := H2; clear H2; (try dsimp only at H); cbv))
    | (refine f137_l0_go hJ (o := J.o) rfl H (by decide) ⟨?_, ?_, rfl, rfl⟩ ?_
       · cbv; (repeat' (first | exact trivial | exact rfl | apply And.intro))
       · cbv; (repeat' (first | exact trivial | exact rfl | apply And.intro))
       clear H
       intro X0 HX0 n _ _ _ H Nx0 hN0
       rw [f137_l0] at H
       cbv))
inductive F94R where
  | v0 (y0 y1 y2 : Int) (y3 : List AV)
def F94R.av : F94R → AV
  | .v0 _ _ _ _ => .tup []
def F94R.hp (a1 : List AV) (a2 : Int) (a6 : Bool) (a7 : List (AV × AV)) : F94R → List Ent
  | .v0 y0 y1 y2 y3 => [.fam 0 a1, .var [.int .i64 a2, .mp 2, .vs 3 3 y0 y1 y2, .bool a6], .mp a7, .vec 3 y3]
noncomputable def f94 (o : Ops) (fuel : Nat) (a0 : Int) (a1 : List AV) (_a2 a3 a4 a5 : Int) (_a6 : Bool) (_a7 : List (AV × AV)) (a8 : List AV) : Option F94R :=
  bindR (f137 o fuel a3 a4 a5 a1 a8 a0) fun r => match r with
  | .v0 r9 r10 r11 r12 => some (.v0 r9 r10 r11 r12)
theorem f94_call (o : Ops) (ho : o = stdOps) (fuel : Nat) (a0 : Int) (a1 : List AV) (a2 a3 a4 a5 : Int) (a6 : Bool) (a7 : List (AV × AV)) (a8 : List AV) {R : F94R} (H : f94 o fuel a0 a1 a2 a3 a4 a5 a6 a7 a8 = some R) (K : AV → List Ent → Prop) (E : AV → List Ent → Prop) (h : K R.av (F94R.hp a1 a2 a6 a7 R)) : CallA Try.prog 94 [.ptr 1 0, .fp 0 a0 0] [.fam 0 a1, .var [.int .i64 a2, .mp 2, .vs 3 3 a3 a4 a5, .bool a6], .mp a7, .vec 3 a8] K E := by
  refine call_wk fun K' hK => ?_
  refine call_keep (n₀ := 4) tab_ok Try.func94 rfl rfl rfl rfl ?_
  intro J hJ
  obtain rfl : o = J.o := by rw [ho, hJ]; rfl
  unfold f94 at H
  cbv
  repeat' (first
    | (refine KeepQ.mk [] (by decide) ?_; cbv; cases H; refine hK _ _ _ _ ?_ ?_ rfl h <;> cbv)
    | (obtain ⟨R, hR, H2⟩ := bindR_go H; refine call_in hJ [0, 3, 4] (by decide) rfl rfl rfl (f137_call _ ho _ _ _ _ _ _ _ hR _ _ ?_); clear H hR; rcases R with ⟨_, _, _, _⟩; all_goals (replace H := H2; clear H2; (try dsimp only at H); cbv)))
end Go.Proofs.Ytjdbmfipciadfaa.A
