/- Functions of the program and of the document's answer, as plain ones. Written by lift.py. -/import Derived.Test.YtjdbmfipciadfaaMb1
namespace Go.Proofs.Ytjdbmfipciadfaa.A
open Go Go.Pt
set_option maxHeartbeats 4000000
set_option maxRecDepth 100000
inductive F36R where
  | v0 (y0 : Int) (y1 : List AV) (y2 y3 y4 : Int) (y5 : Bool) (y6 : List AV)
def F36R.av : F36R → AV
  | .v0 y0 _ _ _ _ _ _ => .int .i64 y0
def F36R.hp (a3 : Int) (a8 : List (AV × AV)) : F36R → List Ent
  | .v0 _ y1 y2 y3 y4 y5 y6 => [.fam 0 y1, .var [.int .i64 a3, .mp 2, .vs 4 3 y2 y3 y4, .bool y5], .mp a8, .dead, .vec 3 y6]
inductive F36L0 where
  | x0 (y0 : List AV)
  | x1 (y0 : List AV)
noncomputable def f36_l0 (o : Ops) (fuel : Nat) (a5 a4 : Int) (a9 : List AV) (r11 a1 a6 a3 : Int) (a7 : Bool) (a8 : List (AV × AV)) : Nat → Int → List AV → Option F36L0
  | 0, _, _ => none
  | n + 1, w22, w23 =>
    ifB (o.cmp .lss w22 a5)
    (req (o.inb w22 a5) <|
     req (o.inb (o.sum a4 w22) (o.len a9)) <|
     getA (o.get a9 (o.sum a4 w22)) fun e => sh150 e fun v24 v25 v26 =>
     ifB (o.cmp .lss w22 (o.ar .rem .i64 r11 (o.ar .add .i64 a5 1)))
     (req (o.inb v24 (o.len w23)) <|
      getA (o.get w23 v24) fun e => sh147 e fun v27 =>
      bindR (f99 o fuel v27 v25 v26 w23) fun r => match r with
      | .v0 r28 => req (o.inb v24 (o.len w23)) <|
        getA (o.get w23 v24) fun e => sh147 e fun _ =>
        f36_l0 o fuel a5 a4 a9 r11 a1 a6 a3 a7 a8 n (o.ar .add .i64 w22 1) (o.upd w23 v24 (.agg [.sl 1 r28 .no])))
     (ifB (o.cmp .eql w22 (o.ar .rem .i64 r11 (o.ar .add .i64 a5 1)))
      (req (o.inb v24 (o.len w23)) <|
       getA (o.get w23 v24) fun e => sh147 e fun v30 =>
       bindR (f98 o fuel a1 w23) fun r => match r with
       | .v0 r31 => req (o.nz (o.ar .add .i64 (o.len v26) 1)) <|
         req (o.le 0 (o.ar .rem .i64 r31 (o.ar .add .i64 (o.len v26) 1))) <|
         req (o.le (o.ar .rem .i64 r31 (o.ar .add .i64 (o.len v26) 1)) (o.len v26)) <|
         bindR (f99 o fuel v30 v25 (o.sub v26 0 (o.ar .rem .i64 r31 (o.ar .add .i64 (o.len v26) 1))) w23) fun r => match r with
         | .v0 r32 => req (o.inb v24 (o.len w23)) <|
           getA (o.get w23 v24) fun e => sh147 e fun _ =>
           some (.x0 (o.upd w23 v24 (.agg [.sl 1 r32 .no]))))
      (some (.x0 w23))))
    (some (.x1 w23))
theorem f36_l0_go {J : Jd} {n₀ : Nat} (hJ : J = std Try.prog n₀) {o : Ops} (hJo : J.o = o) {fuel : Nat} {a5 a4 : Int} {a9 : List AV} {r11 a1 a6 a3 : Int} {a7 : Bool} {a8 : List (AV × AV)} {w22i : Int} {w23i : List AV} {α : Type} {k : F36L0 → Option α} {r : α} {c : Code} {Q : Ex → St → Prop} {s : St}
    (H : bindR (f36_l0 o fuel a5 a4 a9 r11 a1 a6 a3 a7 a8 fuel w22i w23i) k = some r) (hn : n₀ ≤ 4) (hle : Le s ⟨[(30, .int .i64 w22i), (29, .int .i64 a5), (28, .vs 3 3 a4 a5 a6), (8, .int .i64 (o.ar .rem .i64 r11 (o.ar .add .i64 a5 1))), (2, .int .i64 a1), (0, .ptr 1 0)], [.fam 0 w23i, .var [.int .i64 a3, .mp 2, .vs 3 3 a4 a5 a6, .bool a7], .mp a8, .vec 3 a9], 84⟩)
    (round : ∀ X, k X = some r → ∀ (n : Nat) (w22 : Int) (w23 : List AV), f36_l0 o fuel a5 a4 a9 r11 a1 a6 a3 a7 a8 (n + 1) w22 w23 = some X → ∀ N : St → Prop,
      (∀ (env : List (Nat × AV)) (w22' : Int) (w23' : List AV) (v : List Ent), f36_l0 o fuel a5 a4 a9 r11 a1 a6 a3 a7 a8 n w22' w23' = some X → wkEnv env [(30, .int .i64 w22'), (29, .int .i64 a5), (28, .vs 3 3 a4 a5 a6), (8, .int .i64 (o.ar .rem .i64 r11 (o.ar .add .i64 a5 1))), (2, .int .i64 a1), (0, .ptr 1 0)] → N ⟨env, [.fam 0 w23', .var [.int .i64 a3, .mp 2, .vs 3 3 a4 a5 a6, .bool a7], .mp a8, .vec 3 a9] ++ v, 84⟩) → awp J tab c (thenQ N Q) ⟨[(30, .int .i64 w22), (29, .int .i64 a5), (28, .vs 3 3 a4 a5 a6), (8, .int .i64 (o.ar .rem .i64 r11 (o.ar .add .i64 a5 1))), (2, .int .i64 a1), (0, .ptr 1 0)], [.fam 0 w23, .var [.int .i64 a3, .mp 2, .vs 3 3 a4 a5 a6, .bool a7], .mp a8, .vec 3 a9], 84⟩) : J.code (.loop c) Q s := by
  subst hJo
  obtain ⟨X, hX, HX⟩ := bindR_go H
  refine loop_at (β := Nat × Int × List AV) hJ tab_ok (fun | (_, w22, w23) => ⟨[(30, .int .i64 w22), (29, .int .i64 a5), (28, .vs 3 3 a4 a5 a6), (8, .int .i64 (J.o.ar .rem .i64 r11 (J.o.ar .add .i64 a5 1))), (2, .int .i64 a1), (0, .ptr 1 0)], [.fam 0 w23, .var [.int .i64 a3, .mp 2, .vs 3 3 a4 a5 a6, .bool a7], .mp a8, .vec 3 a9], 84⟩) (fun | (n, w22, w23) => f36_l0 J.o fuel a5 a4 a9 r11 a1 a6 a3 a7 a8 n w22 w23 = some X) (fun | (n, _, _) => n) (fuel, w22i, w23i) hX hle (by rintro ⟨_, _, _⟩; exact hn) ?_
  rintro ⟨n, w22, w23⟩ hb N hN
  rcases n with _ | n
  · exact none_go (show (none : Option F36L0) = some X from hb)
  exact round X HX n w22 w23 hb N fun env w22' w23' v h1 h2 => hN _ (n, w22', w23') h1 (Nat.lt_succ_self n) ⟨h2, by first | (cbv; done) | (cbv; repeat' (first | exact trivial | exact rfl | apply And.intro)), rfl, rfl⟩
noncomputable def f36 (o : Ops) (fuel : Nat) (a0 a1 : Int) (a2 : List AV) (a3 a4 a5 a6 : Int) (a7 : Bool) (a8 : List (AV × AV)) (a9 : List AV) : Option F36R :=
  bindR (f97 o fuel a2 a3 a4 a5 a6 a7 a8 a9) fun r => match r with
  | .v0 r10 => ifB (o.bnot (o.cmp .eql r10 0))
    (some (.v0 r10 a2 a4 a5 a6 a7 a9))
    (bindR (f98 o fuel a0 a2) fun r => match r with
     | .v0 r11 => req (o.nz (o.ar .add .i64 a5 1)) <|
       bindR (f36_l0 o fuel a5 a4 a9 r11 a1 a6 a3 a7 a8 fuel 0 a2) fun r => match r with
       | .x0 y34 => some (.v0 0 y34 0 0 0 true [])
       | .x1 y35 => some (.v0 0 y35 0 0 0 true []))
theorem f36_call (o : Ops) (ho : o = stdOps) (fuel : Nat) (a0 a1 : Int) (a2 : List AV) (a3 a4 a5 a6 : Int) (a7 : Bool) (a8 : List (AV × AV)) (a9 : List AV) {R : F36R} (H : f36 o fuel a0 a1 a2 a3 a4 a5 a6 a7 a8 a9 = some R) (K : AV → List Ent → Prop) (E : AV → List Ent → Prop) (h : K R.av (F36R.hp a3 a8 R)) : CallA Try.prog 36 [.ptr 1 0, .int .i64 a0, .int .i64 a1] [.fam 0 a2, .var [.int .i64 a3, .mp 2, .vs 3 3 a4 a5 a6, .bool a7], .mp a8, .vec 3 a9] K E := by
  refine call_wk fun K' hK => ?_
  refine call_keep (n₀ := 4) tab_ok Try.func36 rfl rfl rfl rfl ?_
  intro J hJ
  obtain rfl : o = J.o := by rw [ho, hJ]; rfl
  unfold f36 at H
  cbv
  repeat' (first
    | ((with_reducible refine awp_go2 ?_); cbv)
    | (cases H; replace H := HX0; clear HX0; (try dsimp only at H))
    | (refine KeepQ.tn _ (by first | exact .inl rfl | exact .inr rfl) (Turn.trans (Turn.at 5 (turn_nilrh 1 2 3 rfl rfl (leN_t rfl)) rfl) (Turn.at 6 (turn_mvg 3 3 rfl (leN_t rfl)) rfl)) [5] (by decide) ?_; cbv; cases H; refine hK _ _ _ _ ?_ ?_ rfl h <;> cbv)
    | (refine KeepQ.tn _ (by first | exact .inl rfl | exact .inr rfl) (Turn.trans (Turn.at 4 (turn_nilrh 1 2 3 rfl rfl (leN_t rfl)) rfl) (Turn.at 5 (turn_mvg 3 3 rfl (leN_t rfl)) rfl)) [4] (by decide) ?_; cbv; cases H; refine hK _ _ _ _ ?_ ?_ rfl h <;> cbv)
    | (refine KeepQ.tn _ (by first | exact .inl rfl | exact .inr rfl) (Turn.at 4 (turn_mv 1 2 3 3 rfl rfl rfl rfl (leN_t rfl)) rfl) [4] (by decide) ?_; cbv; cases H; refine hK _ _ _ _ ?_ ?_ rfl h <;> cbv)
    | (refine hN0 _ _ _ _ H ?_; with_reducible refine wkEnv_go2 ?_; cbv)
    | (refine ifB_go H ?_ ?_ <;> clear H <;> intro hh H)
    | (refine req_go H ?_; clear H; intro hh H)
    | (refine sh147_get H ?_; clear H; intro _ he H; cbv)
    | (refine sh150_get H ?_; clear H; intro _ _ _ he H; cbv)
    | (obtain ⟨R, hR, H2⟩ := bindR_go H; refine call_in hJ [0] (by decide) rfl rfl rfl (f99_call _ ho _ _ _ _ _ hR _ _ ?_); clear H hR; rcases R with ⟨_⟩; all_goals (replace H := H2; clear H2; (try dsimp only at H); cbv))
    | (obtain ⟨R, hR, H2⟩ := bindR_go H; refine call_in hJ [0] (by decide) rfl rfl rfl (f98_call _ ho _ _ _ hR _ _ ?_); clear H hR; rcases R with ⟨_⟩; all_goals (replace H := H2; clear H2; (try dsimp only at H); cbv))
    | (obtain ⟨R, hR, H2⟩ := bindR_go H; refine call_in hJ [0, 1, 2, 3] (by decide) rfl rfl rfl (f97_call _ ho _ _ _ _ _ _ _ _ _ hR _ _ ?_); clear H hR; rcases R with ⟨_⟩; all_goals (replace H := H2; clear H2; (try dsimp only at H); cbv))
    | (refine f36_l0_go hJ (o := J.o) rfl H (by decide) ⟨?_, ?_, rfl, rfl⟩ ?_
       · cbv; (repeat' (first | exact trivial | exact rfl | apply And.intro))
       · cbv; (repeat' (first | exact trivial | exact rfl | apply And.intro))
       clear H
       intro X0 HX0 n _ _ H Nx0 hN0
       rw [f36_l0] at H
       cbv))
inductive F67R where
  | v0 (y0 : Bool)
def F67R.av : F67R → AV
  | .v0 y0 => .bool y0
def F67R.hp (a0 : List AV) (a1 a2 a3 a4 : Int) (a5 : Bool) (a6 : List (AV × AV)) (a7 : List AV) : F67R → List Ent
  | .v0 _ => [.fam 0 a0, .var [.int .i64 a1, .mp 2, .vs 3 3 a2 a3 a4, .bool a5], .mp a6, .vec 3 a7]
noncomputable def f67 (o : Ops) (fuel : Nat) (a0 : List AV) (a1 a2 a3 a4 : Int) (a5 : Bool) (a6 : List (AV × AV)) (a7 : List AV) : Option F67R :=
  bindR (f96 o fuel a0 a1 a2 a3 a4 a5 a6 a7) fun r => match r with
  | .v0 r8 => some (.v0 (o.pick (o.bnot r8) (o.bnot a5) false))
theorem f67_call (o : Ops) (ho : o = stdOps) (fuel : Nat) (a0 : List AV) (a1 a2 a3 a4 : Int) (a5 : Bool) (a6 : List (AV × AV)) (a7 : List AV) {R : F67R} (H : f67 o fuel a0 a1 a2 a3 a4 a5 a6 a7 = some R) (K : AV → List Ent → Prop) (E : AV → List Ent → Prop) (h : K R.av (F67R.hp a0 a1 a2 a3 a4 a5 a6 a7 R)) : CallA Try.prog 67 [.ptr 1 0] [.fam 0 a0, .var [.int .i64 a1, .mp 2, .vs 3 3 a2 a3 a4, .bool a5], .mp a6, .vec 3 a7] K E := by
  refine call_wk fun K' hK => ?_
  refine call_keep (n₀ := 4) tab_ok Try.func67 rfl rfl rfl rfl ?_
  intro J hJ
  obtain rfl : o = J.o := by rw [ho, hJ]; rfl
  unfold f67 at H
  cbv
  repeat' (first
    | with_reducible exact id
    | (refine KeepQ.mk [] (by decide) ?_; cbv; cases H; refine hK _ _ _ _ ?_ ?_ rfl h <;> cbv)
    | (obtain ⟨R, hR, H2⟩ := bindR_go H; refine call_in hJ [0, 1, 2, 3] (by decide) rfl rfl rfl (f96_call _ ho _ _ _ _ _ _ _ _ _ hR _ _ ?_); clear H hR; rcases R with ⟨_⟩; all_goals (replace H := H2; clear H2; (try dsimp only at H); cbv))
    | with_reducible refine And.intro ?_ ?_)
inductive F37R where
  | v0 (y0 : Int) (y1 : Bool)
def F37R.av : F37R → AV
  | .v0 y0 _ => .int .i64 y0
def F37R.hp (a0 : List AV) (a1 a2 a3 a4 : Int) (a6 : List (AV × AV)) (a7 : List AV) : F37R → List Ent
  | .v0 _ y1 => [.fam 0 a0, .var [.int .i64 a1, .mp 2, .vs 3 3 a2 a3 a4, .bool y1], .mp a6, .vec 3 a7]
noncomputable def f37 (o : Ops) (fuel : Nat) (a0 : List AV) (a1 a2 a3 a4 : Int) (a5 : Bool) (a6 : List (AV × AV)) (a7 : List AV) : Option F37R :=
  bindR (f96 o fuel a0 a1 a2 a3 a4 a5 a6 a7) fun r => match r with
  | .v0 r8 => ifB r8
    (some (.v0 2 a5))
    (ifB (o.bnot a5)
     (some (.v0 1 a5))
     (some (.v0 0 false)))
theorem f37_call (o : Ops) (ho : o = stdOps) (fuel : Nat) (a0 : List AV) (a1 a2 a3 a4 : Int) (a5 : Bool) (a6 : List (AV × AV)) (a7 : List AV) {R : F37R} (H : f37 o fuel a0 a1 a2 a3 a4 a5 a6 a7 = some R) (K : AV → List Ent → Prop) (E : AV → List Ent → Prop) (h : K R.av (F37R.hp a0 a1 a2 a3 a4 a6 a7 R)) : CallA Try.prog 37 [.ptr 1 0] [.fam 0 a0, .var [.int .i64 a1, .mp 2, .vs 3 3 a2 a3 a4, .bool a5], .mp a6, .vec 3 a7] K E := by
  refine call_wk fun K' hK => ?_
  refine call_keep (n₀ := 4) tab_ok Try.func37 rfl rfl rfl rfl ?_
  intro J hJ
  obtain rfl : o = J.o := by rw [ho, hJ]; rfl
  unfold f37 at H
  cbv
  repeat' (first
    | ((with_reducible refine awp_go2 ?_); cbv)
    | (refine KeepQ.mk [] (by decide) ?_; cbv; cases H; refine hK _ _ _ _ ?_ ?_ rfl h <;> cbv)
    | (refine ifB_go H ?_ ?_ <;> clear H <;> intro hh H)
    | (obtain ⟨R, hR, H2⟩ := bindR_go H; refine call_in hJ [0, 1, 2, 3] (by decide) rfl rfl rfl (f96_call _ ho _ _ _ _ _ _ _ _ _ hR _ _ ?_); clear H hR; rcases R with ⟨_⟩; all_goals (replace H := H2; clear H2; (try dsimp only at H); cbv)))
end Go.Proofs.Ytjdbmfipciadfaa.A
namespace Go.Proofs.Ytjdbmfipciadfaa.A
open Go Go.Pt
set_option maxHeartbeats 4000000
set_option maxRecDepth 100000
inductive F39R where
  | v0 (y0 : List AV) (y1 : Int)
def F39R.av : F39R → AV
  | .v0 y0 y1 => .tup [.sl 1 y0 .no, .int .i64 y1]
def F39R.hp (a3 : List AV) (a4 a5 a6 a7 : Int) (a8 : Bool) (a9 : List (AV × AV)) (a10 : List AV) : F39R → List Ent
  | .v0 _ _ => [.fam 0 a3, .var [.int .i64 a4, .mp 2, .vs 3 3 a5 a6 a7, .bool a8], .mp a9, .vec 3 a10]
noncomputable def f39 (o : Ops) (fuel : Nat) (a0 : ByteArray) (a1 a2 : Int) (a3 : List AV) (a4 a5 a6 a7 : Int) (a8 : Bool) (a9 : List (AV × AV)) (a10 : List AV) : Option F39R :=
  bindR (f92 o fuel a0 a3 a4 a5 a6 a7 a8 a9 a10) fun r => match r with
  | .v0 r11 => ifB (o.bnot (o.cmp .eql r11 0))
    (some (.v0 [] r11))
    (none)
  | .v1 r12 => ifB (o.bnot (o.cmp .eql 0 0))
    (some (.v0 [] 0))
    (bindR (f93_1 o fuel r12 a3 a4 a5 a6 a7 a8 a9 a10) fun r => match r with
     | .v0 r13 => ifB (o.pick (o.pick (o.pick (o.cmp .lss a2 0) true (o.cmp .lss a1 0)) true (o.cmp .gtr a1 (o.len r13))) true (o.cmp .gtr a2 (o.ar .sub .i64 (o.len r13) a1)))
       (some (.v0 [] 33))
       (req (o.le 0 a1) <|
        req (o.le a1 (o.ar .add .i64 a1 a2)) <|
        req (o.le (o.ar .add .i64 a1 a2) (o.ar .add .i64 a1 a2)) <|
        req (o.le (o.ar .add .i64 a1 a2) (o.len r13)) <|
        some (.v0 (o.sub r13 a1 (o.ar .add .i64 a1 a2)) 0)))
theorem f39_call (o : Ops) (ho : o = stdOps) (fuel : Nat) (a0 : ByteArray) (a1 a2 : Int) (a3 : List AV) (a4 a5 a6 a7 : Int) (a8 : Bool) (a9 : List (AV × AV)) (a10 : List AV) {R : F39R} (H : f39 o fuel a0 a1 a2 a3 a4 a5 a6 a7 a8 a9 a10 = some R) (K : AV → List Ent → Prop) (E : AV → List Ent → Prop) (h : K R.av (F39R.hp a3 a4 a5 a6 a7 a8 a9 a10 R)) : CallA Try.prog 39 [.ptr 1 0, .str a0, .int .i64 a1, .int .i64 a2] [.fam 0 a3, .var [.int .i64 a4, .mp 2, .vs 3 3 a5 a6 a7, .bool a8], .mp a9, .vec 3 a10] K E := by
  refine call_wk fun K' hK => ?_
  refine call_keep (n₀ := 4) tab_ok Try.func39 rfl rfl rfl rfl ?_
  intro J hJ
  obtain rfl : o = J.o := by rw [ho, hJ]; rfl
  unfold f39 at H
  cbv
  repeat' (first
    | ((with_reducible refine awp_go2 ?_); cbv)
    | with_reducible exact id
    | exact none_go H
    | (refine KeepQ.mk [] (by decide) ?_; cbv; cases H; refine hK _ _ _ _ ?_ ?_ rfl h <;> cbv)
    | (refine ifB_go H ?_ ?_ <;> clear H <;> intro hh H)
    | (refine req_go H ?_; clear H; intro hh H)
    | (refine tok_go ?_; cbv)
    | (obtain ⟨R, hR, H2⟩ := bindR_go H; refine call_in hJ [0, 1, 2, 3] (by decide) rfl rfl rfl (f93_1_call _ ho _ _ _ _ _ _ _ _ _ _ hR _ _ ?_); clear H hR; rcases R with ⟨_⟩; all_goals (replace H := H2; clear H2; (try dsimp only at H); cbv))
    | (obtain ⟨R, hR, H2⟩ := bindR_go H; refine call_in hJ [0, 1, 2, 3] (by decide) rfl rfl rfl (f92_call _ ho _ _ _ _ _ _ _ _ _ _ hR _ _ ?_); clear H hR; rcases R with ⟨_⟩ | ⟨_⟩; all_goals (replace H := H2; clear H2; (try dsimp only at H); cbv))
    | with_reducible refine And.intro ?_ ?_)
inductive F38R where
  | v0 (y0 y1 : Int)
def F38R.av : F38R → AV
  | .v0 y0 y1 => .tup [.int .i64 y0, .int .i64 y1]
def F38R.hp (a1 : List AV) (a2 a3 a4 a5 : Int) (a6 : Bool) (a7 : List (AV × AV)) (a8 : List AV) : F38R → List Ent
  | .v0 _ _ => [.fam 0 a1, .var [.int .i64 a2, .mp 2, .vs 3 3 a3 a4 a5, .bool a6], .mp a7, .vec 3 a8]
noncomputable def f38 (o : Ops) (fuel : Nat) (a0 : ByteArray) (a1 : List AV) (a2 a3 a4 a5 : Int) (a6 : Bool) (a7 : List (AV × AV)) (a8 : List AV) : Option F38R :=
  bindR (f92 o fuel a0 a1 a2 a3 a4 a5 a6 a7 a8) fun r => match r with
  | .v0 r9 => ifB (o.bnot (o.cmp .eql r9 0))
    (some (.v0 0 r9))
    (none)
  | .v1 r10 => ifB (o.bnot (o.cmp .eql 0 0))
    (some (.v0 0 0))
    (bindR (f93_1 o fuel r10 a1 a2 a3 a4 a5 a6 a7 a8) fun r => match r with
     | .v0 r11 => some (.v0 (o.len r11) 0))
theorem f38_call (o : Ops) (ho : o = stdOps) (fuel : Nat) (a0 : ByteArray) (a1 : List AV) (a2 a3 a4 a5 : Int) (a6 : Bool) (a7 : List (AV × AV)) (a8 : List AV) {R : F38R} (H : f38 o fuel a0 a1 a2 a3 a4 a5 a6 a7 a8 = some R) (K : AV → List Ent → Prop) (E : AV → List Ent → Prop) (h : K R.av (F38R.hp a1 a2 a3 a4 a5 a6 a7 a8 R)) : CallA Try.prog 38 [.ptr 1 0, .str a0] [.fam 0 a1, .var [.int .i64 a2, .mp 2, .vs 3 3 a3 a4 a5, .bool a6], .mp a7, .vec 3 a8] K E := by
  refine call_wk fun K' hK => ?_
  refine call_keep (n₀ := 4) tab_ok Try.func38 rfl rfl rfl rfl ?_
  intro J hJ
  obtain rfl : o = J.o := by rw [ho, hJ]; rfl
  unfold f38 at H
  cbv
  repeat' (first
    | ((with_reducible refine awp_go2 ?_); cbv)
    | exact none_go H
    | (refine KeepQ.mk [] (by decide) ?_; cbv; cases H; refine hK _ _ _ _ ?_ ?_ rfl h <;> cbv)
    | (refine ifB_go H ?_ ?_ <;> clear H <;> intro hh H)
    | (obtain ⟨R, hR, H2⟩ := bindR_go H; refine call_in hJ [0, 1, 2, 3] (by decide) rfl rfl rfl (f93_1_call _ ho _ _ _ _ _ _ _ _ _ _ hR _ _ ?_); clear H hR; rcases R with ⟨_⟩; all_goals (replace H := H2; clear H2; (try dsimp only at H); cbv))
    | (obtain ⟨R, hR, H2⟩ := bindR_go H; refine call_in hJ [0, 1, 2, 3] (by decide) rfl rfl rfl (f92_call _ ho _ _ _ _ _ _ _ _ _ _ hR _ _ ?_); clear H hR; rcases R with ⟨_⟩ | ⟨_⟩; all_goals (replace H := H2; clear H2; (try dsimp only at H); cbv)))
inductive F40R where
  | v0 (y0 : Bool)
def F40R.av : F40R → AV
  | .v0 y0 => .bool y0
def F40R.hp (a2 : List AV) : F40R → List Ent
  | .v0 _ => [.fam 0 a2]
noncomputable def f40 (o : Ops) (_fuel : Nat) (a0 a1 _a2 : List AV) : Option F40R :=
  req (o.isb a0) <|
  req (o.isb a1) <|
  some (.v0 (o.seq (o.ofb a0) (o.ofb a1)))
theorem f40_call (o : Ops) (ho : o = stdOps) (fuel : Nat) (a0 a1 a2 : List AV) {R : F40R} (H : f40 o fuel a0 a1 a2 = some R) (K : AV → List Ent → Prop) (E : AV → List Ent → Prop) (h : K R.av (F40R.hp a2 R)) : CallA Try.prog 40 [.sl 1 a0 .no, .sl 1 a1 .no] [.fam 0 a2] K E := by
  refine call_wk fun K' hK => ?_
  refine call_keep (n₀ := 1) tab_ok Try.func40 rfl rfl rfl rfl ?_
  intro J hJ
  obtain rfl : o = J.o := by rw [ho, hJ]; rfl
  unfold f40 at H
  cbv
  repeat' (first
    | (refine KeepQ.mk [] (by decide) ?_; cbv; cases H; refine hK _ _ _ _ ?_ ?_ rfl h <;> cbv)
    | (refine req_go H ?_; clear H; intro hh H))
end Go.Proofs.Ytjdbmfipciadfaa.A
namespace Go.Proofs.Ytjdbmfipciadfaa.A
open Go Go.Pt
set_option maxHeartbeats 4000000
set_option maxRecDepth 100000
inductive F30R where
  | v0 (y0 : Bool) (y1 : List AV)
def F30R.av : F30R → AV
  | .v0 y0 _ => .bool y0
def F30R.hp : F30R → List Ent
  | .v0 _ y1 => [.fam 0 y1]
inductive F30L0 where
  | x0 (y0 : List AV)
  | x1 (y0 : List AV)
  | x2 (y0 : List AV)
  | x3 (y0 : List AV)
  | x4 (y0 : List AV)
  | x5 (y0 : List AV)
  | x6 (y0 : List AV)
noncomputable def f30_l0 (o : Ops) (fuel : Nat)  : Nat → Int → List AV → Option F30L0
  | 0, _, _ => none
  | n + 1, w49, w50 =>
    ifB (o.cmp .lss w49 (o.len [.sl 1 [.int .u8 1, .int .u8 9, .int .u8 9] .no, .sl 1 [.int .u8 1, .int .u8 9, .int .u8 3] .no, .sl 1 [.int .u8 1, .int .u8 9, .int .u8 9, .int .u8 4] .no]))
    (req (o.inb w49 (o.len [.sl 1 [.int .u8 1, .int .u8 9, .int .u8 9] .no, .sl 1 [.int .u8 1, .int .u8 9, .int .u8 3] .no, .sl 1 [.int .u8 1, .int .u8 9, .int .u8 9, .int .u8 4] .no])) <|
     getA (o.get [.sl 1 [.int .u8 1, .int .u8 9, .int .u8 9] .no, .sl 1 [.int .u8 1, .int .u8 9, .int .u8 3] .no, .sl 1 [.int .u8 1, .int .u8 9, .int .u8 9, .int .u8 4] .no] w49) fun e => sh69 e fun v51 =>
     bindR (f48 o fuel 10 w50) fun r => match r with
     | .v0  => some (.x0 w50)
     | .v1 r52 r53 => ifB (o.pick (o.bnot (o.cmp .eql 0 0)) true false)
       (some (.x1 w50))
       (bindR (f63 o fuel ⟨#[97]⟩ w50 10 0 0 0 false r52 r53) fun r => match r with
        | .v0 r54 r55 r56 => ifB (o.bnot (o.cmp .eql r54 0))
          (some (.x1 r55))
          (bindR (f34 o fuel ⟨#[97]⟩ 0 [.int .u8 1, .int .u8 2, .int .u8 3] r55 10 0 0 0 false r56 r53) fun r => match r with
           | .v0 r57 r58 r59 r60 r61 r62 => ifB (o.bnot (o.cmp .eql r57 0))
             (some (.x2 r55))
             (bindR (f33 o fuel ⟨#[97]⟩ r55 10 r58 r59 r60 false r61 r62) fun r => match r with
              | .v0 r63 r64 r65 r66 r67 r68 => ifB (o.bnot (o.cmp .eql r63 0))
                (some (.x2 r64))
                (bindR (f34 o fuel ⟨#[97]⟩ 1 [.int .u8 9, .int .u8 9] r64 10 r65 r66 r67 false r61 r68) fun r => match r with
                 | .v0 r69 r70 r71 r72 r73 r74 => ifB (o.bnot (o.cmp .eql r69 0))
                   (some (.x3 r64))
                   (bindR (f34 o fuel ⟨#[97]⟩ 3 [.int .u8 4] r64 10 r70 r71 r72 false r73 r74) fun r => match r with
                    | .v0 r75 r76 r77 r78 r79 r80 => ifB (o.bnot (o.cmp .eql r75 0))
                      (some (.x4 r64))
                      (bindR (f35 o fuel r64 10 r76 r77 r78 false r79 r80) fun r => match r with
                       | .v0 r81 => ifB (o.bnot (o.cmp .eql r81 2))
                         (some (.x4 r64))
                         (req (o.inb w49 (o.len [.int .i64 1, .int .i64 0, .int .i64 2])) <|
                          getA (o.get [.int .i64 1, .int .i64 0, .int .i64 2] w49) fun e => sh3 e fun v82 =>
                          req (o.inb w49 (o.len [.int .i64 0, .int .i64 1, .int .i64 0])) <|
                          getA (o.get [.int .i64 0, .int .i64 1, .int .i64 0] w49) fun e => sh3 e fun v83 =>
                          bindR (f36 o fuel v82 v83 r64 10 r76 r77 r78 false r79 r80) fun r => match r with
                          | .v0 r84 r85 r86 r87 r88 r89 r90 => ifB (o.bnot (o.cmp .eql r84 0))
                            (some (.x5 r85))
                            (bindR (f67 o fuel r85 10 r86 r87 r88 r89 r79 r90) fun r => match r with
                             | .v0 r91 => ifB r91
                               (some (.x5 r85))
                               (bindR (f37 o fuel r85 10 r86 r87 r88 r89 r79 r90) fun r => match r with
                                | .v0 r92 r93 => ifB (o.bnot (o.cmp .eql r92 0))
                                  (some (.x5 r85))
                                  (bindR (f39 o fuel ⟨#[97]⟩ 0 (o.len v51) r85 10 r86 r87 r88 r93 r79 r90) fun r => match r with
                                   | .v0 r94 r95 => bindR (f38 o fuel ⟨#[97]⟩ r85 10 r86 r87 r88 r93 r79 r90) fun r => match r with
                                     | .v0 r96 _ => ifB (o.bnot (o.cmp .eql r95 0))
                                       (some (.x5 r85))
                                       (bindR (f40 o fuel r94 v51 r85) fun r => match r with
                                        | .v0 r98 => ifB (o.pick (o.bnot r98) true (o.bnot (o.cmp .eql r96 (o.len v51))))
                                          (some (.x5 r85))
                                          (f30_l0 o fuel  n (o.ar .add .i64 w49 1) r85)))))))))))))
    (some (.x6 w50))
theorem f30_l0_go {J : Jd} {n₀ : Nat} (hJ : J = std Try.prog n₀) {o : Ops} (hJo : J.o = o) {fuel : Nat}  {w49i : Int} {w50i : List AV} {α : Type} {k : F30L0 → Option α} {r : α} {c : Code} {Q : Ex → St → Prop} {s : St}
    (H : bindR (f30_l0 o fuel  fuel w49i w50i) k = some r) (hn : n₀ ≤ 1) (hle : Le s ⟨[(15, .int .i64 w49i), (14, .int .i64 (o.len [.sl 1 [.int .u8 1, .int .u8 9, .int .u8 9] .no, .sl 1 [.int .u8 1, .int .u8 9, .int .u8 3] .no, .sl 1 [.int .u8 1, .int .u8 9, .int .u8 9, .int .u8 4] .no])), (13, .sl 1 [.sl 1 [.int .u8 1, .int .u8 9, .int .u8 9] .no, .sl 1 [.int .u8 1, .int .u8 9, .int .u8 3] .no, .sl 1 [.int .u8 1, .int .u8 9, .int .u8 9, .int .u8 4] .no] .full)], [.fam 0 w50i], 112⟩)
    (round : ∀ X, k X = some r → ∀ (n : Nat) (w49 : Int) (w50 : List AV), f30_l0 o fuel  (n + 1) w49 w50 = some X → ∀ N : St → Prop,
      (∀ (env : List (Nat × AV)) (w49' : Int) (w50' : List AV) (v : List Ent), f30_l0 o fuel  n w49' w50' = some X → wkEnv env [(15, .int .i64 w49'), (14, .int .i64 (o.len [.sl 1 [.int .u8 1, .int .u8 9, .int .u8 9] .no, .sl 1 [.int .u8 1, .int .u8 9, .int .u8 3] .no, .sl 1 [.int .u8 1, .int .u8 9, .int .u8 9, .int .u8 4] .no])), (13, .sl 1 [.sl 1 [.int .u8 1, .int .u8 9, .int .u8 9] .no, .sl 1 [.int .u8 1, .int .u8 9, .int .u8 3] .no, .sl 1 [.int .u8 1, .int .u8 9, .int .u8 9, .int .u8 4] .no] .full)] → N ⟨env, [.fam 0 w50'] ++ v, 112⟩) → awp J tab c (thenQ N Q) ⟨[(15, .int .i64 w49), (14, .int .i64 (o.len [.sl 1 [.int .u8 1, .int .u8 9, .int .u8 9] .no, .sl 1 [.int .u8 1, .int .u8 9, .int .u8 3] .no, .sl 1 [.int .u8 1, .int .u8 9, .int .u8 9, .int .u8 4] .no])), (13, .sl 1 [.sl 1 [.int .u8 1, .int .u8 9, .int .u8 9] .no, .sl 1 [.int .u8 1, .int .u8 9, .int .u8 3] .no, .sl 1 [.int .u8 1, .int .u8 9, .int .u8 9, .int .u8 4] .no] .full)], [.fam 0 w50], 112⟩) : J.code (.loop c) Q s := by
  subst hJo
  obtain ⟨X, hX, HX⟩ := bindR_go H
  refine loop_at (β := Nat × Int × List AV) hJ tab_ok (fun | (_, w49, w50) => ⟨[(15, .int .i64 w49), (14, .int .i64 (J.o.len [.sl 1 [.int .u8 1, .int .u8 9, .int .u8 9] .no, .sl 1 [.int .u8 1, .int .u8 9, .int .u8 3] .no, .sl 1 [.int .u8 1, .int .u8 9, .int .u8 9, .int .u8 4] .no])), (13, .sl 1 [.sl 1 [.int .u8 1, .int .u8 9, .int .u8 9] .no, .sl 1 [.int .u8 1, .int .u8 9, .int .u8 3] .no, .sl 1 [.int .u8 1, .int .u8 9, .int .u8 9, .int .u8 4] .no] .full)], [.fam 0 w50], 112⟩) (fun | (n, w49, w50) => f30_l0 J.o fuel  n w49 w50 = some X) (fun | (n, _, _) => n) (fuel, w49i, w50i) hX hle (by rintro ⟨_, _, _⟩; exact hn) ?_
  rintro ⟨n, w49, w50⟩ hb N hN
  rcases n with _ | n
  · exact none_go (show (none : Option F30L0) = some X from hb)
  exact round X HX n w49 w50 hb N fun env w49' w50' v h1 h2 => hN _ (n, w49', w50') h1 (Nat.lt_succ_self n) ⟨h2, by first | (cbv; done) | (cbv; repeat' (first | exact trivial | exact rfl | apply And.intro)), rfl, rfl⟩
noncomputable def f30 (o : Ops) (fuel : Nat) (a0 : List AV) : Option F30R :=
  bindR (f30_l0 o fuel  fuel 0 a0) fun r => match r with
  | .x0 y99 => some (.v0 false y99)
  | .x1 y100 => some (.v0 false y100)
  | .x2 y101 => some (.v0 false y101)
  | .x3 y102 => some (.v0 false y102)
  | .x4 y103 => some (.v0 false y103)
  | .x5 y104 => some (.v0 false y104)
  | .x6 y105 => some (.v0 true y105)
theorem f30_call (o : Ops) (ho : o = stdOps) (fuel : Nat) (a0 : List AV) {R : F30R} (H : f30 o fuel a0 = some R) (K : AV → List Ent → Prop) (E : AV → List Ent → Prop) (h : K R.av R.hp) : CallA Try.prog 30 [] [.fam 0 a0] K E := by
  refine call_wk fun K' hK => ?_
  refine call_keep (n₀ := 1) tab_ok Try.func30 rfl rfl rfl rfl ?_
  intro J hJ
  obtain rfl : o = J.o := by rw [ho, hJ]; rfl
  unfold f30 at H
  cbv
  repeat' (first
    | ((with_reducible first | refine awp_go2 ?_ | refine aops_go2 ?_ | refine strip_go2 ?_); cbv)
    | with_reducible exact id
    | (cases H; replace H := HX0; clear HX0; (try dsimp only at H))
    | (refine KeepQ.mk [] (by decide) ?_; cbv; cases H; refine hK _ _ _ _ ?_ ?_ rfl h <;> cbv)
    | (refine hN0 _ _ _ _ H ?_; with_reducible refine wkEnv_go2 ?_; cbv)
    | (first | refine known_t (kn_pick_s ho rfl rfl) ?_ | refine known_y (kn_pick_s ho rfl rfl) ?_)
    | (refine ifB_go H ?_ ?_ <;> clear H <;> intro hh H)
    | (refine ifB_og H ?_ ?_ <;> clear H <;> intro hh H)
    | (refine req_go H ?_; clear H; intro hh H)
    | (refine sh3_get H ?_; clear H; intro _ he H; cbv)
    | (refine sh69_get H ?_; clear H; intro _ he H; cbv)
    | (obtain ⟨R, hR, H2⟩ := bindR_go H; refine call_in hJ [0] (by decide) rfl rfl rfl (f40_call _ ho _ _ _ _ hR _ _ ?_); clear H hR; rcases R with ⟨_⟩; all_goals (replace H := H2; clear H2; (try dsimp only at H); cbv))
    | (obtain ⟨R, hR, H2⟩ := bindR_go H; refine call_in hJ [0, 1, 2, 7] (by decide) rfl rfl rfl (f38_call _ ho _ _ _ _ _ _ _ _ _ _ hR _ _ ?_); clear H hR; rcases R with ⟨_, _⟩; all_goals (replace H := H2; clear H2; (try dsimp only at H); cbv))
    | (obtain ⟨R, hR, H2⟩ := bindR_go H; refine call_in hJ [0, 1, 2, 7] (by decide) rfl rfl rfl (f39_call _ ho _ _ _ _ _ _ _ _ _ _ _ _ hR _ _ ?_); clear H hR; rcases R with ⟨_, _⟩; all_goals (replace H := H2; clear H2; (try dsimp only at H); cbv))
    | (obtain ⟨R, hR, H2⟩ := bindR_go H; refine call_in hJ [0, 1, 2, 7] (by decide) rfl rfl rfl (f37_call _ ho _ _ _ _ _ _ _ _ _ hR _ _ ?_); clear H hR; rcases R with ⟨_, _⟩; all_goals (replace H := H2; clear H2; (try dsimp only at H); cbv))
    | (obtain ⟨R, hR, H2⟩ := bindR_go H; refine call_in hJ [0, 1, 2, 7] (by decide) rfl rfl rfl (f67_call _ ho _ _ _ _ _ _ _ _ _ hR _ _ ?_); clear H hR; rcases R with ⟨_⟩; all_goals (replace H := H2; clear H2; (try dsimp only at H); cbv))
    | (obtain ⟨R, hR, H2⟩ := bindR_go H; refine call_in hJ [0, 1, 2, 6] (by decide) rfl rfl rfl (f36_call _ ho _ _ _ _ _ _ _ _ _ _ _ hR _ _ ?_); clear H hR; rcases R with ⟨_, _, _, _, _, _, _⟩; all_goals (replace H := H2; clear H2; (try dsimp only at H); cbv))
    | (obtain ⟨R, hR, H2⟩ := bindR_go H; refine call_in hJ [0, 1, 2, 6] (by decide) rfl rfl rfl (f35_call _ ho _ _ _ _ _ _ _ _ _ hR _ _ ?_); clear H hR; rcases R with ⟨_⟩; all_goals (replace H := H2; clear H2; (try dsimp only at H); cbv))
    | (obtain ⟨R, hR, H2⟩ := bindR_go H; refine call_weakF hJ [.junk, .junk, .junk, .sl 1 [] .no] ?_; cbv; refine call_in hJ [0, 1, 2, 5] (by decide) rfl rfl rfl (f34_call _ ho _ _ _ _ _ _ _ _ _ _ _ _ hR _ _ ?_); clear H hR; rcases R with ⟨_, _, _, _, _, _⟩; all_goals (replace H := H2; clear H2; (try dsimp only at H); cbv))
    | (obtain ⟨R, hR, H2⟩ := bindR_go H; refine call_weakF hJ [.junk, .junk, .junk, .sl 1 [] .no] ?_; cbv; refine call_in hJ [0, 1, 2, 4] (by decide) rfl rfl rfl (f34_call _ ho _ _ _ _ _ _ _ _ _ _ _ _ hR _ _ ?_); clear H hR; rcases R with ⟨_, _, _, _, _, _⟩; all_goals (replace H := H2; clear H2; (try dsimp only at H); cbv))
    | (obtain ⟨R, hR, H2⟩ := bindR_go H; refine call_in hJ [0, 1, 2, 4] (by decide) rfl rfl rfl (f33_call _ ho _ _ _ _ _ _ _ _ _ _ hR _ _ ?_); clear H hR; rcases R with ⟨_, _, _, _, _, _⟩; all_goals (replace H := H2; clear H2; (try dsimp only at H); cbv))
    | (obtain ⟨R, hR, H2⟩ := bindR_go H; refine call_weakF hJ [.junk, .junk, .junk, .sl 1 [] .no] ?_; cbv; refine call_in hJ [0, 1, 2, 3] (by decide) rfl rfl rfl (f34_call _ ho _ _ _ _ _ _ _ _ _ _ _ _ hR _ _ ?_); clear H hR; rcases R with ⟨_, _, _, _, _, _⟩; all_goals (replace H := H2; clear H2; (try dsimp only at H); cbv))
    | (obtain ⟨R, hR, H2⟩ := bindR_go H; refine call_in hJ [0, 1, 2, 3] (by decide) rfl rfl rfl (f63_call _ ho _ _ _ _ _ _ _ _ _ _ hR _ _ ?_); clear H hR; rcases R with ⟨_, _, _⟩; all_goals (replace H := H2; clear H2; (try dsimp only at H); cbv))
    | (obtain ⟨R, hR, H2⟩ := bindR_go H; refine call_in hJ [0] (by decide) rfl rfl rfl (f48_call _ ho _ _ _ hR _ _ ?_); clear H hR; rcases R with ⟨⟩ | ⟨_, _⟩; all_goals (replace H := H2; clear H2; (try dsimp only at H); cbv))
    | (refine f30_l0_go hJ (o := J.o) rfl H (by decide) ⟨?_, ?_, rfl, rfl⟩ ?_
       · cbv; (repeat' (first | exact trivial | exact rfl | apply And.intro))
       · cbv; (repeat' (first | exact trivial | exact rfl | apply And.intro))
       clear H
       intro X0 HX0 n _ _ H Nx0 hN0
       rw [f30_l0] at H
       cbv)
    | with_reducible refine And.intro ?_ ?_
    | (intro _; clear H h; (try clear hN0); (try clear HX0); simp only [ho, stdOps] at *; simp_all))
end Go.Proofs.Ytjdbmfipciadfaa.A
namespace Go.Proofs.Ytjdbmfipciadfaa.A
open Go Go.Pt
set_option maxHeartbeats 4000000
set_option maxRecDepth 100000
inductive F49R where
  | v0
  | v1 (y0 y1 : List AV)
def F49R.av : F49R → AV
  | .v0  => .tup [.nilp, .int .i64 1]
  | .v1 _ _ => .tup [.ptr 1 0, .int .i64 0]
def F49R.hp (a0 : Int) (a1 : List AV) : F49R → List Ent
  | .v0  => [.fam 0 a1]
  | .v1 y0 y1 => [.fam 0 a1, .var [.vs 2 2 0 0 0, .vs 3 3 0 0 0, .int .i64 a0, .bool false], .vec 2 y0, .vec 3 y1]
noncomputable def f49 (o : Ops) (_fuel : Nat) (a0 : Int) (_a1 : List AV) : Option F49R :=
  ifB (o.pick (o.cmp .lss a0 0) true (o.cmp .gtr a0 4194304))
  (some (.v0 ))
  (some (.v1 [] []))
theorem f49_call (o : Ops) (ho : o = stdOps) (fuel : Nat) (a0 : Int) (a1 : List AV) {R : F49R} (H : f49 o fuel a0 a1 = some R) (K : AV → List Ent → Prop) (E : AV → List Ent → Prop) (h : K R.av (F49R.hp a0 a1 R)) : CallA Try.prog 49 [.int .i64 a0] [.fam 0 a1] K E := by
  refine call_wk fun K' hK => ?_
  refine call_keep (n₀ := 1) tab_ok Try.func49 rfl rfl rfl rfl ?_
  intro J hJ
  obtain rfl : o = J.o := by rw [ho, hJ]; rfl
  unfold f49 at H
  cbv
  repeat' (first
    | ((with_reducible refine awp_go2 ?_); cbv)
    | with_reducible exact id
    | (refine KeepQ.tn _ (by first | exact .inl rfl | exact .inr rfl) (Turn.trans (Turn.at 2 (turn_nilrh 1 0 2 rfl rfl (leN_t rfl)) rfl) (Turn.at 3 (turn_nilrh 1 1 3 rfl rfl (leN_t rfl)) rfl)) [1, 2, 3] (by decide) ?_; cbv; cases H; refine hK _ _ _ _ ?_ ?_ rfl h <;> cbv)
    | (refine KeepQ.mk [] (by decide) ?_; cbv; cases H; refine hK _ _ _ _ ?_ ?_ rfl h <;> cbv)
    | (refine ifB_go H ?_ ?_ <;> clear H <;> intro hh H)
    | with_reducible refine And.intro ?_ ?_)
inductive F142R where
  | v0 (y0 : Int)
def F142R.av : F142R → AV
  | .v0 y0 => .int .i64 y0
def F142R.hp (a1 : List AV) (a2 a3 a4 a5 a6 a7 a8 : Int) (a9 : Bool) (a10 a11 : List AV) : F142R → List Ent
  | .v0 _ => [.fam 0 a1, .var [.vs 2 2 a2 a3 a4, .vs 3 3 a5 a6 a7, .int .i64 a8, .bool a9], .vec 2 a10, .vec 3 a11]
inductive F142L0 where
  | x0 (y0 : Int)
  | x1
noncomputable def f142_l0 (o : Ops) (fuel : Nat) (a3 a2 : Int) (a10 : List AV) (a0 : ByteArray) (a1 : List AV) (a4 a5 a6 a7 a8 : Int) (a9 : Bool) (a11 : List AV) : Nat → Int → Option F142L0
  | 0, _ => none
  | n + 1, w14 =>
    ifB (o.cmp .lss w14 a3)
    (req (o.inb w14 a3) <|
     req (o.inb (o.sum a2 w14) (o.len a10)) <|
     getA (o.get a10 (o.sum a2 w14)) fun e => sh164 e fun v15 _ =>
     ifB (o.seq v15 a0)
     (some (.x0 w14))
     (f142_l0 o fuel a3 a2 a10 a0 a1 a4 a5 a6 a7 a8 a9 a11 n (o.ar .add .i64 w14 1)))
    (some (.x1 ))
theorem f142_l0_go {J : Jd} {n₀ : Nat} (hJ : J = std Try.prog n₀) {o : Ops} (hJo : J.o = o) {fuel : Nat} {a3 a2 : Int} {a10 : List AV} {a0 : ByteArray} {a1 : List AV} {a4 a5 a6 a7 a8 : Int} {a9 : Bool} {a11 : List AV} {w14i : Int} {α : Type} {k : F142L0 → Option α} {r : α} {c : Code} {Q : Ex → St → Prop} {s : St}
    (H : bindR (f142_l0 o fuel a3 a2 a10 a0 a1 a4 a5 a6 a7 a8 a9 a11 fuel w14i) k = some r) (hn : n₀ ≤ 4) (hle : Le s ⟨[(5, .int .i64 w14i), (1, .str a0), (0, .ptr 1 0)], [.fam 0 a1, .var [.vs 2 2 a2 a3 a4, .vs 3 3 a5 a6 a7, .int .i64 a8, .bool a9], .vec 2 a10, .vec 3 a11], 26⟩)
    (round : ∀ X, k X = some r → ∀ (n : Nat) (w14 : Int), f142_l0 o fuel a3 a2 a10 a0 a1 a4 a5 a6 a7 a8 a9 a11 (n + 1) w14 = some X → ∀ N : St → Prop,
      (∀ (env : List (Nat × AV)) (w14' : Int) (v : List Ent), f142_l0 o fuel a3 a2 a10 a0 a1 a4 a5 a6 a7 a8 a9 a11 n w14' = some X → wkEnv env [(5, .int .i64 w14'), (1, .str a0), (0, .ptr 1 0)] → N ⟨env, [.fam 0 a1, .var [.vs 2 2 a2 a3 a4, .vs 3 3 a5 a6 a7, .int .i64 a8, .bool a9], .vec 2 a10, .vec 3 a11] ++ v, 26⟩) → awp J tab c (thenQ N Q) ⟨[(5, .int .i64 w14), (1, .str a0), (0, .ptr 1 0)], [.fam 0 a1, .var [.vs 2 2 a2 a3 a4, .vs 3 3 a5 a6 a7, .int .i64 a8, .bool a9], .vec 2 a10, .vec 3 a11], 26⟩) : J.code (.loop c) Q s := by
  subst hJo
  obtain ⟨X, hX, HX⟩ := bindR_go H
  refine loop_at (β := Nat × Int) hJ tab_ok (fun | (_, w14) => ⟨[(5, .int .i64 w14), (1, .str a0), (0, .ptr 1 0)], [.fam 0 a1, .var [.vs 2 2 a2 a3 a4, .vs 3 3 a5 a6 a7, .int .i64 a8, .bool a9], .vec 2 a10, .vec 3 a11], 26⟩) (fun | (n, w14) => f142_l0 J.o fuel a3 a2 a10 a0 a1 a4 a5 a6 a7 a8 a9 a11 n w14 = some X) (fun | (n, _) => n) (fuel, w14i) hX hle (by rintro ⟨_, _⟩; exact hn) ?_
  rintro ⟨n, w14⟩ hb N hN
  rcases n with _ | n
  · exact none_go (show (none : Option F142L0) = some X from hb)
  exact round X HX n w14 hb N fun env w14' v h1 h2 => hN _ (n, w14') h1 (Nat.lt_succ_self n) ⟨h2, by first | (cbv; done) | (cbv; repeat' (first | exact trivial | exact rfl | apply And.intro)), rfl, rfl⟩
noncomputable def f142 (o : Ops) (fuel : Nat) (a0 : ByteArray) (a1 : List AV) (a2 a3 a4 a5 a6 a7 a8 : Int) (a9 : Bool) (a10 a11 : List AV) : Option F142R :=
  bindR (f142_l0 o fuel a3 a2 a10 a0 a1 a4 a5 a6 a7 a8 a9 a11 fuel 0) fun r => match r with
  | .x0 y17 => some (.v0 y17)
  | .x1  => some (.v0 (-1))
theorem f142_call (o : Ops) (ho : o = stdOps) (fuel : Nat) (a0 : ByteArray) (a1 : List AV) (a2 a3 a4 a5 a6 a7 a8 : Int) (a9 : Bool) (a10 a11 : List AV) {R : F142R} (H : f142 o fuel a0 a1 a2 a3 a4 a5 a6 a7 a8 a9 a10 a11 = some R) (K : AV → List Ent → Prop) (E : AV → List Ent → Prop) (h : K R.av (F142R.hp a1 a2 a3 a4 a5 a6 a7 a8 a9 a10 a11 R)) : CallA Try.prog 142 [.ptr 1 0, .str a0] [.fam 0 a1, .var [.vs 2 2 a2 a3 a4, .vs 3 3 a5 a6 a7, .int .i64 a8, .bool a9], .vec 2 a10, .vec 3 a11] K E := by
  refine call_wk fun K' hK => ?_
  refine call_keep (n₀ := 4) tab_ok Try.func142 rfl rfl rfl rfl ?_
  intro J hJ
  obtain rfl : o = J.o := by rw [ho, hJ]; rfl
  unfold f142 at H
  cbv
  repeat' (first
    | ((with_reducible refine awp_go2 ?_); cbv)
    | (cases H; replace H := HX0; clear HX0; (try dsimp only at H))
    | (refine KeepQ.mk [] (by decide) ?_; cbv; cases H; refine hK _ _ _ _ ?_ ?_ rfl h <;> cbv)
    | (refine hN0 _ _ _ H ?_; with_reducible refine wkEnv_go2 ?_; cbv)
    | (refine ifB_go H ?_ ?_ <;> clear H <;> intro hh H)
    | (refine req_go H ?_; clear H; intro hh H)
    | (refine sh164_get H ?_; clear H; intro _ _ he H; cbv)
    | (refine f142_l0_go hJ (o := J.o) rfl H (by decide) ⟨?_, ?_, rfl, rfl⟩ ?_
       · cbv; (repeat' (first | exact trivial | exact rfl | apply And.intro))
       · cbv; (repeat' (first | exact trivial | exact rfl | apply And.intro))
       clear H
       intro X0 HX0 n _ H Nx0 hN0
       rw [f142_l0] at H
       cbv))
end Go.Proofs.Ytjdbmfipciadfaa.A
namespace Go.Proofs.Ytjdbmfipciadfaa.A
open Go Go.Pt
set_option maxHeartbeats 4000000
set_option maxRecDepth 100000
inductive F143R where
  | v0 (y0 y1 y2 : Int) (y3 : List AV)
def F143R.av : F143R → AV
  | .v0 _ _ _ _ => .tup []
def F143R.hp (a2 : List AV) (a6 a7 a8 a9 : Int) (a10 : Bool) (a12 : List AV) : F143R → List Ent
  | .v0 y0 y1 y2 y3 => [.fam 0 a2, .var [.vs 4 2 y0 y1 y2, .vs 3 3 a6 a7 a8, .int .i64 a9, .bool a10], .dead, .vec 3 a12, .vec 2 y3]
inductive F143L0 where
  | x0 (y0 : Int)
noncomputable def f143_l0 (o : Ops) (fuel : Nat) (a4 a3 : Int) (a11 : List AV) (a0 : ByteArray) (a2 : List AV) (a5 a6 a7 a8 a9 : Int) (a10 : Bool) (a12 a1 : List AV) : Nat → Int → Option F143L0
  | 0, _ => none
  | n + 1, w15 =>
    ifB (o.cmp .lss w15 a4)
    (req (o.inb w15 a4) <|
     req (o.inb (o.sum a3 w15) (o.len a11)) <|
     getA (o.get a11 (o.sum a3 w15)) fun e => sh164 e fun v16 _ =>
     ifB (o.pick (o.cmp .lss w15 a4) (o.scmp .lss v16 a0) false)
     (f143_l0 o fuel a4 a3 a11 a0 a2 a5 a6 a7 a8 a9 a10 a12 a1 n (o.ar .add .i64 w15 1))
     (some (.x0 w15)))
    (some (.x0 w15))
theorem f143_l0_go {J : Jd} {n₀ : Nat} (hJ : J = std Try.prog n₀) {o : Ops} (hJo : J.o = o) {fuel : Nat} {a4 a3 : Int} {a11 : List AV} {a0 : ByteArray} {a2 : List AV} {a5 a6 a7 a8 a9 : Int} {a10 : Bool} {a12 a1 : List AV} {w15i : Int} {α : Type} {k : F143L0 → Option α} {r : α} {c : Code} {Q : Ex → St → Prop} {s : St}
    (H : bindR (f143_l0 o fuel a4 a3 a11 a0 a2 a5 a6 a7 a8 a9 a10 a12 a1 fuel w15i) k = some r) (hn : n₀ ≤ 5) (hle : Le s ⟨[(4, .int .i64 w15i), (3, .ptr 4 0), (0, .ptr 1 0)], [.fam 0 a2, .var [.vs 2 2 a3 a4 a5, .vs 3 3 a6 a7 a8, .int .i64 a9, .bool a10], .vec 2 a11, .vec 3 a12, .var [.str a0, .sl 1 a1 .no]], 50⟩)
    (round : ∀ X, k X = some r → ∀ (n : Nat) (w15 : Int), f143_l0 o fuel a4 a3 a11 a0 a2 a5 a6 a7 a8 a9 a10 a12 a1 (n + 1) w15 = some X → ∀ N : St → Prop,
      (∀ (env : List (Nat × AV)) (w15' : Int) (v : List Ent), f143_l0 o fuel a4 a3 a11 a0 a2 a5 a6 a7 a8 a9 a10 a12 a1 n w15' = some X → wkEnv env [(4, .int .i64 w15'), (3, .ptr 4 0), (0, .ptr 1 0)] → N ⟨env, [.fam 0 a2, .var [.vs 2 2 a3 a4 a5, .vs 3 3 a6 a7 a8, .int .i64 a9, .bool a10], .vec 2 a11, .vec 3 a12, .var [.str a0, .sl 1 a1 .no]] ++ v, 50⟩) → awp J tab c (thenQ N Q) ⟨[(4, .int .i64 w15), (3, .ptr 4 0), (0, .ptr 1 0)], [.fam 0 a2, .var [.vs 2 2 a3 a4 a5, .vs 3 3 a6 a7 a8, .int .i64 a9, .bool a10], .vec 2 a11, .vec 3 a12, .var [.str a0, .sl 1 a1 .no]], 50⟩) : J.code (.loop c) Q s := by
  subst hJo
  obtain ⟨X, hX, HX⟩ := bindR_go H
  refine loop_at (β := Nat × Int) hJ tab_ok (fun | (_, w15) => ⟨[(4, .int .i64 w15), (3, .ptr 4 0), (0, .ptr 1 0)], [.fam 0 a2, .var [.vs 2 2 a3 a4 a5, .vs 3 3 a6 a7 a8, .int .i64 a9, .bool a10], .vec 2 a11, .vec 3 a12, .var [.str a0, .sl 1 a1 .no]], 50⟩) (fun | (n, w15) => f143_l0 J.o fuel a4 a3 a11 a0 a2 a5 a6 a7 a8 a9 a10 a12 a1 n w15 = some X) (fun | (n, _) => n) (fuel, w15i) hX hle (by rintro ⟨_, _⟩; exact hn) ?_
  rintro ⟨n, w15⟩ hb N hN
  rcases n with _ | n
  · exact none_go (show (none : Option F143L0) = some X from hb)
  exact round X HX n w15 hb N fun env w15' v h1 h2 => hN _ (n, w15') h1 (Nat.lt_succ_self n) ⟨h2, by first | (cbv; done) | (cbv; repeat' (first | exact trivial | exact rfl | apply And.intro)), rfl, rfl⟩
noncomputable def f143 (o : Ops) (fuel : Nat) (a0 : ByteArray) (a1 a2 : List AV) (a3 a4 a5 a6 a7 a8 a9 : Int) (a10 : Bool) (a11 a12 : List AV) : Option F143R :=
  bindR (f143_l0 o fuel a4 a3 a11 a0 a2 a5 a6 a7 a8 a9 a10 a12 a1 fuel 0) fun r => match r with
  | .x0 y18 => req (o.le 0 y18) <|
    req (o.le (o.sum a3 y18) a5) <|
    req (o.le 0 a3) <|
    req (o.le 0 y18) <|
    req (o.le (o.sum a3 y18) (o.len a11)) <|
    req (o.emp []) <|
    req (o.room [] (o.sub a11 a3 (o.sum a3 y18)) 40) <|
    req (o.is 0 0) <|
    req (o.le 0 (o.len (o.sub a11 a3 (o.sum a3 y18)))) <|
    req (o.le (o.len (o.sub a11 a3 (o.sum a3 y18))) (o.len (o.sub a11 a3 (o.sum a3 y18)))) <|
    req (o.room (o.sub (o.sub a11 a3 (o.sum a3 y18)) 0 (o.len (o.sub a11 a3 (o.sum a3 y18)))) [.agg [.str a0, .sl 1 a1 .no]] 40) <|
    req (o.le 0 y18) <|
    req (o.le y18 a4) <|
    req (o.le 0 (o.sum a3 y18)) <|
    req (o.le 0 (o.dif a4 y18)) <|
    req (o.le (o.sum (o.sum a3 y18) (o.dif a4 y18)) (o.len a11)) <|
    req (o.is 0 0) <|
    req (o.le 0 (o.len (o.apnd (o.sub (o.sub a11 a3 (o.sum a3 y18)) 0 (o.len (o.sub a11 a3 (o.sum a3 y18)))) [.agg [.str a0, .sl 1 a1 .no]]))) <|
    req (o.le (o.len (o.apnd (o.sub (o.sub a11 a3 (o.sum a3 y18)) 0 (o.len (o.sub a11 a3 (o.sum a3 y18)))) [.agg [.str a0, .sl 1 a1 .no]])) (o.len (o.apnd (o.sub (o.sub a11 a3 (o.sum a3 y18)) 0 (o.len (o.sub a11 a3 (o.sum a3 y18)))) [.agg [.str a0, .sl 1 a1 .no]]))) <|
    req (o.room (o.sub (o.apnd (o.sub (o.sub a11 a3 (o.sum a3 y18)) 0 (o.len (o.sub a11 a3 (o.sum a3 y18)))) [.agg [.str a0, .sl 1 a1 .no]]) 0 (o.len (o.apnd (o.sub (o.sub a11 a3 (o.sum a3 y18)) 0 (o.len (o.sub a11 a3 (o.sum a3 y18)))) [.agg [.str a0, .sl 1 a1 .no]]))) (o.sub a11 (o.sum a3 y18) (o.sum (o.sum a3 y18) (o.dif a4 y18))) 40) <|
    some (.v0 0 (o.len (o.apnd (o.sub (o.apnd (o.sub (o.sub a11 a3 (o.sum a3 y18)) 0 (o.len (o.sub a11 a3 (o.sum a3 y18)))) [.agg [.str a0, .sl 1 a1 .no]]) 0 (o.len (o.apnd (o.sub (o.sub a11 a3 (o.sum a3 y18)) 0 (o.len (o.sub a11 a3 (o.sum a3 y18)))) [.agg [.str a0, .sl 1 a1 .no]]))) (o.sub a11 (o.sum a3 y18) (o.sum (o.sum a3 y18) (o.dif a4 y18))))) (o.len (o.apnd (o.sub (o.apnd (o.sub (o.sub a11 a3 (o.sum a3 y18)) 0 (o.len (o.sub a11 a3 (o.sum a3 y18)))) [.agg [.str a0, .sl 1 a1 .no]]) 0 (o.len (o.apnd (o.sub (o.sub a11 a3 (o.sum a3 y18)) 0 (o.len (o.sub a11 a3 (o.sum a3 y18)))) [.agg [.str a0, .sl 1 a1 .no]]))) (o.sub a11 (o.sum a3 y18) (o.sum (o.sum a3 y18) (o.dif a4 y18))))) (o.apnd (o.sub (o.apnd (o.sub (o.sub a11 a3 (o.sum a3 y18)) 0 (o.len (o.sub a11 a3 (o.sum a3 y18)))) [.agg [.str a0, .sl 1 a1 .no]]) 0 (o.len (o.apnd (o.sub (o.sub a11 a3 (o.sum a3 y18)) 0 (o.len (o.sub a11 a3 (o.sum a3 y18)))) [.agg [.str a0, .sl 1 a1 .no]]))) (o.sub a11 (o.sum a3 y18) (o.sum (o.sum a3 y18) (o.dif a4 y18)))))
theorem f143_call (o : Ops) (ho : o = stdOps) (fuel : Nat) (a0 : ByteArray) (a1 a2 : List AV) (a3 a4 a5 a6 a7 a8 a9 : Int) (a10 : Bool) (a11 a12 : List AV) {R : F143R} (H : f143 o fuel a0 a1 a2 a3 a4 a5 a6 a7 a8 a9 a10 a11 a12 = some R) (K : AV → List Ent → Prop) (E : AV → List Ent → Prop) (h : K R.av (F143R.hp a2 a6 a7 a8 a9 a10 a12 R)) : CallA Try.prog 143 [.ptr 1 0, .agg [.str a0, .sl 1 a1 .no]] [.fam 0 a2, .var [.vs 2 2 a3 a4 a5, .vs 3 3 a6 a7 a8, .int .i64 a9, .bool a10], .vec 2 a11, .vec 3 a12] K E := by
  refine call_wk fun K' hK => ?_
  refine call_keep (n₀ := 4) tab_ok Try.func143 rfl rfl rfl rfl ?_
  intro J hJ
  obtain rfl : o = J.o := by rw [ho, hJ]; rfl
  unfold f143 at H
  cbv
  repeat' (first
    | ((with_reducible first | refine awp_go2 ?_ | refine strip_go2 ?_); cbv)
    | (with_reducible refine hold_go hJ ?_; cbv)
    | with_reducible exact id
    | (cases H; replace H := HX0; clear HX0; (try dsimp only at H))
    | (refine KeepQ.tn _ (by first | exact .inl rfl | exact .inr rfl) (Turn.at 8 (turn_mvg 2 2 rfl (leN_t rfl)) rfl) [7] (by decide) ?_; cbv; cases H; refine hK _ _ _ _ ?_ ?_ rfl h <;> cbv)
    | (refine hN0 _ _ _ H ?_; with_reducible refine wkEnv_go2 ?_; cbv)
    | (first | refine known_f (kn_pick_f ho (by assumption) rfl) ?_ | refine known_x (kn_pick_f ho (by assumption) rfl) ?_)
    | (refine ifB_go H ?_ ?_ <;> clear H <;> intro hh H)
    | (with_reducible refine and3_go ?_)
    | (refine req_go H ?_; clear H; intro hh H)
    | (refine sh164_get H ?_; clear H; intro _ _ he H; cbv)
    | (refine f143_l0_go hJ (o := J.o) rfl H (by decide) ⟨?_, ?_, rfl, rfl⟩ ?_
       · cbv; (repeat' (first | exact trivial | exact rfl | apply And.intro))
       · cbv; (repeat' (first | exact trivial | exact rfl | apply And.intro))
       clear H
       intro X0 HX0 n _ H Nx0 hN0
       rw [f143_l0] at H
       cbv)
    | with_reducible refine And.intro ?_ ?_
    | (intro _; assumption)
    | (intro hx; first | exact tf_absurd hx (by assumption) | exact tf_absurd (by assumption) hx))
inductive F110R where
  | v0 (y0 y1 y2 y3 : Int) (y4 : List AV)
def F110R.av : F110R → AV
  | .v0 y0 _ _ _ _ => .int .i64 y0
def F110R.hp (a1 : List AV) (a5 a6 a7 a8 : Int) (a9 : Bool) (a11 : List AV) : F110R → List Ent
  | .v0 _ y1 y2 y3 y4 => [.fam 0 a1, .var [.vs 4 2 y1 y2 y3, .vs 3 3 a5 a6 a7, .int .i64 a8, .bool a9], .dead, .vec 3 a11, .vec 2 y4]
noncomputable def f110 (o : Ops) (fuel : Nat) (a0 : ByteArray) (a1 : List AV) (a2 a3 a4 a5 a6 a7 a8 : Int) (a9 : Bool) (a10 a11 : List AV) : Option F110R :=
  ifB a9
  (some (.v0 32 a2 a3 a4 a10))
  (ifB (o.seq a0 ⟨#[]⟩)
   (some (.v0 31 a2 a3 a4 a10))
   (bindR (f142 o fuel a0 a1 a2 a3 a4 a5 a6 a7 a8 a9 a10 a11) fun r => match r with
    | .v0 r12 => ifB (o.cmp .geq r12 0)
      (some (.v0 31 a2 a3 a4 a10))
      (ifB (o.cmp .geq a3 4096)
       (some (.v0 6 a2 a3 a4 a10))
       (bindR (f143 o fuel a0 [] a1 a2 a3 a4 a5 a6 a7 a8 a9 a10 a11) fun r => match r with
        | .v0 r13 r14 r15 r16 => some (.v0 0 r13 r14 r15 r16)))))
theorem f110_call (o : Ops) (ho : o = stdOps) (fuel : Nat) (a0 : ByteArray) (a1 : List AV) (a2 a3 a4 a5 a6 a7 a8 : Int) (a9 : Bool) (a10 a11 : List AV) {R : F110R} (H : f110 o fuel a0 a1 a2 a3 a4 a5 a6 a7 a8 a9 a10 a11 = some R) (K : AV → List Ent → Prop) (E : AV → List Ent → Prop) (h : K R.av (F110R.hp a1 a5 a6 a7 a8 a9 a11 R)) : CallA Try.prog 110 [.ptr 1 0, .str a0] [.fam 0 a1, .var [.vs 2 2 a2 a3 a4, .vs 3 3 a5 a6 a7, .int .i64 a8, .bool a9], .vec 2 a10, .vec 3 a11] K E := by
  refine call_wk fun K' hK => ?_
  refine call_keep (n₀ := 4) tab_ok Try.func110 rfl rfl rfl rfl ?_
  intro J hJ
  obtain rfl : o = J.o := by rw [ho, hJ]; rfl
  unfold f110 at H
  cbv
  repeat' (first
    | ((with_reducible first | refine awp_go2 ?_ | refine aops_go2 ?_ | refine strip_go2 ?_); cbv)
    | (refine KeepQ.tn _ (by first | exact .inl rfl | exact .inr rfl) (Turn.at 4 (turn_mv 1 0 2 2 rfl rfl rfl rfl (leN_t rfl)) rfl) [4] (by decide) ?_; cbv; cases H; refine hK _ _ _ _ ?_ ?_ rfl h <;> cbv)
    | (refine KeepQ.mk [4] (by decide) ?_; cbv; cases H; refine hK _ _ _ _ ?_ ?_ rfl h <;> cbv)
    | (refine ifB_go H ?_ ?_ <;> clear H <;> intro hh H)
    | (refine ifB_og H ?_ ?_ <;> clear H <;> intro hh H)
    | (obtain ⟨R, hR, H2⟩ := bindR_go H; refine call_weakF hJ [.junk, .agg [.junk, .sl 1 [] .no]] ?_; cbv; refine call_in hJ [0, 1, 2, 3] (by decide) rfl rfl rfl (f143_call _ ho _ _ _ _ _ _ _ _ _ _ _ _ _ _ hR _ _ ?_); clear H hR; rcases R with ⟨_, _, _, _⟩; all_goals (replace H := H2; clear H2; (try dsimp only at H); cbv))
    | (obtain ⟨R, hR, H2⟩ := bindR_go H; refine call_in hJ [0, 1, 2, 3] (by decide) rfl rfl rfl (f142_call _ ho _ _ _ _ _ _ _ _ _ _ _ _ _ hR _ _ ?_); clear H hR; rcases R with ⟨_⟩; all_goals (replace H := H2; clear H2; (try dsimp only at H); cbv))
    | with_reducible refine And.intro ?_ ?_
    | (intro _; clear H h; simp only [ho, stdOps] at *; simp_all))
inductive F144R where
  | v0 (y0 : Int)
def F144R.av : F144R → AV
  | .v0 y0 => .int .i64 y0
def F144R.hp (a1 : List AV) (a2 a3 a4 a5 a6 a7 a8 : Int) (a9 : Bool) (a10 a11 : List AV) : F144R → List Ent
  | .v0 _ => [.fam 0 a1, .var [.vs 2 2 a2 a3 a4, .vs 3 3 a5 a6 a7, .int .i64 a8, .bool a9], .vec 2 a10, .vec 3 a11]
noncomputable def f144 (o : Ops) (fuel : Nat) (a0 : ByteArray) (a1 : List AV) (a2 a3 a4 a5 a6 a7 a8 : Int) (a9 : Bool) (a10 a11 : List AV) : Option F144R :=
  ifB a9
  (some (.v0 32))
  (bindR (f142 o fuel a0 a1 a2 a3 a4 a5 a6 a7 a8 a9 a10 a11) fun r => match r with
   | .v0 r12 => ifB (o.cmp .lss r12 0)
     (some (.v0 4))
     (some (.v0 0)))
theorem f144_call (o : Ops) (ho : o = stdOps) (fuel : Nat) (a0 : ByteArray) (a1 : List AV) (a2 a3 a4 a5 a6 a7 a8 : Int) (a9 : Bool) (a10 a11 : List AV) {R : F144R} (H : f144 o fuel a0 a1 a2 a3 a4 a5 a6 a7 a8 a9 a10 a11 = some R) (K : AV → List Ent → Prop) (E : AV → List Ent → Prop) (h : K R.av (F144R.hp a1 a2 a3 a4 a5 a6 a7 a8 a9 a10 a11 R)) : CallA Try.prog 144 [.ptr 1 0, .str a0] [.fam 0 a1, .var [.vs 2 2 a2 a3 a4, .vs 3 3 a5 a6 a7, .int .i64 a8, .bool a9], .vec 2 a10, .vec 3 a11] K E := by
  refine call_wk fun K' hK => ?_
  refine call_keep (n₀ := 4) tab_ok Try.func144 rfl rfl rfl rfl ?_
  intro J hJ
  obtain rfl : o = J.o := by rw [ho, hJ]; rfl
  unfold f144 at H
  cbv
  repeat' (first
    | ((with_reducible refine awp_go2 ?_); cbv)
    | (refine KeepQ.mk [] (by decide) ?_; cbv; cases H; refine hK _ _ _ _ ?_ ?_ rfl h <;> cbv)
    | (refine ifB_go H ?_ ?_ <;> clear H <;> intro hh H)
    | (obtain ⟨R, hR, H2⟩ := bindR_go H; refine call_in hJ [0, 1, 2, 3] (by decide) rfl rfl rfl (f142_call _ ho _ _ _ _ _ _ _ _ _ _ _ _ _ hR _ _ ?_); clear H hR; rcases R with ⟨_⟩; all_goals (replace H := H2; clear H2; (try dsimp only at H); cbv)))
end Go.Proofs.Ytjdbmfipciadfaa.A
namespace Go.Proofs.Ytjdbmfipciadfaa.A
open Go Go.Pt
set_option maxHeartbeats 4000000
set_option maxRecDepth 100000
inductive F147R where
  | v0 (y0 : List AV)
def F147R.av : F147R → AV
  | .v0 y0 => .sl 1 y0 .no
def F147R.hp (a3 : List AV) : F147R → List Ent
  | .v0 _ => [.fam 0 a3]
noncomputable def f147 (o : Ops) (_fuel : Nat) (a0 : List AV) (a1 : Int) (a2 _a3 : List AV) : Option F147R :=
  req (o.le 0 a1) <|
  req (o.le a1 (o.len a0)) <|
  req (o.room [] (o.sub a0 0 a1) 1) <|
  req (o.room (o.apnd [] (o.sub a0 0 a1)) a2 1) <|
  ifB (o.cmp .lss (o.len (o.apnd (o.apnd [] (o.sub a0 0 a1)) a2)) (o.len a0))
  (req (o.le 0 (o.len (o.apnd (o.apnd [] (o.sub a0 0 a1)) a2))) <|
   req (o.le (o.len (o.apnd (o.apnd [] (o.sub a0 0 a1)) a2)) (o.len a0)) <|
   req (o.room (o.apnd (o.apnd [] (o.sub a0 0 a1)) a2) (o.drop a0 (o.len (o.apnd (o.apnd [] (o.sub a0 0 a1)) a2))) 1) <|
   some (.v0 (o.apnd (o.apnd (o.apnd [] (o.sub a0 0 a1)) a2) (o.drop a0 (o.len (o.apnd (o.apnd [] (o.sub a0 0 a1)) a2))))))
  (some (.v0 (o.apnd (o.apnd [] (o.sub a0 0 a1)) a2)))
theorem f147_call (o : Ops) (ho : o = stdOps) (fuel : Nat) (a0 : List AV) (a1 : Int) (a2 a3 : List AV) {R : F147R} (H : f147 o fuel a0 a1 a2 a3 = some R) (K : AV → List Ent → Prop) (E : AV → List Ent → Prop) (h : K R.av (F147R.hp a3 R)) : CallA Try.prog 147 [.sl 1 a0 .no, .int .i64 a1, .sl 1 a2 .no] [.fam 0 a3] K E := by
  refine call_wk fun K' hK => ?_
  refine call_keep (n₀ := 1) tab_ok Try.func147 rfl rfl rfl rfl ?_
  intro J hJ
  obtain rfl : o = J.o := by rw [ho, hJ]; rfl
  unfold f147 at H
  cbv
  repeat' (first
    | ((with_reducible refine awp_go2 ?_); cbv)
    | (refine KeepQ.mk [] (by decide) ?_; cbv; cases H; refine hK _ _ _ _ ?_ ?_ rfl h <;> cbv)
    | (refine ifB_go H ?_ ?_ <;> clear H <;> intro hh H)
    | (refine req_go H ?_; clear H; intro hh H))
inductive F145R where
  | v0 (y0 : List AV)
def F145R.av : F145R → AV
  | .v0 y0 => .sl 1 y0 .no
def F145R.hp (a1 : List AV) (a2 a3 a4 a5 a6 a7 a8 : Int) (a9 : Bool) (a10 a11 : List AV) : F145R → List Ent
  | .v0 _ => [.fam 0 a1, .var [.vs 2 2 a2 a3 a4, .vs 3 3 a5 a6 a7, .int .i64 a8, .bool a9], .vec 2 a10, .vec 3 a11]
inductive F145L0 where
  | x0 (y0 : List AV)
noncomputable def f145_l0 (o : Ops) (fuel : Nat) (a6 a5 : Int) (a11 : List AV) (a0 : ByteArray) (a1 : List AV) (a2 a3 a4 a7 a8 : Int) (a9 : Bool) (a10 : List AV) : Nat → List AV → Int → Option F145L0
  | 0, _, _ => none
  | n + 1, w25, w26 =>
    ifB (o.cmp .lss w26 a6)
    (req (o.inb w26 a6) <|
     req (o.inb (o.sum a5 w26) (o.len a11)) <|
     getA (o.get a11 (o.sum a5 w26)) fun e => sh158 e fun v27 _ _ =>
     ifB (o.seq v27 a0)
     (req (o.inb w26 a6) <|
      req (o.inb (o.sum a5 w26) (o.len a11)) <|
      getA (o.get a11 (o.sum a5 w26)) fun e => sh158 e fun _ v31 _ =>
      req (o.inb w26 a6) <|
      req (o.inb (o.sum a5 w26) (o.len a11)) <|
      getA (o.get a11 (o.sum a5 w26)) fun e => sh158 e fun _ _ v35 =>
      bindR (f147 o fuel w25 v31 v35 a1) fun r => match r with
      | .v0 r36 => f145_l0 o fuel a6 a5 a11 a0 a1 a2 a3 a4 a7 a8 a9 a10 n r36 (o.ar .add .i64 w26 1))
     (f145_l0 o fuel a6 a5 a11 a0 a1 a2 a3 a4 a7 a8 a9 a10 n w25 (o.ar .add .i64 w26 1)))
    (some (.x0 w25))
theorem f145_l0_go {J : Jd} {n₀ : Nat} (hJ : J = std Try.prog n₀) {o : Ops} (hJo : J.o = o) {fuel : Nat} {a6 a5 : Int} {a11 : List AV} {a0 : ByteArray} {a1 : List AV} {a2 a3 a4 a7 a8 : Int} {a9 : Bool} {a10 : List AV} {w25i : List AV} {w26i : Int} {α : Type} {k : F145L0 → Option α} {r : α} {c : Code} {Q : Ex → St → Prop} {s : St}
    (H : bindR (f145_l0 o fuel a6 a5 a11 a0 a1 a2 a3 a4 a7 a8 a9 a10 fuel w25i w26i) k = some r) (hn : n₀ ≤ 4) (hle : Le s ⟨[(6, .int .i64 w26i), (5, .sl 1 w25i .no), (1, .str a0), (0, .ptr 1 0)], [.fam 0 a1, .var [.vs 2 2 a2 a3 a4, .vs 3 3 a5 a6 a7, .int .i64 a8, .bool a9], .vec 2 a10, .vec 3 a11], 55⟩)
    (round : ∀ X, k X = some r → ∀ (n : Nat) (w25 : List AV) (w26 : Int), f145_l0 o fuel a6 a5 a11 a0 a1 a2 a3 a4 a7 a8 a9 a10 (n + 1) w25 w26 = some X → ∀ N : St → Prop,
      (∀ (env : List (Nat × AV)) (w25' : List AV) (w26' : Int) (v : List Ent), f145_l0 o fuel a6 a5 a11 a0 a1 a2 a3 a4 a7 a8 a9 a10 n w25' w26' = some X → wkEnv env [(6, .int .i64 w26'), (5, .sl 1 w25' .no), (1, .str a0), (0, .ptr 1 0)] → N ⟨env, [.fam 0 a1, .var [.vs 2 2 a2 a3 a4, .vs 3 3 a5 a6 a7, .int .i64 a8, .bool a9], .vec 2 a10, .vec 3 a11] ++ v, 55⟩) → awp J tab c (thenQ N Q) ⟨[(6, .int .i64 w26), (5, .sl 1 w25 .no), (1, .str a0), (0, .ptr 1 0)], [.fam 0 a1, .var [.vs 2 2 a2 a3 a4, .vs 3 3 a5 a6 a7, .int .i64 a8, .bool a9], .vec 2 a10, .vec 3 a11], 55⟩) : J.code (.loop c) Q s := by
  subst hJo
  obtain ⟨X, hX, HX⟩ := bindR_go H
  refine loop_at (β := Nat × List AV × Int) hJ tab_ok (fun | (_, w25, w26) => ⟨[(6, .int .i64 w26), (5, .sl 1 w25 .no), (1, .str a0), (0, .ptr 1 0)], [.fam 0 a1, .var [.vs 2 2 a2 a3 a4, .vs 3 3 a5 a6 a7, .int .i64 a8, .bool a9], .vec 2 a10, .vec 3 a11], 55⟩) (fun | (n, w25, w26) => f145_l0 J.o fuel a6 a5 a11 a0 a1 a2 a3 a4 a7 a8 a9 a10 n w25 w26 = some X) (fun | (n, _, _) => n) (fuel, w25i, w26i) hX hle (by rintro ⟨_, _, _⟩; exact hn) ?_
  rintro ⟨n, w25, w26⟩ hb N hN
  rcases n with _ | n
  · exact none_go (show (none : Option F145L0) = some X from hb)
  exact round X HX n w25 w26 hb N fun env w25' w26' v h1 h2 => hN _ (n, w25', w26') h1 (Nat.lt_succ_self n) ⟨h2, by first | (cbv; done) | (cbv; repeat' (first | exact trivial | exact rfl | apply And.intro)), rfl, rfl⟩
noncomputable def f145 (o : Ops) (fuel : Nat) (a0 : ByteArray) (a1 : List AV) (a2 a3 a4 a5 a6 a7 a8 : Int) (a9 : Bool) (a10 a11 : List AV) : Option F145R :=
  bindR (f142 o fuel a0 a1 a2 a3 a4 a5 a6 a7 a8 a9 a10 a11) fun r => match r with
  | .v0 r12 => req (o.inb r12 a3) <|
    req (o.inb (o.sum a2 r12) (o.len a10)) <|
    getA (o.get a10 (o.sum a2 r12)) fun e => sh164 e fun _ v14 =>
    bindR (f145_l0 o fuel a6 a5 a11 a0 a1 a2 a3 a4 a7 a8 a9 a10 fuel v14 0) fun r => match r with
    | .x0 y37 => some (.v0 y37)
theorem f145_call (o : Ops) (ho : o = stdOps) (fuel : Nat) (a0 : ByteArray) (a1 : List AV) (a2 a3 a4 a5 a6 a7 a8 : Int) (a9 : Bool) (a10 a11 : List AV) {R : F145R} (H : f145 o fuel a0 a1 a2 a3 a4 a5 a6 a7 a8 a9 a10 a11 = some R) (K : AV → List Ent → Prop) (E : AV → List Ent → Prop) (h : K R.av (F145R.hp a1 a2 a3 a4 a5 a6 a7 a8 a9 a10 a11 R)) : CallA Try.prog 145 [.ptr 1 0, .str a0] [.fam 0 a1, .var [.vs 2 2 a2 a3 a4, .vs 3 3 a5 a6 a7, .int .i64 a8, .bool a9], .vec 2 a10, .vec 3 a11] K E := by
  refine call_wk fun K' hK => ?_
  refine call_keep (n₀ := 4) tab_ok Try.func145 rfl rfl rfl rfl ?_
  intro J hJ
  obtain rfl : o = J.o := by rw [ho, hJ]; rfl
  unfold f145 at H
  cbv
  repeat' (first
    | ((with_reducible refine awp_go2 ?_); cbv)
    | (cases H; replace H := HX0; clear HX0; (try dsimp only at H))
    | (refine KeepQ.mk [] (by decide) ?_; cbv; cases H; refine hK _ _ _ _ ?_ ?_ rfl h <;> cbv)
    | (refine hN0 _ _ _ _ H ?_; with_reducible refine wkEnv_go2 ?_; cbv)
    | (refine ifB_go H ?_ ?_ <;> clear H <;> intro hh H)
    | (refine req_go H ?_; clear H; intro hh H)
    | (refine sh158_get H ?_; clear H; intro _ _ _ he H; cbv)
    | (refine sh164_get H ?_; clear H; intro _ _ he H; cbv)
    | (obtain ⟨R, hR, H2⟩ := bindR_go H; refine call_in hJ [0] (by decide) rfl rfl rfl (f147_call _ ho _ _ _ _ _ hR _ _ ?_); clear H hR; rcases R with ⟨_⟩; all_goals (replace H := H2; clear H2; (try dsimp only at H); cbv))
    | (obtain ⟨R, hR, H2⟩ := bindR_go H; refine call_in hJ [0, 1, 2, 3] (by decide) rfl rfl rfl (f142_call _ ho _ _ _ _ _ _ _ _ _ _ _ _ _ hR _ _ ?_); clear H hR; rcases R with ⟨_⟩; all_goals (replace H := H2; clear H2; (try dsimp only at H); cbv))
    | (refine f145_l0_go hJ (o := J.o) rfl H (by decide) ⟨?_, ?_, rfl, rfl⟩ ?_
       · cbv; (repeat' (first | exact trivial | exact rfl | apply And.intro))
       · cbv; (repeat' (first | exact trivial | exact rfl | apply And.intro))
       clear H
       intro X0 HX0 n _ _ H Nx0 hN0
       rw [f145_l0] at H
       cbv))
inductive F120R where
  | v0 (y0 : Int)
def F120R.av : F120R → AV
  | .v0 y0 => .int .i64 y0
def F120R.hp (a0 : List AV) (a1 a2 a3 a4 a5 a6 a7 : Int) (a8 : Bool) (a9 a10 : List AV) : F120R → List Ent
  | .v0 _ => [.fam 0 a0, .var [.vs 2 2 a1 a2 a3, .vs 3 3 a4 a5 a6, .int .i64 a7, .bool a8], .vec 2 a9, .vec 3 a10]
inductive F120L0 where
  | x0 (y0 : Int)
noncomputable def f120_l0 (o : Ops) (fuel : Nat) (a2 a1 : Int) (a9 a0 : List AV) (a3 a4 a5 a6 a7 : Int) (a8 : Bool) (a10 : List AV) : Nat → Int → Int → Option F120L0
  | 0, _, _ => none
  | n + 1, w14, w15 =>
    ifB (o.cmp .lss w15 a2)
    (req (o.inb w15 a2) <|
     req (o.inb (o.sum a1 w15) (o.len a9)) <|
     getA (o.get a9 (o.sum a1 w15)) fun e => sh164 e fun v16 _ =>
     bindR (f145 o fuel v16 a0 a1 a2 a3 a4 a5 a6 a7 a8 a9 a10) fun r => match r with
     | .v0 r18 => f120_l0 o fuel a2 a1 a9 a0 a3 a4 a5 a6 a7 a8 a10 n (o.ar .sub .i64 w14 (o.len r18)) (o.ar .add .i64 w15 1))
    (some (.x0 w14))
theorem f120_l0_go {J : Jd} {n₀ : Nat} (hJ : J = std Try.prog n₀) {o : Ops} (hJo : J.o = o) {fuel : Nat} {a2 a1 : Int} {a9 a0 : List AV} {a3 a4 a5 a6 a7 : Int} {a8 : Bool} {a10 : List AV} {w14i : Int} {w15i : Int} {α : Type} {k : F120L0 → Option α} {r : α} {c : Code} {Q : Ex → St → Prop} {s : St}
    (H : bindR (f120_l0 o fuel a2 a1 a9 a0 a3 a4 a5 a6 a7 a8 a10 fuel w14i w15i) k = some r) (hn : n₀ ≤ 4) (hle : Le s ⟨[(4, .int .i64 w15i), (3, .int .i64 w14i), (0, .ptr 1 0)], [.fam 0 a0, .var [.vs 2 2 a1 a2 a3, .vs 3 3 a4 a5 a6, .int .i64 a7, .bool a8], .vec 2 a9, .vec 3 a10], 32⟩)
    (round : ∀ X, k X = some r → ∀ (n : Nat) (w14 : Int) (w15 : Int), f120_l0 o fuel a2 a1 a9 a0 a3 a4 a5 a6 a7 a8 a10 (n + 1) w14 w15 = some X → ∀ N : St → Prop,
      (∀ (env : List (Nat × AV)) (w14' : Int) (w15' : Int) (v : List Ent), f120_l0 o fuel a2 a1 a9 a0 a3 a4 a5 a6 a7 a8 a10 n w14' w15' = some X → wkEnv env [(4, .int .i64 w15'), (3, .int .i64 w14'), (0, .ptr 1 0)] → N ⟨env, [.fam 0 a0, .var [.vs 2 2 a1 a2 a3, .vs 3 3 a4 a5 a6, .int .i64 a7, .bool a8], .vec 2 a9, .vec 3 a10] ++ v, 32⟩) → awp J tab c (thenQ N Q) ⟨[(4, .int .i64 w15), (3, .int .i64 w14), (0, .ptr 1 0)], [.fam 0 a0, .var [.vs 2 2 a1 a2 a3, .vs 3 3 a4 a5 a6, .int .i64 a7, .bool a8], .vec 2 a9, .vec 3 a10], 32⟩) : J.code (.loop c) Q s := by
  subst hJo
  obtain ⟨X, hX, HX⟩ := bindR_go H
  refine loop_at (β := Nat × Int × Int) hJ tab_ok (fun | (_, w14, w15) => ⟨[(4, .int .i64 w15), (3, .int .i64 w14), (0, .ptr 1 0)], [.fam 0 a0, .var [.vs 2 2 a1 a2 a3, .vs 3 3 a4 a5 a6, .int .i64 a7, .bool a8], .vec 2 a9, .vec 3 a10], 32⟩) (fun | (n, w14, w15) => f120_l0 J.o fuel a2 a1 a9 a0 a3 a4 a5 a6 a7 a8 a10 n w14 w15 = some X) (fun | (n, _, _) => n) (fuel, w14i, w15i) hX hle (by rintro ⟨_, _, _⟩; exact hn) ?_
  rintro ⟨n, w14, w15⟩ hb N hN
  rcases n with _ | n
  · exact none_go (show (none : Option F120L0) = some X from hb)
  exact round X HX n w14 w15 hb N fun env w14' w15' v h1 h2 => hN _ (n, w14', w15') h1 (Nat.lt_succ_self n) ⟨h2, by first | (cbv; done) | (cbv; repeat' (first | exact trivial | exact rfl | apply And.intro)), rfl, rfl⟩
noncomputable def f120 (o : Ops) (fuel : Nat) (a0 : List AV) (a1 a2 a3 a4 a5 a6 a7 : Int) (a8 : Bool) (a9 a10 : List AV) : Option F120R :=
  bindR (f120_l0 o fuel a2 a1 a9 a0 a3 a4 a5 a6 a7 a8 a10 fuel a7 0) fun r => match r with
  | .x0 y19 => some (.v0 y19)
theorem f120_call (o : Ops) (ho : o = stdOps) (fuel : Nat) (a0 : List AV) (a1 a2 a3 a4 a5 a6 a7 : Int) (a8 : Bool) (a9 a10 : List AV) {R : F120R} (H : f120 o fuel a0 a1 a2 a3 a4 a5 a6 a7 a8 a9 a10 = some R) (K : AV → List Ent → Prop) (E : AV → List Ent → Prop) (h : K R.av (F120R.hp a0 a1 a2 a3 a4 a5 a6 a7 a8 a9 a10 R)) : CallA Try.prog 120 [.ptr 1 0] [.fam 0 a0, .var [.vs 2 2 a1 a2 a3, .vs 3 3 a4 a5 a6, .int .i64 a7, .bool a8], .vec 2 a9, .vec 3 a10] K E := by
  refine call_wk fun K' hK => ?_
  refine call_keep (n₀ := 4) tab_ok Try.func120 rfl rfl rfl rfl ?_
  intro J hJ
  obtain rfl : o = J.o := by rw [ho, hJ]; rfl
  unfold f120 at H
  cbv
  repeat' (first
    | ((with_reducible refine awp_go2 ?_); cbv)
    | (cases H; replace H := HX0; clear HX0; (try dsimp only at H))
    | (refine KeepQ.mk [] (by decide) ?_; cbv; cases H; refine hK _ _ _ _ ?_ ?_ rfl h <;> cbv)
    | (refine hN0 _ _ _ _ H ?_; with_reducible refine wkEnv_go2 ?_; cbv)
    | (refine ifB_go H ?_ ?_ <;> clear H <;> intro hh H)
    | (refine req_go H ?_; clear H; intro hh H)
    | (refine sh164_get H ?_; clear H; intro _ _ he H; cbv)
    | (obtain ⟨R, hR, H2⟩ := bindR_go H; refine call_in hJ [0, 1, 2, 3] (by decide) rfl rfl rfl (f145_call _ ho _ _ _ _ _ _ _ _ _ _ _ _ _ hR _ _ ?_); clear H hR; rcases R with ⟨_⟩; all_goals (replace H := H2; clear H2; (try dsimp only at H); cbv))
    | (refine f120_l0_go hJ (o := J.o) rfl H (by decide) ⟨?_, ?_, rfl, rfl⟩ ?_
       · cbv; (repeat' (first | exact trivial | exact rfl | apply And.intro))
       · cbv; (repeat' (first | exact trivial | exact rfl | apply And.intro))
       clear H
       intro X0 HX0 n _ _ H Nx0 hN0
       rw [f120_l0] at H
       cbv))
end Go.Proofs.Ytjdbmfipciadfaa.A
namespace Go.Proofs.Ytjdbmfipciadfaa.A
open Go Go.Pt
set_option maxHeartbeats 4000000
set_option maxRecDepth 100000
inductive F111R where
  | v0 (y0 y1 y2 y3 : Int) (y4 : List AV)
def F111R.av : F111R → AV
  | .v0 y0 _ _ _ _ => .int .i64 y0
def F111R.hp (a3 : List AV) (a4 a5 a6 a10 : Int) (a11 : Bool) (a12 : List AV) : F111R → List Ent
  | .v0 _ y1 y2 y3 y4 => [.fam 0 a3, .var [.vs 2 2 a4 a5 a6, .vs 4 3 y1 y2 y3, .int .i64 a10, .bool a11], .vec 2 a12, .dead, .vec 3 y4]
noncomputable def f111 (o : Ops) (fuel : Nat) (a0 : ByteArray) (a1 : Int) (a2 a3 : List AV) (a4 a5 a6 a7 a8 a9 a10 : Int) (a11 : Bool) (a12 a13 : List AV) : Option F111R :=
  bindR (f144 o fuel a0 a3 a4 a5 a6 a7 a8 a9 a10 a11 a12 a13) fun r => match r with
  | .v0 r14 => ifB (o.bnot (o.cmp .eql r14 0))
    (some (.v0 r14 a7 a8 a9 a13))
    (bindR (f145 o fuel a0 a3 a4 a5 a6 a7 a8 a9 a10 a11 a12 a13) fun r => match r with
     | .v0 r15 => ifB (o.pick (o.cmp .lss a1 0) true (o.cmp .gtr a1 (o.len r15)))
       (some (.v0 33 a7 a8 a9 a13))
       (ifB (o.cmp .gtr (o.ar .sub .i64 (o.len a2) (o.ar .sub .i64 (o.len r15) a1)) 0)
        (bindR (f120 o fuel a3 a4 a5 a6 a7 a8 a9 a10 a11 a12 a13) fun r => match r with
         | .v0 r16 => ifB (o.cmp .gtr (o.ar .sub .i64 (o.len a2) (o.ar .sub .i64 (o.len r15) a1)) r16)
           (some (.v0 30 a7 a8 a9 a13))
           (ifB (o.cmp .gtr (o.len a2) 0)
            (req (o.room [] a2 1) <|
             req (o.is a7 0) <|
             req (o.le 0 a8) <|
             req (o.le a8 (o.len a13)) <|
             req (o.room (o.sub a13 0 a8) [.agg [.str a0, .int .i64 a1, .sl 1 (o.apnd [] a2) .no]] 48) <|
             some (.v0 0 0 (o.len (o.apnd (o.sub a13 0 a8) [.agg [.str a0, .int .i64 a1, .sl 1 (o.apnd [] a2) .no]])) (o.len (o.apnd (o.sub a13 0 a8) [.agg [.str a0, .int .i64 a1, .sl 1 (o.apnd [] a2) .no]])) (o.apnd (o.sub a13 0 a8) [.agg [.str a0, .int .i64 a1, .sl 1 (o.apnd [] a2) .no]])))
            (some (.v0 0 a7 a8 a9 a13))))
        (ifB (o.cmp .gtr (o.len a2) 0)
         (req (o.room [] a2 1) <|
          req (o.is a7 0) <|
          req (o.le 0 a8) <|
          req (o.le a8 (o.len a13)) <|
          req (o.room (o.sub a13 0 a8) [.agg [.str a0, .int .i64 a1, .sl 1 (o.apnd [] a2) .no]] 48) <|
          some (.v0 0 0 (o.len (o.apnd (o.sub a13 0 a8) [.agg [.str a0, .int .i64 a1, .sl 1 (o.apnd [] a2) .no]])) (o.len (o.apnd (o.sub a13 0 a8) [.agg [.str a0, .int .i64 a1, .sl 1 (o.apnd [] a2) .no]])) (o.apnd (o.sub a13 0 a8) [.agg [.str a0, .int .i64 a1, .sl 1 (o.apnd [] a2) .no]])))
         (some (.v0 0 a7 a8 a9 a13)))))
theorem f111_call (o : Ops) (ho : o = stdOps) (fuel : Nat) (a0 : ByteArray) (a1 : Int) (a2 a3 : List AV) (a4 a5 a6 a7 a8 a9 a10 : Int) (a11 : Bool) (a12 a13 : List AV) {R : F111R} (H : f111 o fuel a0 a1 a2 a3 a4 a5 a6 a7 a8 a9 a10 a11 a12 a13 = some R) (K : AV → List Ent → Prop) (E : AV → List Ent → Prop) (h : K R.av (F111R.hp a3 a4 a5 a6 a10 a11 a12 R)) : CallA Try.prog 111 [.ptr 1 0, .str a0, .int .i64 a1, .sl 1 a2 .no] [.fam 0 a3, .var [.vs 2 2 a4 a5 a6, .vs 3 3 a7 a8 a9, .int .i64 a10, .bool a11], .vec 2 a12, .vec 3 a13] K E := by
  refine call_wk fun K' hK => ?_
  refine call_keep (n₀ := 4) tab_ok Try.func111 rfl rfl rfl rfl ?_
  intro J hJ
  obtain rfl : o = J.o := by rw [ho, hJ]; rfl
  unfold f111 at H
  cbv
  repeat' (first
    | ((with_reducible first | refine awp_go2 ?_ | refine aops_go2 ?_ | refine strip_go2 ?_); cbv)
    | with_reducible exact id
    | (refine KeepQ.tn _ (by first | exact .inl rfl | exact .inr rfl) (Turn.at 4 (turn_mv 1 1 3 3 rfl rfl rfl rfl (leN_t rfl)) rfl) [4] (by decide) ?_; cbv; cases H; refine hK _ _ _ _ ?_ ?_ rfl h <;> cbv)
    | (refine KeepQ.mk [5] (by decide) ?_; cbv; cases H; refine hK _ _ _ _ ?_ ?_ rfl h <;> cbv)
    | (refine ifB_go H ?_ ?_ <;> clear H <;> intro hh H)
    | (refine req_go H ?_; clear H; intro hh H)
    | (obtain ⟨R, hR, H2⟩ := bindR_go H; refine call_in hJ [0, 1, 2, 3] (by decide) rfl rfl rfl (f120_call _ ho _ _ _ _ _ _ _ _ _ _ _ _ hR _ _ ?_); clear H hR; rcases R with ⟨_⟩; all_goals (replace H := H2; clear H2; (try dsimp only at H); cbv))
    | (obtain ⟨R, hR, H2⟩ := bindR_go H; refine call_in hJ [0, 1, 2, 3] (by decide) rfl rfl rfl (f145_call _ ho _ _ _ _ _ _ _ _ _ _ _ _ _ hR _ _ ?_); clear H hR; rcases R with ⟨_⟩; all_goals (replace H := H2; clear H2; (try dsimp only at H); cbv))
    | (obtain ⟨R, hR, H2⟩ := bindR_go H; refine call_in hJ [0, 1, 2, 3] (by decide) rfl rfl rfl (f144_call _ ho _ _ _ _ _ _ _ _ _ _ _ _ _ hR _ _ ?_); clear H hR; rcases R with ⟨_⟩; all_goals (replace H := H2; clear H2; (try dsimp only at H); cbv))
    | with_reducible refine And.intro ?_ ?_
    | (intro _; assumption))
inductive F64R where
  | v0 (y0 : Int) (y1 : List AV) (y2 y3 y4 : Int) (y5 : List AV)
def F64R.av : F64R → AV
  | .v0 y0 _ _ _ _ _ => .int .i64 y0
def F64R.hp (a3 : Int) (a7 : Bool) (a8 : List (AV × AV)) : F64R → List Ent
  | .v0 _ y1 y2 y3 y4 y5 => [.fam 0 y1, .var [.int .i64 a3, .mp 2, .vs 3 3 y2 y3 y4, .bool a7], .mp a8, .vec 3 y5]
noncomputable def f64 (o : Ops) (fuel : Nat) (a0 : ByteArray) (a1 : Int) (a2 : List AV) (a3 a4 a5 a6 : Int) (a7 : Bool) (a8 : List (AV × AV)) (a9 : List AV) : Option F64R :=
  bindR (f92 o fuel a0 a2 a3 a4 a5 a6 a7 a8 a9) fun r => match r with
  | .v0 r10 => ifB (o.bnot (o.cmp .eql r10 0))
    (some (.v0 r10 a2 a4 a5 a6 a9))
    (none)
  | .v1 r11 => ifB (o.bnot (o.cmp .eql 0 0))
    (some (.v0 0 a2 a4 a5 a6 a9))
    (bindR (f93_1 o fuel r11 a2 a3 a4 a5 a6 a7 a8 a9) fun r => match r with
     | .v0 r12 => ifB (o.pick (o.cmp .lss a1 0) true (o.cmp .gtr a1 (o.len r12)))
       (some (.v0 33 a2 a4 a5 a6 a9))
       (req (o.le 0 a1) <|
        req (o.le a1 a1) <|
        req (o.le a1 (o.len r12)) <|
        req (o.inb r11 (o.len a2)) <|
        getA (o.get a2 r11) fun e => sh147 e fun _ =>
        bindR (f94 o fuel r11 (o.upd a2 r11 (.agg [.sl 1 (o.sub r12 0 a1) .no])) a3 a4 a5 a6 a7 a8 a9) fun r => match r with
        | .v0 r14 r15 r16 r17 => some (.v0 0 (o.upd a2 r11 (.agg [.sl 1 (o.sub r12 0 a1) .no])) r14 r15 r16 r17)))
theorem f64_call (o : Ops) (ho : o = stdOps) (fuel : Nat) (a0 : ByteArray) (a1 : Int) (a2 : List AV) (a3 a4 a5 a6 : Int) (a7 : Bool) (a8 : List (AV × AV)) (a9 : List AV) {R : F64R} (H : f64 o fuel a0 a1 a2 a3 a4 a5 a6 a7 a8 a9 = some R) (K : AV → List Ent → Prop) (E : AV → List Ent → Prop) (h : K R.av (F64R.hp a3 a7 a8 R)) : CallA Try.prog 64 [.ptr 1 0, .str a0, .int .i64 a1] [.fam 0 a2, .var [.int .i64 a3, .mp 2, .vs 3 3 a4 a5 a6, .bool a7], .mp a8, .vec 3 a9] K E := by
  refine call_wk fun K' hK => ?_
  refine call_keep (n₀ := 4) tab_ok Try.func64 rfl rfl rfl rfl ?_
  intro J hJ
  obtain rfl : o = J.o := by rw [ho, hJ]; rfl
  unfold f64 at H
  cbv
  repeat' (first
    | ((with_reducible refine awp_go2 ?_); cbv)
    | with_reducible exact id
    | exact none_go H
    | (refine KeepQ.mk [] (by decide) ?_; cbv; cases H; refine hK _ _ _ _ ?_ ?_ rfl h <;> cbv)
    | (refine ifB_go H ?_ ?_ <;> clear H <;> intro hh H)
    | (refine req_go H ?_; clear H; intro hh H)
    | (refine tok_go ?_; cbv)
    | (refine sh147_get H ?_; clear H; intro _ he H; cbv)
    | (obtain ⟨R, hR, H2⟩ := bindR_go H; refine call_in hJ [0, 1, 2, 3] (by decide) rfl rfl rfl (f94_call _ ho _ _ _ _ _ _ _ _ _ _ hR _ _ ?_); clear H hR; rcases R with ⟨_, _, _, _⟩; all_goals (replace H := H2; clear H2; (try dsimp only at H); cbv))
    | (obtain ⟨R, hR, H2⟩ := bindR_go H; refine call_in hJ [0, 1, 2, 3] (by decide) rfl rfl rfl (f93_1_call _ ho _ _ _ _ _ _ _ _ _ _ hR _ _ ?_); clear H hR; rcases R with ⟨_⟩; all_goals (replace H := H2; clear H2; (try dsimp only at H); cbv))
    | (obtain ⟨R, hR, H2⟩ := bindR_go H; refine call_in hJ [0, 1, 2, 3] (by decide) rfl rfl rfl (f92_call _ ho _ _ _ _ _ _ _ _ _ _ hR _ _ ?_); clear H hR; rcases R with ⟨_⟩ | ⟨_⟩; all_goals (replace H := H2; clear H2; (try dsimp only at H); cbv))
    | with_reducible refine And.intro ?_ ?_)
end Go.Proofs.Ytjdbmfipciadfaa.A
namespace Go.Proofs.Ytjdbmfipciadfaa.A
open Go Go.Pt
set_option maxHeartbeats 4000000
set_option maxRecDepth 100000
inductive F146R where
  | v0 (y0 y1 y2 : Int) (y3 : List AV)
def F146R.av : F146R → AV
  | .v0 y0 y1 y2 _ => .vs 4 3 y0 y1 y2
def F146R.hp (a1 : List AV) (a2 a3 a4 a5 a6 a7 a8 : Int) (a9 : Bool) (a10 a11 : List AV) : F146R → List Ent
  | .v0 _ _ _ y3 => [.fam 0 a1, .var [.vs 2 2 a2 a3 a4, .vs 3 3 a5 a6 a7, .int .i64 a8, .bool a9], .vec 2 a10, .vec 3 a11, .vec 3 y3]
inductive F146L0 where
  | x0 (y0 y1 : Int) (y2 : List AV)
noncomputable def f146_l0 (o : Ops) (fuel : Nat) (a6 a5 : Int) (a11 : List AV) (a0 : ByteArray) (a1 : List AV) (a2 a3 a4 a7 a8 : Int) (a9 : Bool) (a10 : List AV) : Nat → Int → Int → Int → List AV → Option F146L0
  | 0, _, _, _, _ => none
  | n + 1, w30, w31, w32, w33 =>
    ifB (o.cmp .lss w32 a6)
    (req (o.inb w32 a6) <|
     req (o.inb (o.sum a5 w32) (o.len a11)) <|
     getA (o.get a11 (o.sum a5 w32)) fun e => sh158 e fun v34 _ _ =>
     ifB (o.bnot (o.seq v34 a0))
     (req (o.inb w32 a6) <|
      req (o.inb (o.sum a5 w32) (o.len a11)) <|
      getA (o.get a11 (o.sum a5 w32)) fun e => sh158 e fun v37 v38 v39 =>
      req (o.is 0 0) <|
      req (o.le 0 w30) <|
      req (o.le w30 (o.len w33)) <|
      req (o.room (o.sub w33 0 w30) [.agg [.str v37, .int .i64 v38, .sl 1 v39 .no]] 48) <|
      f146_l0 o fuel a6 a5 a11 a0 a1 a2 a3 a4 a7 a8 a9 a10 n (o.len (o.apnd (o.sub w33 0 w30) [.agg [.str v37, .int .i64 v38, .sl 1 v39 .no]])) (o.len (o.apnd (o.sub w33 0 w30) [.agg [.str v37, .int .i64 v38, .sl 1 v39 .no]])) (o.ar .add .i64 w32 1) (o.apnd (o.sub w33 0 w30) [.agg [.str v37, .int .i64 v38, .sl 1 v39 .no]]))
     (f146_l0 o fuel a6 a5 a11 a0 a1 a2 a3 a4 a7 a8 a9 a10 n w30 w31 (o.ar .add .i64 w32 1) w33))
    (some (.x0 w30 w31 w33))
theorem f146_l0_go {J : Jd} {n₀ : Nat} (hJ : J = std Try.prog n₀) {o : Ops} (hJo : J.o = o) {fuel : Nat} {a6 a5 : Int} {a11 : List AV} {a0 : ByteArray} {a1 : List AV} {a2 a3 a4 a7 a8 : Int} {a9 : Bool} {a10 : List AV} {w30i : Int} {w31i : Int} {w32i : Int} {w33i : List AV} {α : Type} {k : F146L0 → Option α} {r : α} {c : Code} {Q : Ex → St → Prop} {s : St}
    (H : bindR (f146_l0 o fuel a6 a5 a11 a0 a1 a2 a3 a4 a7 a8 a9 a10 fuel w30i w31i w32i w33i) k = some r) (hn : n₀ ≤ 5) (hle : Turn n₀ s ⟨[(6, .int .i64 w32i), (5, .vs 4 3 0 w30i w31i), (1, .str a0), (0, .ptr 1 0)], [.fam 0 a1, .var [.vs 2 2 a2 a3 a4, .vs 3 3 a5 a6 a7, .int .i64 a8, .bool a9], .vec 2 a10, .vec 3 a11, .vec 3 w33i], 37⟩)
    (round : ∀ X, k X = some r → ∀ (n : Nat) (w30 : Int) (w31 : Int) (w32 : Int) (w33 : List AV), f146_l0 o fuel a6 a5 a11 a0 a1 a2 a3 a4 a7 a8 a9 a10 (n + 1) w30 w31 w32 w33 = some X → ∀ N : St → Prop,
      (∀ (s' : St) (w30' : Int) (w31' : Int) (w32' : Int) (w33' : List AV), f146_l0 o fuel a6 a5 a11 a0 a1 a2 a3 a4 a7 a8 a9 a10 n w30' w31' w32' w33' = some X → Turn n₀ s' ⟨[(6, .int .i64 w32'), (5, .vs 4 3 0 w30' w31'), (1, .str a0), (0, .ptr 1 0)], [.fam 0 a1, .var [.vs 2 2 a2 a3 a4, .vs 3 3 a5 a6 a7, .int .i64 a8, .bool a9], .vec 2 a10, .vec 3 a11, .vec 3 w33'], 37⟩ → N s') → awp J tab c (thenQ N Q) ⟨[(6, .int .i64 w32), (5, .vs 4 3 0 w30 w31), (1, .str a0), (0, .ptr 1 0)], [.fam 0 a1, .var [.vs 2 2 a2 a3 a4, .vs 3 3 a5 a6 a7, .int .i64 a8, .bool a9], .vec 2 a10, .vec 3 a11, .vec 3 w33], 37⟩) : J.code (.loop c) Q s := by
  subst hJo
  obtain ⟨X, hX, HX⟩ := bindR_go H
  refine loop_turn_at (β := Nat × Int × Int × Int × List AV) hJ tab_ok (fun | (_, w30, w31, w32, w33) => ⟨[(6, .int .i64 w32), (5, .vs 4 3 0 w30 w31), (1, .str a0), (0, .ptr 1 0)], [.fam 0 a1, .var [.vs 2 2 a2 a3 a4, .vs 3 3 a5 a6 a7, .int .i64 a8, .bool a9], .vec 2 a10, .vec 3 a11, .vec 3 w33], 37⟩) (fun | (n, w30, w31, w32, w33) => f146_l0 J.o fuel a6 a5 a11 a0 a1 a2 a3 a4 a7 a8 a9 a10 n w30 w31 w32 w33 = some X) (fun | (n, _, _, _, _) => n) (fuel, w30i, w31i, w32i, w33i) hX hle (by rintro ⟨_, _, _, _, _⟩; exact hn) ?_
  rintro ⟨n, w30, w31, w32, w33⟩ hb N hN
  rcases n with _ | n
  · exact none_go (show (none : Option F146L0) = some X from hb)
  exact round X HX n w30 w31 w32 w33 hb N fun s' w30' w31' w32' w33' h1 h2 => hN s' (n, w30', w31', w32', w33') h1 (Nat.lt_succ_self n) h2
noncomputable def f146 (o : Ops) (fuel : Nat) (a0 : ByteArray) (a1 : List AV) (a2 a3 a4 a5 a6 a7 a8 : Int) (a9 : Bool) (a10 a11 : List AV) : Option F146R :=
  bindR (f146_l0 o fuel a6 a5 a11 a0 a1 a2 a3 a4 a7 a8 a9 a10 fuel 0 0 0 []) fun r => match r with
  | .x0 y40 y41 y42 => some (.v0 0 y40 y41 y42)
theorem f146_call (o : Ops) (ho : o = stdOps) (fuel : Nat) (a0 : ByteArray) (a1 : List AV) (a2 a3 a4 a5 a6 a7 a8 : Int) (a9 : Bool) (a10 a11 : List AV) {R : F146R} (H : f146 o fuel a0 a1 a2 a3 a4 a5 a6 a7 a8 a9 a10 a11 = some R) (K : AV → List Ent → Prop) (E : AV → List Ent → Prop) (h : K R.av (F146R.hp a1 a2 a3 a4 a5 a6 a7 a8 a9 a10 a11 R)) : CallA Try.prog 146 [.ptr 1 0, .str a0] [.fam 0 a1, .var [.vs 2 2 a2 a3 a4, .vs 3 3 a5 a6 a7, .int .i64 a8, .bool a9], .vec 2 a10, .vec 3 a11] K E := by
  refine call_wk fun K' hK => ?_
  refine call_keep (n₀ := 4) tab_ok Try.func146 rfl rfl rfl rfl ?_
  intro J hJ
  obtain rfl : o = J.o := by rw [ho, hJ]; rfl
  unfold f146 at H
  cbv
  repeat' (first
    | ((with_reducible refine awp_go2 ?_); cbv)
    | (cases H; replace H := HX0; clear HX0; (try dsimp only at H))
    | (refine KeepQ.mk [4] (by decide) ?_; cbv; cases H; refine hK _ _ _ _ ?_ ?_ rfl h <;> cbv)
    | (refine hN0 _ _ _ _ _ H (Turn.trans (Turn.pack [4] (by decide) (leN_t rfl)) (Turn.le ⟨?_, ?_, rfl, rfl⟩ (leN_t rfl))) <;> (cbv; (repeat' (first | exact trivial | exact rfl | apply And.intro)); done))
    | (refine hN0 _ _ _ _ _ H (Turn.trans (Turn.pack [5] (by decide) (leN_t rfl)) (Turn.le ⟨?_, ?_, rfl, rfl⟩ (leN_t rfl))) <;> (cbv; (repeat' (first | exact trivial | exact rfl | apply And.intro)); done))
    | (refine ifB_go H ?_ ?_ <;> clear H <;> intro hh H)
    | (refine req_go H ?_; clear H; intro hh H)
    | (refine sh158_get H ?_; clear H; intro _ _ _ he H; cbv)
    | (refine f146_l0_go hJ (o := J.o) rfl H (by decide) (Turn.trans (turn_nilr 5 3 rfl (leN_t rfl)) (Turn.trans (Turn.pack [4] (by decide) (leN_t rfl)) (Turn.le ⟨?_, ?_, rfl, rfl⟩ (leN_t rfl)))) ?_
       · cbv; (repeat' (first | exact trivial | exact rfl | apply And.intro))
       · cbv; (repeat' (first | exact trivial | exact rfl | apply And.intro))
       clear H
       intro X0 HX0 n _ _ _ _ H Nx0 hN0
       rw [f146_l0] at H
       cbv))
inductive F113R where
  | v0 (y0 y1 y2 y3 : Int) (y4 y5 : List AV)
def F113R.av : F113R → AV
  | .v0 y0 _ _ _ _ _ => .int .i64 y0
def F113R.hp (a1 : List AV) (a2 a3 a4 a8 : Int) (a9 : Bool) : F113R → List Ent
  | .v0 _ y1 y2 y3 y4 y5 => [.fam 0 a1, .var [.vs 2 2 a2 a3 a4, .vs 4 3 y1 y2 y3, .int .i64 a8, .bool a9], .vec 2 y4, .dead, .vec 3 y5]
noncomputable def f113 (o : Ops) (fuel : Nat) (a0 : ByteArray) (a1 : List AV) (a2 a3 a4 a5 a6 a7 a8 : Int) (a9 : Bool) (a10 a11 : List AV) : Option F113R :=
  bindR (f144 o fuel a0 a1 a2 a3 a4 a5 a6 a7 a8 a9 a10 a11) fun r => match r with
  | .v0 r12 => ifB (o.bnot (o.cmp .eql r12 0))
    (some (.v0 r12 a5 a6 a7 a10 a11))
    (bindR (f142 o fuel a0 a1 a2 a3 a4 a5 a6 a7 a8 a9 a10 a11) fun r => match r with
     | .v0 r13 => bindR (f145 o fuel a0 a1 a2 a3 a4 a5 a6 a7 a8 a9 a10 a11) fun r => match r with
       | .v0 r14 => req (o.inb r13 a3) <|
         req (o.inb (o.sum a2 r13) (o.len a10)) <|
         getA (o.get a10 (o.sum a2 r13)) fun e => sh164 e fun v15 _ =>
         bindR (f146 o fuel a0 a1 a2 a3 a4 a5 a6 a7 a8 a9 (o.upd a10 (o.sum a2 r13) (.agg [.str v15, .sl 1 r14 .no])) a11) fun r => match r with
         | .v0 r17 r18 r19 r20 => some (.v0 0 r17 r18 r19 (o.upd a10 (o.sum a2 r13) (.agg [.str v15, .sl 1 r14 .no])) r20))
theorem f113_call (o : Ops) (ho : o = stdOps) (fuel : Nat) (a0 : ByteArray) (a1 : List AV) (a2 a3 a4 a5 a6 a7 a8 : Int) (a9 : Bool) (a10 a11 : List AV) {R : F113R} (H : f113 o fuel a0 a1 a2 a3 a4 a5 a6 a7 a8 a9 a10 a11 = some R) (K : AV → List Ent → Prop) (E : AV → List Ent → Prop) (h : K R.av (F113R.hp a1 a2 a3 a4 a8 a9 R)) : CallA Try.prog 113 [.ptr 1 0, .str a0] [.fam 0 a1, .var [.vs 2 2 a2 a3 a4, .vs 3 3 a5 a6 a7, .int .i64 a8, .bool a9], .vec 2 a10, .vec 3 a11] K E := by
  refine call_wk fun K' hK => ?_
  refine call_keep (n₀ := 4) tab_ok Try.func113 rfl rfl rfl rfl ?_
  intro J hJ
  obtain rfl : o = J.o := by rw [ho, hJ]; rfl
  unfold f113 at H
  cbv
  repeat' (first
    | ((with_reducible refine awp_go2 ?_); cbv)
    | (refine KeepQ.tn _ (by first | exact .inl rfl | exact .inr rfl) (Turn.at 4 (turn_mv 1 1 3 3 rfl rfl rfl rfl (leN_t rfl)) rfl) [4] (by decide) ?_; cbv; cases H; refine hK _ _ _ _ ?_ ?_ rfl h <;> cbv)
    | (refine KeepQ.tn _ (by first | exact .inl rfl | exact .inr rfl) (Turn.at 5 (turn_mvg 3 3 rfl (leN_t rfl)) rfl) [4] (by decide) ?_; cbv; cases H; refine hK _ _ _ _ ?_ ?_ rfl h <;> cbv)
    | (refine ifB_go H ?_ ?_ <;> clear H <;> intro hh H)
    | (refine req_go H ?_; clear H; intro hh H)
    | (refine sh164_get H ?_; clear H; intro _ _ he H; cbv)
    | (obtain ⟨R, hR, H2⟩ := bindR_go H; refine call_in hJ [0, 1, 2, 3] (by decide) rfl rfl rfl (f146_call _ ho _ _ _ _ _ _ _ _ _ _ _ _ _ hR _ _ ?_); clear H hR; rcases R with ⟨_, _, _, _⟩; all_goals (replace H := H2; clear H2; (try dsimp only at H); cbv))
    | (obtain ⟨R, hR, H2⟩ := bindR_go H; refine call_in hJ [0, 1, 2, 3] (by decide) rfl rfl rfl (f145_call _ ho _ _ _ _ _ _ _ _ _ _ _ _ _ hR _ _ ?_); clear H hR; rcases R with ⟨_⟩; all_goals (replace H := H2; clear H2; (try dsimp only at H); cbv))
    | (obtain ⟨R, hR, H2⟩ := bindR_go H; refine call_in hJ [0, 1, 2, 3] (by decide) rfl rfl rfl (f142_call _ ho _ _ _ _ _ _ _ _ _ _ _ _ _ hR _ _ ?_); clear H hR; rcases R with ⟨_⟩; all_goals (replace H := H2; clear H2; (try dsimp only at H); cbv))
    | (obtain ⟨R, hR, H2⟩ := bindR_go H; refine call_in hJ [0, 1, 2, 3] (by decide) rfl rfl rfl (f144_call _ ho _ _ _ _ _ _ _ _ _ _ _ _ _ hR _ _ ?_); clear H hR; rcases R with ⟨_⟩; all_goals (replace H := H2; clear H2; (try dsimp only at H); cbv)))
end Go.Proofs.Ytjdbmfipciadfaa.A
