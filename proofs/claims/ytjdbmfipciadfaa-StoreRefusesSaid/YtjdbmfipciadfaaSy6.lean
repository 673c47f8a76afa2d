/- Functions of the program and of the document's answer, as plain ones. Written by lift.py. -/import Derived.Test.YtjdbmfipciadfaaSy0
import Derived.Test.YtjdbmfipciadfaaSy1
import Derived.Test.YtjdbmfipciadfaaSy5
namespace Go.Proofs.Ytjdbmfipciadfaa.A
open Go Go.Pt
set_option maxHeartbeats 4000000
set_option maxRecDepth 100000
inductive F36R where
  | v0 (y0 : Int) (y1 : List AV) (y2 y3 y4 : Int) (y5 : Bool) (y6 : List AV)
def F36R.av : F36R → AV
  | .v0 y0 _ _ _ _ _ _ => .int .i64 y0
def F36R.hp (a3 : Int) (a8 : List (AV × AV)) : F36R → List Ent
  | .v0 _ y1 y2 y3 y4 y5 y6 => [.fam 0 y1, .var [.int .i64 a3, .mp 2, .vs 4 3 y2 y3 y4, .bool y5], .mp a8, .dead, .vec 3 y6]
inductive F36L0 where
  | x0 (y0 : List AV)
  | x1 (y0 : List AV)
noncomputable def f36_l0 (o : Ops) (fuel : Nat) (a5 a4 : Int) (a9 : List AV) (r11 a1 a6 a3 : Int) (a7 : Bool) (a8 : List (AV × AV)) : Nat → Int → List AV → Option F36L0
  | 0, _, _ => none
  | n + 1, w22, w23 =>
    ifB (o.cmp .lss w22 a5)
    (req (o.inb w22 a5) <|
     req (o.inb (o.sum a4 w22) (o.len a9)) <|
     getA (o.get a9 (o.sum a4 w22)) fun e => sh150 e fun v24 v25 v26 =>
     ifB (o.cmp .lss w22 (o.ar .rem .i64 r11 (o.ar .add .i64 a5 1)))
     (req (o.inb v24 (o.len w23)) <|
      getA (o.get w23 v24) fun e => sh147 e fun v27 =>
      bindR (f99 o fuel v27 v25 v26 w23) fun r => match r with
      | .v0 r28 => req (o.inb v24 (o.len w23)) <|
        getA (o.get w23 v24) fun e => sh147 e fun _ =>
        f36_l0 o fuel a5 a4 a9 r11 a1 a6 a3 a7 a8 n (o.ar .add .i64 w22 1) (o.upd w23 v24 (.agg [.sl 1 r28 .no])))
     (ifB (o.cmp .eql w22 (o.ar .rem .i64 r11 (o.ar .add .i64 a5 1)))
      (req (o.inb v24 (o.len w23)) <|
       getA (o.get w23 v24) fun e => sh147 e fun v30 =>
       bindR (f98 o fuel a1 w23) fun r => match r with
       | .v0 r31 => req (o.nz (o.ar .add .i64 (o.len v26) 1)) <|
         req (o.le 0 (o.ar .rem .i64 r31 (o.ar .add .i64 (o.len v26) 1))) <|
         req (o.le (o.ar .rem .i64 r31 (o.ar .add .i64 (o.len v26) 1)) (o.len v26)) <|
         bindR (f99 o fuel v30 v25 (o.sub v26 0 (o.ar .rem .i64 r31 (o.ar .add .i64 (o.len v26) 1))) w23) fun r => match r with
         | .v0 r32 => req (o.inb v24 (o.len w23)) <|
           getA (o.get w23 v24) fun e => sh147 e fun _ =>
           some (.x0 (o.upd w23 v24 (.agg [.sl 1 r32 .no]))))
      (some (.x0 w23))))
    (some (.x1 w23))
theorem f36_l0_go {J : Jd} {n₀ : Nat} (hJ : J = std Try.prog n₀) {o : Ops} (hJo : J.o = o) {fuel : Nat} {a5 a4 : Int} {a9 : List AV} {r11 a1 a6 a3 : Int} {a7 : Bool} {a8 : List (AV × AV)} {w22i : Int} {w23i : List AV} {α : Type} {k : F36L0 → Option α} {r : α} {c : Code} {Q : Ex → St → Prop} {s : St}
    (H : bindR (f36_l0 o fuel a5 a4 a9 r11 a1 a6 a3 a7 a8 fuel w22i w23i) k = some r) (hn : n₀ ≤ 4) (hle : Le s ⟨[(30, .int .i64 w22i), (29, .int .i64 a5), (28, .vs 3 3 a4 a5 a6), (8, .int .i64 (o.ar .rem .i64 r11 (o.ar .add .i64 a5 1))), (2, .int .i64 a1), (0, .ptr 1 0)], [.fam 0 w23i, .var [.int .i64 a3, .mp 2, .vs 3 3 a4 a5 a6, .bool a7], .mp a8, .vec 3 a9], 84⟩)
    (round : ∀ X, k X = some r → ∀ (n : Nat) (w22 : Int) (w23 : List AV), f36_l0 o fuel a5 a4 a9 r11 a1 a6 a3 a7 a8 (n + 1) w22 w23 = some X → ∀ N : St → Prop,
      (∀ (env : List (Nat × AV)) (w22' : Int) (w23' : List AV) (v : List Ent), f36_l0 o fuel a5 a4 a9 r11 a1 a6 a3 a7 a8 n w22' w23' = some X → wkEnv env [(30, .int .i64 w22'), (29, .int .i64 a5), (28, .vs 3 3 a4 a5 a6), (8, .int .i64 (o.ar .rem .i64 r11 (o.ar .add .i64 a5 1))), (2, .int .i64 a1), (0, .ptr 1 0)] → N ⟨env, [.fam 0 w23', .var [.int .i64 a3, .mp 2, .vs 3 3 a4 a5 a6, .bool a7], .mp a8, .vec 3 a9] ++ v, 84⟩) → awp J tab c (thenQ N Q) ⟨[(30, .int .i64 w22), (29, .int .i64 a5), (28, .vs 3 3 a4 a5 a6), (8, .int .i64 (o.ar .rem .i64 r11 (o.ar .add .i64 a5 1))), (2, .int .i64 a1), (0, .ptr 1 0)], [.fam 0 w23, .var [.int .i64 a3, .mp 2, .vs 3 3 a4 a5 a6, .bool a7], .mp a8, .vec 3 a9], 84⟩) : J.code (.loop c) Q s := by
  subst hJo
  obtain ⟨X, hX, HX⟩ := bindR_go H
  refine loop_at (β := Nat × Int × List AV) hJ tab_ok (fun | (_, w22, w23) => ⟨[(30, .int .i64 w22), (29, .int .i64 a5), (28, .vs 3 3 a4 a5 a6), (8, .int .i64 (J.o.ar .rem .i64 r11 (J.o.ar .add .i64 a5 1))), (2, .int .i64 a1), (0, .ptr 1 0)], [.fam 0 w23, .var [.int .i64 a3, .mp 2, .vs 3 3 a4 a5 a6, .bool a7], .mp a8, .vec 3 a9], 84⟩) (fun | (n, w22, w23) => f36_l0 J.o fuel a5 a4 a9 r11 a1 a6 a3 a7 a8 n w22 w23 = some X) (fun | (n, _, _) => n) (fuel, w22i, w23i) hX hle (by rintro ⟨_, _, _⟩; exact hn) ?_
  rintro ⟨n, w22, w23⟩ hb N hN
  rcases n with _ | n
  · exact none_go (show (none : Option F36L0) = some X from hb)
  exact round X HX n w22 w23 hb N fun env w22' w23' v h1 h2 => hN _ (n, w22', w23') h1 (Nat.lt_succ_self n) ⟨h2, by first | (cbv; done) | (cbv; repeat' (first | exact trivial | exact rfl | apply And.intro)), rfl, rfl⟩
noncomputable def f36 (o : Ops) (fuel : Nat) (a0 a1 : Int) (a2 : List AV) (a3 a4 a5 a6 : Int) (a7 : Bool) (a8 : List (AV × AV)) (a9 : List AV) : Option F36R :=
  bindR (f97 o fuel a2 a3 a4 a5 a6 a7 a8 a9) fun r => match r with
  | .v0 r10 => ifB (o.bnot (o.cmp .eql r10 0))
    (some (.v0 r10 a2 a4 a5 a6 a7 a9))
    (bindR (f98 o fuel a0 a2) fun r => match r with
     | .v0 r11 => req (o.nz (o.ar .add .i64 a5 1)) <|
       bindR (f36_l0 o fuel a5 a4 a9 r11 a1 a6 a3 a7 a8 fuel 0 a2) fun r => match r with
       | .x0 y34 => some (.v0 0 y34 0 0 0 true [])
       | .x1 y35 => some (.v0 0 y35 0 0 0 true []))
theorem f36_call (o : Ops) (ho : o = stdOps) (fuel : Nat) (a0 a1 : Int) (a2 : List AV) (a3 a4 a5 a6 : Int) (a7 : Bool) (a8 : List (AV × AV)) (a9 : List AV) {R : F36R} (H : f36 o fuel a0 a1 a2 a3 a4 a5 a6 a7 a8 a9 = some R) (K : AV → List Ent → Prop) (E : AV → List Ent → Prop) (h : K R.av (F36R.hp a3 a8 R)) : CallA Try.prog 36 [.ptr 1 0, .int .i64 a0, .int .i64 a1] [.fam 0 a2, .var [.int .i64 a3, .mp 2, .vs 3 3 a4 a5 a6, .bool a7], .mp a8, .vec 3 a9] K E := by
  refine call_wk fun K' hK => ?_
  refine call_keep (n₀ := 4) tab_ok Try.func36 rfl rfl rfl rfl ?_
  intro J hJ
  obtain rfl : o = J.o := by rw [ho, hJ]; rfl
  unfold f36 at H
  cbv
  repeat' (first
    | ((with_reducible refine awp_go2 ?_); cbv)
    | (cases H; replace H := HX0; clear HX0; (try dsimp only at H))
    | (refine KeepQ.tn _ (by first | exact .inl rfl | exact .inr rfl) (Turn.trans (Turn.at 5 (turn_nilrh 1 2 3 rfl rfl (leN_t rfl)) rfl) (Turn.at 6 (turn_mvg 3 3 rfl (leN_t rfl)) rfl)) [5] (by decide) ?_; cbv; cases H; refine hK _ _ _ _ ?_ ?_ rfl h <;> cbv)
    | (refine KeepQ.tn _ (by first | exact .inl rfl | exact .inr rfl) (Turn.trans (Turn.at 4 (turn_nilrh 1 2 3 rfl rfl (leN_t rfl)) rfl) (Turn.at 5 (turn_mvg 3 3 rfl (leN_t rfl)) rfl)) [4] (by decide) ?_; cbv; cases H; refine hK _ _ _ _ ?_ ?_ rfl h <;> cbv)
    | (refine KeepQ.tn _ (by first | exact .inl rfl | exact .inr rfl) (Turn.at 4 (turn_mv 1 2 3 3 rfl rfl rfl rfl (leN_t rfl)) rfl) [4] (by decide) ?_; cbv; cases H; refine hK _ _ _ _ ?_ ?_ rfl h <;> cbv)
    | (refine hN0 _ _ _ _ H ?_; with_reducible refine wkEnv_go2 ?_; cbv)
    | (refine ifB_go H ?_ ?_ <;> clear H <;> intro hh H)
    | (refine req_go H ?_; clear H; intro hh H)
    | (refine sh147_get H ?_; clear H; intro _ he H; cbv)
    | (refine sh150_get H ?_; clear H; intro _ _ _ he H; cbv)
    | (obtain ⟨R, hR, H2⟩ := bindR_go H; refine call_in hJ [0] (by decide) rfl rfl rfl (f99_call _ ho _ _ _ _ _ hR _ _ ?_); clear H hR; rcases R with ⟨_⟩; all_goals (replace H := H2; clear H2; (try dsimp only at H); cbv))
    | (obtain ⟨R, hR, H2⟩ := bindR_go H; refine call_in hJ [0] (by decide) rfl rfl rfl (f98_call _ ho _ _ _ hR _ _ ?_); clear H hR; rcases R with ⟨_⟩; all_goals (replace H := H2; clear H2; (try dsimp only at H); cbv))
    | (obtain ⟨R, hR, H2⟩ := bindR_go H; refine call_in hJ [0, 1, 2, 3] (by decide) rfl rfl rfl (f97_call _ ho _ _ _ _ _ _ _ _ _ hR _ _ ?_); clear H hR; rcases R with ⟨_⟩; all_goals (replace H := H2; clear H2; (try dsimp only at H); cbv))
    | (refine f36_l0_go hJ (o := J.o) rfl H (by decide) ⟨?_, ?_, rfl, rfl⟩ ?_
       · cbv; (repeat' (first | exact trivial | exact rfl | apply And.intro))
       · cbv; (repeat' (first | exact trivial | exact rfl | apply And.intro))
       clear H
       intro X0 HX0 n _ _ H Nx0 hN0
       rw [f36_l0] at H
       cbv))
inductive F67R where
  | v0 (y0 : Bool)
def F67R.av : F67R → AV
  | .v0 y0 => .bool y0
def F67R.hp (a0 : List AV) (a1 a2 a3 a4 : Int) (a5 : Bool) (a6 : List (AV × AV)) (a7 : List AV) : F67R → List Ent
  | .v0 _ => [.fam 0 a0, .var [.int .i64 a1, .mp 2, .vs 3 3 a2 a3 a4, .bool a5], .mp a6, .vec 3 a7]
noncomputable def f67 (o : Ops) (fuel : Nat) (a0 : List AV) (a1 a2 a3 a4 : Int) (a5 : Bool) (a6 : List (AV × AV)) (a7 : List AV) : Option F67R :=
  bindR (f96 o fuel a0 a1 a2 a3 a4 a5 a6 a7) fun r => match r with
  | .v0 r8 => some (.v0 (o.pick (o.bnot r8) (o.bnot a5) false))
theorem f67_call (o : Ops) (ho : o = stdOps) (fuel : Nat) (a0 : List AV) (a1 a2 a3 a4 : Int) (a5 : Bool) (a6 : List (AV × AV)) (a7 : List AV) {R : F67R} (H : f67 o fuel a0 a1 a2 a3 a4 a5 a6 a7 = some R) (K : AV → List Ent → Prop) (E : AV → List Ent → Prop) (h : K R.av (F67R.hp a0 a1 a2 a3 a4 a5 a6 a7 R)) : CallA Try.prog 67 [.ptr 1 0] [.fam 0 a0, .var [.int .i64 a1, .mp 2, .vs 3 3 a2 a3 a4, .bool a5], .mp a6, .vec 3 a7] K E := by
  refine call_wk fun K' hK => ?_
  refine call_keep (n₀ := 4) tab_ok Try.func67 rfl rfl rfl rfl ?_
  intro J hJ
  obtain rfl : o = J.o := by rw [ho, hJ]; rfl
  unfold f67 at H
  cbv
  repeat' (first
    | with_reducible exact id
    | (refine KeepQ.mk [] (by decide) ?_; cbv; cases H; refine hK _ _ _ _ ?_ ?_ rfl h <;> cbv)
    | (obtain ⟨R, hR, H2⟩ := bindR_go H; refine call_in hJ [0, 1, 2, 3] (by decide) rfl rfl rfl (f96_call _ ho _ _ _ _ _ _ _ _ _ hR _ _ ?_); clear H hR; rcases R with ⟨_⟩; all_goals (replace H := H2; clear H2; (try dsimp only at H); cbv))
    | with_reducible refine And.intro ?_ ?_)
inductive F37R where
  | v0 (y0 : Int) (y1 : Bool)
def F37R.av : F37R → AV
  | .v0 y0 _ => .int .i64 y0
def F37R.hp (a0 : List AV) (a1 a2 a3 a4 : Int) (a6 : List (AV × AV)) (a7 : List AV) : F37R → List Ent
  | .v0 _ y1 => [.fam 0 a0, .var [.int .i64 a1, .mp 2, .vs 3 3 a2 a3 a4, .bool y1], .mp a6, .vec 3 a7]
noncomputable def f37 (o : Ops) (fuel : Nat) (a0 : List AV) (a1 a2 a3 a4 : Int) (a5 : Bool) (a6 : List (AV × AV)) (a7 : List AV) : Option F37R :=
  bindR (f96 o fuel a0 a1 a2 a3 a4 a5 a6 a7) fun r => match r with
  | .v0 r8 => ifB r8
    (some (.v0 2 a5))
    (ifB (o.bnot a5)
     (some (.v0 1 a5))
     (some (.v0 0 false)))
theorem f37_call (o : Ops) (ho : o = stdOps) (fuel : Nat) (a0 : List AV) (a1 a2 a3 a4 : Int) (a5 : Bool) (a6 : List (AV × AV)) (a7 : List AV) {R : F37R} (H : f37 o fuel a0 a1 a2 a3 a4 a5 a6 a7 = some R) (K : AV → List Ent → Prop) (E : AV → List Ent → Prop) (h : K R.av (F37R.hp a0 a1 a2 a3 a4 a6 a7 R)) : CallA Try.prog 37 [.ptr 1 0] [.fam 0 a0, .var [.int .i64 a1, .mp 2, .vs 3 3 a2 a3 a4, .bool a5], .mp a6, .vec 3 a7] K E := by
  refine call_wk fun K' hK => ?_
  refine call_keep (n₀ := 4) tab_ok Try.func37 rfl rfl rfl rfl ?_
  intro J hJ
  obtain rfl : o = J.o := by rw [ho, hJ]; rfl
  unfold f37 at H
  cbv
  repeat' (first
    | ((with_reducible refine awp_go2 ?_); cbv)
    | (refine KeepQ.mk [] (by decide) ?_; cbv; cases H; refine hK _ _ _ _ ?_ ?_ rfl h <;> cbv)
    | (refine ifB_go H ?_ ?_ <;> clear H <;> intro hh H)
    | (obtain ⟨R, hR, H2⟩ := bindR_go H; refine call_in hJ [0, 1, 2, 3] (by decide) rfl rfl rfl (f96_call _ ho _ _ _ _ _ _ _ _ _ hR _ _ ?_); clear H hR; rcases R with ⟨_⟩; all_goals (replace H := H2; clear H2; (try dsimp only at H); cbv)))
end Go.Proofs.Ytjdbmfipciadfaa.A
