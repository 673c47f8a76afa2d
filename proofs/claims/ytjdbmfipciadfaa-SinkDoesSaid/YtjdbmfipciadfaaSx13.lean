/- Functions of the program and of the document's answer, as plain ones. Written by lift.py. -/
import Derived.Test.YtjdbmfipciadfaaSx0
import Derived.Test.YtjdbmfipciadfaaSx11
import Derived.Test.YtjdbmfipciadfaaSx12
import Derived.Test.YtjdbmfipciadfaaSx5

namespace Go.Proofs.Ytjdbmfipciadfaa.A
open Go Go.Pt

/-! (*pontoon/pontoonref15.Sink).drop -/
inductive F133R where
  | v0 (y0 : List AV)
def F133R.av : F133R → AV
  | .v0 _ => .tup []
def F133R.hp (a0 : Nat) (a2 : Int) (a3 : Int) (a4 : List AV) (a5 : List AV) (a6 : List AV) : F133R → List Ent
  | .v0 y0 => [.var [.int .i64 a2, .int .i64 a3, .sl 2 a4 .no, .sl 1 a5 .no, .sl 1 a6 .no, .sl 5 y0 .no], .tip a0]
inductive F133L0 where
  | x0 (y0 : List AV) (y1 : Nat)
noncomputable def f133_l0 (o : Ops) (fuel : Nat) (a7 : List AV) (a1 : Int) (a2 : Int) (a3 : Int) (a4 : List AV) (a0 : Nat) (a5 : List AV) (a6 : List AV) : Nat → Nat → List AV → Int → Option F133L0
  | 0, _, _, _ => none
  | n + 1, w28, w29, w30 =>
    ifB (o.cmp .lss w30 (o.len a7))
    (req (o.inb w30 (o.len a7)) <|
     getA (o.get a7 w30) fun e => sh31 e fun _ v32 _ _ _ =>
     ifB (o.bnot (o.cmp .eql v32 a1))
     (req (o.inb w30 (o.len a7)) <|
      getA (o.get a7 w30) fun e => sh31 e fun v36 v37 v38 v39 v40 =>
      req (o.room w29 [.agg [.int .i64 v36, .int .i64 v37, .int .i64 v38, .sl 2 v39 .no, .sl 1 v40 .no]] 72) <|
      f133_l0 o fuel a7 a1 a2 a3 a4 a0 a5 a6 n (o.padd w28 [.agg [.int .i64 v36, .int .i64 v37, .int .i64 v38, .sl 2 v39 .no, .sl 1 v40 .no]]) (o.apnd w29 [.agg [.int .i64 v36, .int .i64 v37, .int .i64 v38, .sl 2 v39 .no, .sl 1 v40 .no]]) (o.ar .add .i64 w30 1))
     (f133_l0 o fuel a7 a1 a2 a3 a4 a0 a5 a6 n w28 w29 (o.ar .add .i64 w30 1)))
    (some (.x0 w29 w28))
theorem f133_l0_go {J : Jd} {n₀ : Nat} (hJ : J = std Try.prog n₀) {o : Ops} (hJo : J.o = o) {fuel : Nat} {a7 : List AV} {a1 : Int} {a2 : Int} {a3 : Int} {a4 : List AV} {a0 : Nat} {a5 : List AV} {a6 : List AV} {w28i : Nat} {w29i : List AV} {w30i : Int} {α : Type} {k : F133L0 → Option α} {r : α} {c : Code} {Q : Ex → St → Prop} {s : St}
    (H : bindR (f133_l0 o fuel a7 a1 a2 a3 a4 a0 a5 a6 fuel w28i w29i w30i) k = some r) (hn : n₀ ≤ 3) (hle : Turn n₀ s ⟨[(5, .int .i64 w30i), (4, .sl 5 w29i (.tip 2 w28i)), (1, .int .i64 a1), (0, .ptr 0 0)], [.var [.int .i64 a2, .int .i64 a3, .sl 2 a4 (.tip 1 a0), .sl 1 a5 .no, .sl 1 a6 .no, .sl 5 a7 .no], .tip a0, .tip w28i], 43⟩)
    (round : ∀ X, k X = some r → ∀ (n : Nat) (w28 : Nat) (w29 : List AV) (w30 : Int), f133_l0 o fuel a7 a1 a2 a3 a4 a0 a5 a6 (n + 1) w28 w29 w30 = some X → ∀ N : St → Prop,
      (∀ (env : List (Nat × AV)) (w28' : Nat) (w29' : List AV) (w30' : Int) (v : List Ent), f133_l0 o fuel a7 a1 a2 a3 a4 a0 a5 a6 n w28' w29' w30' = some X → wkEnv env [(5, .int .i64 w30'), (4, .sl 5 w29' (.tip 2 w28')), (1, .int .i64 a1), (0, .ptr 0 0)] → N ⟨env, [.var [.int .i64 a2, .int .i64 a3, .sl 2 a4 (.tip 1 a0), .sl 1 a5 .no, .sl 1 a6 .no, .sl 5 a7 .no], .tip a0, .tip w28'] ++ v, 43⟩) → awp J tab c (thenQ N Q) ⟨[(5, .int .i64 w30), (4, .sl 5 w29 (.tip 2 w28)), (1, .int .i64 a1), (0, .ptr 0 0)], [.var [.int .i64 a2, .int .i64 a3, .sl 2 a4 (.tip 1 a0), .sl 1 a5 .no, .sl 1 a6 .no, .sl 5 a7 .no], .tip a0, .tip w28], 43⟩) : J.code (.loop c) Q s := by
  subst hJo
  obtain ⟨X, hX, HX⟩ := bindR_go H
  refine loop_turn_at (β := Nat × Nat × List AV × Int) hJ tab_ok (fun | (_, w28, w29, w30) => ⟨[(5, .int .i64 w30), (4, .sl 5 w29 (.tip 2 w28)), (1, .int .i64 a1), (0, .ptr 0 0)], [.var [.int .i64 a2, .int .i64 a3, .sl 2 a4 (.tip 1 a0), .sl 1 a5 .no, .sl 1 a6 .no, .sl 5 a7 .no], .tip a0, .tip w28], 43⟩) (fun | (n, w28, w29, w30) => f133_l0 J.o fuel a7 a1 a2 a3 a4 a0 a5 a6 n w28 w29 w30 = some X) (fun | (n, _, _, _) => n) (fuel, w28i, w29i, w30i) hX hle (by rintro ⟨_, _, _, _⟩; exact hn) ?_
  rintro ⟨n, w28, w29, w30⟩ hb N hN
  rcases n with _ | n
  · exact none_go (show (none : Option F133L0) = some X from hb)
  exact round X HX n w28 w29 w30 hb N fun env w28' w29' w30' v h1 h2 => hN _ (n, w28', w29', w30') h1 (Nat.lt_succ_self n) (Turn.le ⟨h2, by cbv; repeat' (first | exact trivial | exact rfl | apply And.intro), rfl, rfl⟩ (by simp; omega))

noncomputable def f133 (o : Ops) (fuel : Nat) (a0 : Nat) (a1 : Int) (a2 : Int) (a3 : Int) (a4 : List AV) (a5 : List AV) (a6 : List AV) (a7 : List AV) : Option F133R :=
  bindR (f133_l0 o fuel a7 a1 a2 a3 a4 a0 a5 a6 fuel 0 [] 0) fun r => match r with
  | .x0 y41 _ => some (.v0 y41)
set_option maxHeartbeats 4000000 in
set_option maxRecDepth 100000 in
theorem f133_call (o : Ops) (ho : o = stdOps) (fuel : Nat) (a0 : Nat) (a1 : Int) (a2 : Int) (a3 : Int) (a4 : List AV) (a5 : List AV) (a6 : List AV) (a7 : List AV) {R : F133R} (H : f133 o fuel a0 a1 a2 a3 a4 a5 a6 a7 = some R) (K : AV → List Ent → Prop) (E : AV → List Ent → Prop) (h : K R.av (F133R.hp a0 a2 a3 a4 a5 a6 R)) : CallA Try.prog 133 [.ptr 0 0, .int .i64 a1] [.var [.int .i64 a2, .int .i64 a3, .sl 2 a4 (.tip 1 a0), .sl 1 a5 .no, .sl 1 a6 .no, .sl 5 a7 .no], .tip a0] K E := by
  refine call_wk fun K' hK => ?_
  refine call_keep (n₀ := 2) tab_ok Try.func133 rfl rfl rfl rfl ?_
  intro J hJ
  obtain rfl : o = J.o := by rw [ho, hJ]; rfl
  unfold f133 at H
  cbv
  repeat' (first
    | ((with_reducible first | refine awp_go2 ?_ | refine aops_go2 ?_ | refine strip_go2 ?_ | refine draw_go2 ?_ | refine frames_go2 ?_); cbv)
    | (with_reducible refine hold_go hJ ?_; cbv)
    | with_reducible exact id
    | exact trivial
    | with_reducible exact rfl
    | with_reducible exact ⟨_, rfl⟩
    | exact none_go H
    | (cases H; replace H := HX0; clear HX0; (try dsimp only at H))
    | (refine KeepQ.mk [] (by decide) ?_; cbv; cases H; refine hK _ _ _ _ ?_ ?_ rfl h <;> cbv)
    | (refine hN0 _ _ _ _ _ H ?_; with_reducible refine wkEnv_go2 ?_; cbv)
    | (refine ifB_go H ?_ ?_ <;> clear H <;> intro hh H)
    | (refine ifB_og H ?_ ?_ <;> clear H <;> intro hh H)
    | (refine req_go H ?_; clear H; intro hh H)
    | (refine gg_t ho H ?_ ?_ <;> clear H <;> intro hh H)
    | (refine gg_f ho H ?_ ?_ <;> clear H <;> intro hh H)
    | (refine bit_go ho H ?_ ?_ <;> clear H <;> intro hh H; (all_goals cbv))
    | (refine nil_go H ?_; clear H; intro b H; cbv)
    | (refine tok_go ?_; cbv)
    | (refine sh31_get H ?_; clear H; intro _ _ _ _ _ he H; cbv)
    | (refine sh31_find H ?_ ?_ <;> clear H; (intro _ _ _ _ _ H; cbv); rotate_left; (intro H; cbv))
    | (refine getA_go (β := UInt8) H ?_; clear H; intro e H; cbv)
    | (refine f133_l0_go hJ (o := J.o) rfl H (by decide) (Turn.trans (turn_nile 4 5 rfl (leN_t rfl)) (Turn.le ⟨?_, ?_, rfl, rfl⟩ (leN_t rfl))) ?_
       · cbv
         repeat' (first | exact trivial | exact rfl | apply And.intro)
       · cbv
         repeat' (first | exact trivial | exact rfl | apply And.intro)
       clear H
       intro X0 HX0 n _ _ _ H Nx0 hN0
       rw [f133_l0] at H
       cbv)
    | (refine lit_t ?_; cbv)
    | (refine lit_f ?_; cbv)
    | (refine known_t (by assumption) ?_)
    | (refine known_f (by assumption) ?_)
    | (refine known_x (by assumption) ?_)
    | (refine known_y (by assumption) ?_)
    | (refine known_get (by assumption) ?_; cbv)
    | (refine known_and (by assumption) ?_)
    | with_reducible refine And.intro ?_ ?_
    | (intro hh; exact hh)
    | (intro _; assumption)
    | (intro hx; first | exact tf_absurd hx (by assumption) | exact tf_absurd (by assumption) hx)
    | (intro _; clear H h; (try clear hN0); (try clear HX0); simp only [ho, stdOps] at *; simp_all)
    | (cbv; with_reducible refine hold_go hJ ?_; cbv))

/-! (*pontoon/pontoonref15.Sink).Commit -/
inductive F89R where
  | v0 (y0 : Int) (y1 : Int) (y2 : List AV) (y3 : List AV) (y4 : List AV) (y5 : List AV)
def F89R.av : F89R → AV
  | .v0 y0 _ _ _ _ _ => .int .i64 y0
def F89R.hp (a2 : Int) : F89R → List Ent
  | .v0 _ y1 y2 y3 y4 y5 => [.var [.int .i64 a2, .int .i64 y1, .sl 2 y2 .no, .sl 1 y3 .no, .sl 1 y4 .no, .sl 5 y5 .no]]
inductive F89L0 where
  | x0 (y0 : Int)
noncomputable def f89_l0 (o : Ops) (fuel : Nat) (r12 : List AV) (a1 : Int) (a2 : Int) (r11 : Int) (a4 : List AV) (v19 : List AV) (r22 : Int) (v18 : Int) (v20 : List AV) (r23 : List AV) (a0 : Int) : Nat → Int → Option F89L0
  | 0, _ => none
  | n + 1, w25 =>
    ifB (o.cmp .lss w25 (o.len r12))
    (req (o.inb w25 (o.len r12)) <|
     getA (o.get r12 w25) fun e => sh2 e fun v26 =>
     ifB (o.pick (o.cmp .lss w25 (o.len r12)) (o.cmp .lss v26 a1) false)
     (f89_l0 o fuel r12 a1 a2 r11 a4 v19 r22 v18 v20 r23 a0 n (o.ar .add .i64 w25 1))
     (some (.x0 w25)))
    (some (.x0 w25))
theorem f89_l0_go {J : Jd} {n₀ : Nat} (hJ : J = std Try.prog n₀) {o : Ops} (hJo : J.o = o) {fuel : Nat} {r12 : List AV} {a1 : Int} {a2 : Int} {r11 : Int} {a4 : List AV} {v19 : List AV} {r22 : Int} {v18 : Int} {v20 : List AV} {r23 : List AV} {a0 : Int} {w25i : Int} {α : Type} {k : F89L0 → Option α} {r : α} {c : Code} {Q : Ex → St → Prop} {s : St}
    (H : bindR (f89_l0 o fuel r12 a1 a2 r11 a4 v19 r22 v18 v20 r23 a0 fuel w25i) k = some r) (hn : n₀ ≤ 4) (hle : Le s ⟨[(10, .int .i64 w25i), (3, .ptr 1 0), (0, .ptr 0 0)], [.var [.int .i64 a2, .int .i64 r11, .sl 2 (o.apnd (o.apnd [] a4) (o.drop v19 (o.ar .sub .i64 r22 v18))) .no, .sl 1 v20 .no, .sl 1 r12 .no, .sl 5 r23 .no], .var [.int .i64 a0, .int .i64 a1], .dead, .dead], 131⟩)
    (round : ∀ X, k X = some r → ∀ (n : Nat) (w25 : Int), f89_l0 o fuel r12 a1 a2 r11 a4 v19 r22 v18 v20 r23 a0 (n + 1) w25 = some X → ∀ N : St → Prop,
      (∀ (env : List (Nat × AV)) (w25' : Int) (v : List Ent), f89_l0 o fuel r12 a1 a2 r11 a4 v19 r22 v18 v20 r23 a0 n w25' = some X → wkEnv env [(10, .int .i64 w25'), (3, .ptr 1 0), (0, .ptr 0 0)] → N ⟨env, [.var [.int .i64 a2, .int .i64 r11, .sl 2 (o.apnd (o.apnd [] a4) (o.drop v19 (o.ar .sub .i64 r22 v18))) .no, .sl 1 v20 .no, .sl 1 r12 .no, .sl 5 r23 .no], .var [.int .i64 a0, .int .i64 a1], .dead, .dead] ++ v, 131⟩) → awp J tab c (thenQ N Q) ⟨[(10, .int .i64 w25), (3, .ptr 1 0), (0, .ptr 0 0)], [.var [.int .i64 a2, .int .i64 r11, .sl 2 (o.apnd (o.apnd [] a4) (o.drop v19 (o.ar .sub .i64 r22 v18))) .no, .sl 1 v20 .no, .sl 1 r12 .no, .sl 5 r23 .no], .var [.int .i64 a0, .int .i64 a1], .dead, .dead], 131⟩) : J.code (.loop c) Q s := by
  subst hJo
  obtain ⟨X, hX, HX⟩ := bindR_go H
  refine loop_at (β := Nat × Int) hJ tab_ok (fun | (_, w25) => ⟨[(10, .int .i64 w25), (3, .ptr 1 0), (0, .ptr 0 0)], [.var [.int .i64 a2, .int .i64 r11, .sl 2 (J.o.apnd (J.o.apnd [] a4) (J.o.drop v19 (J.o.ar .sub .i64 r22 v18))) .no, .sl 1 v20 .no, .sl 1 r12 .no, .sl 5 r23 .no], .var [.int .i64 a0, .int .i64 a1], .dead, .dead], 131⟩) (fun | (n, w25) => f89_l0 J.o fuel r12 a1 a2 r11 a4 v19 r22 v18 v20 r23 a0 n w25 = some X) (fun | (n, _) => n) (fuel, w25i) hX hle (by rintro ⟨_, _⟩; exact hn) ?_
  rintro ⟨n, w25⟩ hb N hN
  rcases n with _ | n
  · exact none_go (show (none : Option F89L0) = some X from hb)
  exact round X HX n w25 hb N fun env w25' v h1 h2 => hN _ (n, w25') h1 (Nat.lt_succ_self n) ⟨h2, by first | (cbv; done) | (cbv; repeat' (first | exact trivial | exact rfl | apply And.intro)), rfl, rfl⟩

noncomputable def f89 (o : Ops) (fuel : Nat) (a0 : Int) (a1 : Int) (a2 : Int) (a3 : Int) (a4 : List AV) (a5 : List AV) (a6 : List AV) (a7 : List AV) : Option F89R :=
  bindR (f82 o fuel a0) fun r => match r with
  | .v0 r8 => ifB (o.bnot r8)
    (some (.v0 1 a3 a4 a5 a6 a7))
    (bindR (f82 o fuel a1) fun r => match r with
     | .v0 r9 => ifB (o.bnot r9)
       (some (.v0 1 a3 a4 a5 a6 a7))
       (bindR (f130 o fuel a0 a2 a3 a4 a5 a6 a7) fun r => match r with
        | .v0 r10 r11 r12 r13 => ifB (o.bnot (o.cmp .eql r10 0))
          (some (.v0 r10 r11 a4 a5 r12 r13))
          (bindR (f109 o fuel a0 a1 a2 r11 a4 a5 r12 r13) fun r => match r with
           | .v0 r14 => ifB r14
             (some (.v0 0 r11 a4 a5 r12 r13))
             (bindR (f131 o fuel a1 a2 r11 a4 a5 r12 r13) fun r => match r with
              | .v0 r15 => ifB (o.cmp .lss r15 0)
                (some (.v0 4 r11 a4 a5 r12 r13))
                (req (o.inb r15 (o.len r13)) <|
                 getA (o.get r13 r15) fun e => sh31 e fun v16 v17 v18 v19 v20 =>
                 bindR (f132 o fuel v16 v17 v18 v19 v20 a2 r11 a4 a5 r12 r13) fun r => match r with
                 | .v0 r21 => ifB (o.bnot (o.cmp .eql r21 0))
                   (some (.v0 r21 r11 a4 a5 r12 r13))
                   (req (o.room [] a4 16) <|
                    bindR (f106 o fuel a2 r11 a4 a5 r12 r13) fun r => match r with
                    | .v0 r22 => req (o.le 0 (o.ar .sub .i64 r22 v18)) <|
                      req (o.le (o.ar .sub .i64 r22 v18) (o.len v19)) <|
                      req (o.room (o.apnd [] a4) (o.drop v19 (o.ar .sub .i64 r22 v18)) 16) <|
                      bindR (f133 o fuel (o.padd (o.pos [] a4) (o.drop v19 (o.ar .sub .i64 r22 v18))) a1 a2 r11 (o.apnd (o.apnd [] a4) (o.drop v19 (o.ar .sub .i64 r22 v18))) v20 r12 r13) fun r => match r with
                      | .v0 r23 => bindR (f89_l0 o fuel r12 a1 a2 r11 a4 v19 r22 v18 v20 r23 a0 fuel 0) fun r => match r with
                        | .x0 y27 => req (o.le 0 y27) <|
                          req (o.le y27 (o.len r12)) <|
                          req (o.room [] (o.sub r12 0 y27) 8) <|
                          req (o.room (o.apnd [] (o.sub r12 0 y27)) [.int .i64 a1] 8) <|
                          req (o.le 0 y27) <|
                          req (o.le y27 (o.len r12)) <|
                          req (o.room (o.apnd (o.apnd [] (o.sub r12 0 y27)) [.int .i64 a1]) (o.drop r12 y27) 8) <|
                          some (.v0 0 r11 (o.apnd (o.apnd [] a4) (o.drop v19 (o.ar .sub .i64 r22 v18))) v20 (o.apnd (o.apnd (o.apnd [] (o.sub r12 0 y27)) [.int .i64 a1]) (o.drop r12 y27)) r23)))))))
set_option maxHeartbeats 4000000 in
set_option maxRecDepth 100000 in
theorem f89_call (o : Ops) (ho : o = stdOps) (fuel : Nat) (a0 : Int) (a1 : Int) (a2 : Int) (a3 : Int) (a4 : List AV) (a5 : List AV) (a6 : List AV) (a7 : List AV) {R : F89R} (H : f89 o fuel a0 a1 a2 a3 a4 a5 a6 a7 = some R) (K : AV → List Ent → Prop) (E : AV → List Ent → Prop) (h : K R.av (F89R.hp a2 R)) : CallA Try.prog 89 [.ptr 0 0, .agg [.int .i64 a0, .int .i64 a1]] [.var [.int .i64 a2, .int .i64 a3, .sl 2 a4 .no, .sl 1 a5 .no, .sl 1 a6 .no, .sl 5 a7 .no]] K E := by
  refine call_wk fun K' hK => ?_
  refine call_keep (n₀ := 1) tab_ok Try.func89 rfl rfl rfl rfl ?_
  intro J hJ
  obtain rfl : o = J.o := by rw [ho, hJ]; rfl
  unfold f89 at H
  cbv
  repeat' (first
    | ((with_reducible first | refine awp_go2 ?_ | refine aops_go2 ?_ | refine strip_go2 ?_ | refine draw_go2 ?_ | refine frames_go2 ?_); cbv)
    | (with_reducible refine hold_go hJ ?_; cbv)
    | with_reducible exact id
    | exact trivial
    | with_reducible exact rfl
    | with_reducible exact ⟨_, rfl⟩
    | exact none_go H
    | (cases H; replace H := HX0; clear HX0; (try dsimp only at H))
    | (refine KeepQ.mk [] (by decide) ?_; cbv; cases H; refine hK _ _ _ _ ?_ ?_ rfl h <;> cbv)
    | (refine hN0 _ _ _ H ?_; with_reducible refine wkEnv_go2 ?_; cbv)
    | (first | refine known_f (kn_pick_f ho (by assumption) rfl) ?_ | refine known_x (kn_pick_f ho (by assumption) rfl) ?_)
    | (refine ifB_go H ?_ ?_ <;> clear H <;> intro hh H)
    | (refine ifB_og H ?_ ?_ <;> clear H <;> intro hh H)
    | (refine req_go H ?_; clear H; intro hh H)
    | (refine gg_t ho H ?_ ?_ <;> clear H <;> intro hh H)
    | (refine gg_f ho H ?_ ?_ <;> clear H <;> intro hh H)
    | (refine bit_go ho H ?_ ?_ <;> clear H <;> intro hh H; (all_goals cbv))
    | (refine nil_go H ?_; clear H; intro b H; cbv)
    | (refine tok_go ?_; cbv)
    | (refine sh2_get H ?_; clear H; intro _ he H; cbv)
    | (refine sh2_find H ?_ ?_ <;> clear H; (intro _ H; cbv); rotate_left; (intro H; cbv))
    | (refine sh31_get H ?_; clear H; intro _ _ _ _ _ he H; cbv)
    | (refine sh31_find H ?_ ?_ <;> clear H; (intro _ _ _ _ _ H; cbv); rotate_left; (intro H; cbv))
    | (refine getA_go (β := UInt8) H ?_; clear H; intro e H; cbv)
    | (obtain ⟨R, hR, H2⟩ := bindR_go H; refine call_in hJ [0, 3] (by decide) rfl rfl rfl (f133_call _ ho _ _ _ _ _ _ _ _ _ hR _ _ ?_); clear H hR; rcases R with ⟨_⟩; all_goals (replace H := H2; clear H2; (try dsimp only at H); cbv))
    | (obtain ⟨R, hR, H2⟩ := bindR_go H; refine call_in hJ [0] (by decide) rfl rfl rfl (f106_call _ ho _ _ _ _ _ _ _ hR _ _ ?_); clear H hR; rcases R with ⟨_⟩; all_goals (replace H := H2; clear H2; (try dsimp only at H); cbv))
    | (obtain ⟨R, hR, H2⟩ := bindR_go H; refine call_in hJ [0] (by decide) rfl rfl rfl (f132_call _ ho _ _ _ _ _ _ _ _ _ _ _ _ hR _ _ ?_); clear H hR; rcases R with ⟨_⟩; all_goals (replace H := H2; clear H2; (try dsimp only at H); cbv))
    | (obtain ⟨R, hR, H2⟩ := bindR_go H; refine call_in hJ [0] (by decide) rfl rfl rfl (f131_call _ ho _ _ _ _ _ _ _ _ hR _ _ ?_); clear H hR; rcases R with ⟨_⟩; all_goals (replace H := H2; clear H2; (try dsimp only at H); cbv))
    | (obtain ⟨R, hR, H2⟩ := bindR_go H; refine call_in hJ [0] (by decide) rfl rfl rfl (f109_call _ ho _ _ _ _ _ _ _ _ _ hR _ _ ?_); clear H hR; rcases R with ⟨_⟩; all_goals (replace H := H2; clear H2; (try dsimp only at H); cbv))
    | (obtain ⟨R, hR, H2⟩ := bindR_go H; refine call_in hJ [0] (by decide) rfl rfl rfl (f130_call _ ho _ _ _ _ _ _ _ _ hR _ _ ?_); clear H hR; rcases R with ⟨_, _, _, _⟩; all_goals (replace H := H2; clear H2; (try dsimp only at H); cbv))
    | (obtain ⟨R, hR, H2⟩ := bindR_go H; refine call_in hJ [] (by decide) rfl rfl rfl (f82_call _ ho _ _ hR _ _ ?_); clear H hR; rcases R with ⟨_⟩; all_goals (replace H := H2; clear H2; (try dsimp only at H); cbv))
    | (refine f89_l0_go hJ (o := J.o) rfl H (by decide) ⟨?_, ?_, rfl, rfl⟩ ?_
       · cbv
         repeat' (first | exact trivial | exact rfl | apply And.intro)
       · cbv
         repeat' (first | exact trivial | exact rfl | apply And.intro)
       clear H
       intro X0 HX0 n _ H Nx0 hN0
       rw [f89_l0] at H
       cbv)
    | (refine lit_t ?_; cbv)
    | (refine lit_f ?_; cbv)
    | (refine known_t (by assumption) ?_)
    | (refine known_f (by assumption) ?_)
    | (refine known_x (by assumption) ?_)
    | (refine known_y (by assumption) ?_)
    | (refine known_get (by assumption) ?_; cbv)
    | (refine known_and (by assumption) ?_)
    | with_reducible refine And.intro ?_ ?_
    | (intro hh; exact hh)
    | (intro _; assumption)
    | (intro hx; first | exact tf_absurd hx (by assumption) | exact tf_absurd (by assumption) hx)
    | (intro _; clear H h; (try clear hN0); (try clear HX0); simp only [ho, stdOps] at *; simp_all)
    | (cbv; with_reducible refine hold_go hJ ?_; cbv))

/-! (*pontoon/pontoonref15.Sink).drop -/
inductive F133_1R where
  | v0 (y0 : List AV)
def F133_1R.av : F133_1R → AV
  | .v0 _ => .tup []
def F133_1R.hp (a1 : Int) (a2 : Int) (a3 : List AV) (a4 : List AV) (a5 : List AV) : F133_1R → List Ent
  | .v0 y0 => [.var [.int .i64 a1, .int .i64 a2, .sl 2 a3 .no, .sl 1 a4 .no, .sl 1 a5 .no, .sl 5 y0 .no]]
inductive F133_1L0 where
  | x0 (y0 : List AV) (y1 : Nat)
noncomputable def f133_1_l0 (o : Ops) (fuel : Nat) (a6 : List AV) (a0 : Int) (a1 : Int) (a2 : Int) (a3 : List AV) (a4 : List AV) (a5 : List AV) : Nat → Nat → List AV → Int → Option F133_1L0
  | 0, _, _, _ => none
  | n + 1, w27, w28, w29 =>
    ifB (o.cmp .lss w29 (o.len a6))
    (req (o.inb w29 (o.len a6)) <|
     getA (o.get a6 w29) fun e => sh31 e fun _ v31 _ _ _ =>
     ifB (o.bnot (o.cmp .eql v31 a0))
     (req (o.inb w29 (o.len a6)) <|
      getA (o.get a6 w29) fun e => sh31 e fun v35 v36 v37 v38 v39 =>
      req (o.room w28 [.agg [.int .i64 v35, .int .i64 v36, .int .i64 v37, .sl 2 v38 .no, .sl 1 v39 .no]] 72) <|
      f133_1_l0 o fuel a6 a0 a1 a2 a3 a4 a5 n (o.padd w27 [.agg [.int .i64 v35, .int .i64 v36, .int .i64 v37, .sl 2 v38 .no, .sl 1 v39 .no]]) (o.apnd w28 [.agg [.int .i64 v35, .int .i64 v36, .int .i64 v37, .sl 2 v38 .no, .sl 1 v39 .no]]) (o.ar .add .i64 w29 1))
     (f133_1_l0 o fuel a6 a0 a1 a2 a3 a4 a5 n w27 w28 (o.ar .add .i64 w29 1)))
    (some (.x0 w28 w27))
theorem f133_1_l0_go {J : Jd} {n₀ : Nat} (hJ : J = std Try.prog n₀) {o : Ops} (hJo : J.o = o) {fuel : Nat} {a6 : List AV} {a0 : Int} {a1 : Int} {a2 : Int} {a3 : List AV} {a4 : List AV} {a5 : List AV} {w27i : Nat} {w28i : List AV} {w29i : Int} {α : Type} {k : F133_1L0 → Option α} {r : α} {c : Code} {Q : Ex → St → Prop} {s : St}
    (H : bindR (f133_1_l0 o fuel a6 a0 a1 a2 a3 a4 a5 fuel w27i w28i w29i) k = some r) (hn : n₀ ≤ 2) (hle : Turn n₀ s ⟨[(5, .int .i64 w29i), (4, .sl 5 w28i (.tip 1 w27i)), (1, .int .i64 a0), (0, .ptr 0 0)], [.var [.int .i64 a1, .int .i64 a2, .sl 2 a3 .no, .sl 1 a4 .no, .sl 1 a5 .no, .sl 5 a6 .no], .tip w27i], 43⟩)
    (round : ∀ X, k X = some r → ∀ (n : Nat) (w27 : Nat) (w28 : List AV) (w29 : Int), f133_1_l0 o fuel a6 a0 a1 a2 a3 a4 a5 (n + 1) w27 w28 w29 = some X → ∀ N : St → Prop,
      (∀ (env : List (Nat × AV)) (w27' : Nat) (w28' : List AV) (w29' : Int) (v : List Ent), f133_1_l0 o fuel a6 a0 a1 a2 a3 a4 a5 n w27' w28' w29' = some X → wkEnv env [(5, .int .i64 w29'), (4, .sl 5 w28' (.tip 1 w27')), (1, .int .i64 a0), (0, .ptr 0 0)] → N ⟨env, [.var [.int .i64 a1, .int .i64 a2, .sl 2 a3 .no, .sl 1 a4 .no, .sl 1 a5 .no, .sl 5 a6 .no], .tip w27'] ++ v, 43⟩) → awp J tab c (thenQ N Q) ⟨[(5, .int .i64 w29), (4, .sl 5 w28 (.tip 1 w27)), (1, .int .i64 a0), (0, .ptr 0 0)], [.var [.int .i64 a1, .int .i64 a2, .sl 2 a3 .no, .sl 1 a4 .no, .sl 1 a5 .no, .sl 5 a6 .no], .tip w27], 43⟩) : J.code (.loop c) Q s := by
  subst hJo
  obtain ⟨X, hX, HX⟩ := bindR_go H
  refine loop_turn_at (β := Nat × Nat × List AV × Int) hJ tab_ok (fun | (_, w27, w28, w29) => ⟨[(5, .int .i64 w29), (4, .sl 5 w28 (.tip 1 w27)), (1, .int .i64 a0), (0, .ptr 0 0)], [.var [.int .i64 a1, .int .i64 a2, .sl 2 a3 .no, .sl 1 a4 .no, .sl 1 a5 .no, .sl 5 a6 .no], .tip w27], 43⟩) (fun | (n, w27, w28, w29) => f133_1_l0 J.o fuel a6 a0 a1 a2 a3 a4 a5 n w27 w28 w29 = some X) (fun | (n, _, _, _) => n) (fuel, w27i, w28i, w29i) hX hle (by rintro ⟨_, _, _, _⟩; exact hn) ?_
  rintro ⟨n, w27, w28, w29⟩ hb N hN
  rcases n with _ | n
  · exact none_go (show (none : Option F133_1L0) = some X from hb)
  exact round X HX n w27 w28 w29 hb N fun env w27' w28' w29' v h1 h2 => hN _ (n, w27', w28', w29') h1 (Nat.lt_succ_self n) (Turn.le ⟨h2, by cbv; repeat' (first | exact trivial | exact rfl | apply And.intro), rfl, rfl⟩ (by simp; omega))

noncomputable def f133_1 (o : Ops) (fuel : Nat) (a0 : Int) (a1 : Int) (a2 : Int) (a3 : List AV) (a4 : List AV) (a5 : List AV) (a6 : List AV) : Option F133_1R :=
  bindR (f133_1_l0 o fuel a6 a0 a1 a2 a3 a4 a5 fuel 0 [] 0) fun r => match r with
  | .x0 y40 _ => some (.v0 y40)
set_option maxHeartbeats 4000000 in
set_option maxRecDepth 100000 in
theorem f133_1_call (o : Ops) (ho : o = stdOps) (fuel : Nat) (a0 : Int) (a1 : Int) (a2 : Int) (a3 : List AV) (a4 : List AV) (a5 : List AV) (a6 : List AV) {R : F133_1R} (H : f133_1 o fuel a0 a1 a2 a3 a4 a5 a6 = some R) (K : AV → List Ent → Prop) (E : AV → List Ent → Prop) (h : K R.av (F133_1R.hp a1 a2 a3 a4 a5 R)) : CallA Try.prog 133 [.ptr 0 0, .int .i64 a0] [.var [.int .i64 a1, .int .i64 a2, .sl 2 a3 .no, .sl 1 a4 .no, .sl 1 a5 .no, .sl 5 a6 .no]] K E := by
  refine call_wk fun K' hK => ?_
  refine call_keep (n₀ := 1) tab_ok Try.func133 rfl rfl rfl rfl ?_
  intro J hJ
  obtain rfl : o = J.o := by rw [ho, hJ]; rfl
  unfold f133_1 at H
  cbv
  repeat' (first
    | ((with_reducible first | refine awp_go2 ?_ | refine aops_go2 ?_ | refine strip_go2 ?_ | refine draw_go2 ?_ | refine frames_go2 ?_); cbv)
    | (with_reducible refine hold_go hJ ?_; cbv)
    | with_reducible exact id
    | exact trivial
    | with_reducible exact rfl
    | with_reducible exact ⟨_, rfl⟩
    | exact none_go H
    | (cases H; replace H := HX0; clear HX0; (try dsimp only at H))
    | (refine KeepQ.mk [] (by decide) ?_; cbv; cases H; refine hK _ _ _ _ ?_ ?_ rfl h <;> cbv)
    | (refine hN0 _ _ _ _ _ H ?_; with_reducible refine wkEnv_go2 ?_; cbv)
    | (refine ifB_go H ?_ ?_ <;> clear H <;> intro hh H)
    | (refine ifB_og H ?_ ?_ <;> clear H <;> intro hh H)
    | (refine req_go H ?_; clear H; intro hh H)
    | (refine gg_t ho H ?_ ?_ <;> clear H <;> intro hh H)
    | (refine gg_f ho H ?_ ?_ <;> clear H <;> intro hh H)
    | (refine bit_go ho H ?_ ?_ <;> clear H <;> intro hh H; (all_goals cbv))
    | (refine nil_go H ?_; clear H; intro b H; cbv)
    | (refine tok_go ?_; cbv)
    | (refine sh31_get H ?_; clear H; intro _ _ _ _ _ he H; cbv)
    | (refine sh31_find H ?_ ?_ <;> clear H; (intro _ _ _ _ _ H; cbv); rotate_left; (intro H; cbv))
    | (refine getA_go (β := UInt8) H ?_; clear H; intro e H; cbv)
    | (refine f133_1_l0_go hJ (o := J.o) rfl H (by decide) (Turn.trans (turn_nile 4 5 rfl (leN_t rfl)) (Turn.le ⟨?_, ?_, rfl, rfl⟩ (leN_t rfl))) ?_
       · cbv
         repeat' (first | exact trivial | exact rfl | apply And.intro)
       · cbv
         repeat' (first | exact trivial | exact rfl | apply And.intro)
       clear H
       intro X0 HX0 n _ _ _ H Nx0 hN0
       rw [f133_1_l0] at H
       cbv)
    | (refine lit_t ?_; cbv)
    | (refine lit_f ?_; cbv)
    | (refine known_t (by assumption) ?_)
    | (refine known_f (by assumption) ?_)
    | (refine known_x (by assumption) ?_)
    | (refine known_y (by assumption) ?_)
    | (refine known_get (by assumption) ?_; cbv)
    | (refine known_and (by assumption) ?_)
    | with_reducible refine And.intro ?_ ?_
    | (intro hh; exact hh)
    | (intro _; assumption)
    | (intro hx; first | exact tf_absurd hx (by assumption) | exact tf_absurd (by assumption) hx)
    | (intro _; clear H h; (try clear hN0); (try clear HX0); simp only [ho, stdOps] at *; simp_all)
    | (cbv; with_reducible refine hold_go hJ ?_; cbv))

/-! (*pontoon/pontoonref15.Sink).Abort -/
inductive F90R where
  | v0 (y0 : Int) (y1 : Int) (y2 : List AV) (y3 : List AV)
def F90R.av : F90R → AV
  | .v0 y0 _ _ _ => .int .i64 y0
def F90R.hp (a2 : Int) (a4 : List AV) (a5 : List AV) : F90R → List Ent
  | .v0 _ y1 y2 y3 => [.var [.int .i64 a2, .int .i64 y1, .sl 2 a4 .no, .sl 1 a5 .no, .sl 1 y2 .no, .sl 5 y3 .no]]
noncomputable def f90 (o : Ops) (fuel : Nat) (a0 : Int) (a1 : Int) (a2 : Int) (a3 : Int) (a4 : List AV) (a5 : List AV) (a6 : List AV) (a7 : List AV) : Option F90R :=
  bindR (f82 o fuel a0) fun r => match r with
  | .v0 r8 => ifB (o.bnot r8)
    (some (.v0 1 a3 a6 a7))
    (bindR (f82 o fuel a1) fun r => match r with
     | .v0 r9 => ifB (o.bnot r9)
       (some (.v0 1 a3 a6 a7))
       (bindR (f130 o fuel a0 a2 a3 a4 a5 a6 a7) fun r => match r with
        | .v0 r10 r11 r12 r13 => ifB (o.bnot (o.cmp .eql r10 0))
          (some (.v0 r10 r11 r12 r13))
          (bindR (f109 o fuel a0 a1 a2 r11 a4 a5 r12 r13) fun r => match r with
           | .v0 r14 => ifB r14
             (some (.v0 5 r11 r12 r13))
             (bindR (f133_1 o fuel a1 a2 r11 a4 a5 r12 r13) fun r => match r with
              | .v0 r15 => some (.v0 0 r11 r12 r15)))))
set_option maxHeartbeats 4000000 in
set_option maxRecDepth 100000 in
theorem f90_call (o : Ops) (ho : o = stdOps) (fuel : Nat) (a0 : Int) (a1 : Int) (a2 : Int) (a3 : Int) (a4 : List AV) (a5 : List AV) (a6 : List AV) (a7 : List AV) {R : F90R} (H : f90 o fuel a0 a1 a2 a3 a4 a5 a6 a7 = some R) (K : AV → List Ent → Prop) (E : AV → List Ent → Prop) (h : K R.av (F90R.hp a2 a4 a5 R)) : CallA Try.prog 90 [.ptr 0 0, .agg [.int .i64 a0, .int .i64 a1]] [.var [.int .i64 a2, .int .i64 a3, .sl 2 a4 .no, .sl 1 a5 .no, .sl 1 a6 .no, .sl 5 a7 .no]] K E := by
  refine call_wk fun K' hK => ?_
  refine call_keep (n₀ := 1) tab_ok Try.func90 rfl rfl rfl rfl ?_
  intro J hJ
  obtain rfl : o = J.o := by rw [ho, hJ]; rfl
  unfold f90 at H
  cbv
  repeat' (first
    | ((with_reducible first | refine awp_go2 ?_ | refine aops_go2 ?_ | refine strip_go2 ?_ | refine draw_go2 ?_ | refine frames_go2 ?_); cbv)
    | (with_reducible refine hold_go hJ ?_; cbv)
    | with_reducible exact id
    | exact trivial
    | with_reducible exact rfl
    | with_reducible exact ⟨_, rfl⟩
    | exact none_go H
    | (refine KeepQ.mk [] (by decide) ?_; cbv; cases H; refine hK _ _ _ _ ?_ ?_ rfl h <;> cbv)
    | (refine ifB_go H ?_ ?_ <;> clear H <;> intro hh H)
    | (refine ifB_og H ?_ ?_ <;> clear H <;> intro hh H)
    | (refine req_go H ?_; clear H; intro hh H)
    | (refine gg_t ho H ?_ ?_ <;> clear H <;> intro hh H)
    | (refine gg_f ho H ?_ ?_ <;> clear H <;> intro hh H)
    | (refine bit_go ho H ?_ ?_ <;> clear H <;> intro hh H; (all_goals cbv))
    | (refine nil_go H ?_; clear H; intro b H; cbv)
    | (refine tok_go ?_; cbv)
    | (refine getA_go (β := UInt8) H ?_; clear H; intro e H; cbv)
    | (obtain ⟨R, hR, H2⟩ := bindR_go H; refine call_in hJ [0] (by decide) rfl rfl rfl (f133_1_call _ ho _ _ _ _ _ _ _ _ hR _ _ ?_); clear H hR; rcases R with ⟨_⟩; all_goals (replace H := H2; clear H2; (try dsimp only at H); cbv))
    | (obtain ⟨R, hR, H2⟩ := bindR_go H; refine call_in hJ [0] (by decide) rfl rfl rfl (f109_call _ ho _ _ _ _ _ _ _ _ _ hR _ _ ?_); clear H hR; rcases R with ⟨_⟩; all_goals (replace H := H2; clear H2; (try dsimp only at H); cbv))
    | (obtain ⟨R, hR, H2⟩ := bindR_go H; refine call_in hJ [0] (by decide) rfl rfl rfl (f130_call _ ho _ _ _ _ _ _ _ _ hR _ _ ?_); clear H hR; rcases R with ⟨_, _, _, _⟩; all_goals (replace H := H2; clear H2; (try dsimp only at H); cbv))
    | (obtain ⟨R, hR, H2⟩ := bindR_go H; refine call_in hJ [] (by decide) rfl rfl rfl (f82_call _ ho _ _ hR _ _ ?_); clear H hR; rcases R with ⟨_⟩; all_goals (replace H := H2; clear H2; (try dsimp only at H); cbv))
    | (refine lit_t ?_; cbv)
    | (refine lit_f ?_; cbv)
    | (refine known_t (by assumption) ?_)
    | (refine known_f (by assumption) ?_)
    | (refine known_x (by assumption) ?_)
    | (refine known_y (by assumption) ?_)
    | (refine known_get (by assumption) ?_; cbv)
    | (refine known_and (by assumption) ?_)
    | with_reducible refine And.intro ?_ ?_
    | (intro hh; exact hh)
    | (intro _; assumption)
    | (intro hx; first | exact tf_absurd hx (by assumption) | exact tf_absurd (by assumption) hx)
    | (intro _; clear H h; simp only [ho, stdOps] at *; simp_all)
    | (cbv; with_reducible refine hold_go hJ ?_; cbv))

end Go.Proofs.Ytjdbmfipciadfaa.A
