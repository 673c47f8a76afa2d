/- Functions of the program and of the document's answer, as plain ones. Written by lift.py. -/
import Derived.Test.YtjdbmfipciadfaaSx0

namespace Go.Proofs.Ytjdbmfipciadfaa.A
open Go Go.Pt

/-! pontoon/sink.New -/
inductive F14R where
  | v0 
  | v1 (y0 : List AV) (y1 : Nat) (y2 : List AV) (y3 : List (AV × AV)) (y4 : List (AV × AV))
def F14R.av : F14R → AV
  | .v0  => .tup [.nilp, .int .i64 1]
  | .v1 _ _ _ _ _ => .tup [.ptr 0 0, .int .i64 0]
def F14R.hp (a0 : Int) : F14R → List Ent
  | .v0  => []
  | .v1 y0 y1 y2 y3 y4 => [.var [.int .i64 a0, .int .i64 0, .sl 2 y0 (.tip 1 y1), .sl 1 y2 .no, .mp 2, .mp 3], .tip y1, .mp y3, .mp y4]
noncomputable def f14 (o : Ops) (_fuel : Nat) (a0 : Int) : Option F14R :=
  ifB (o.pick (o.cmp .lss a0 1) true (o.cmp .gtr a0 4))
  (some (.v0 ))
  (req (o.mks a0 a0 8) <|
   some (.v1 [] 0 (o.rep a0 (.int .i64 0)) [] []))
set_option maxHeartbeats 4000000 in
set_option maxRecDepth 100000 in
theorem f14_call (o : Ops) (ho : o = stdOps) (fuel : Nat) (a0 : Int) {R : F14R} (H : f14 o fuel a0 = some R) (K : AV → List Ent → Prop) (E : AV → List Ent → Prop) (h : K R.av (F14R.hp a0 R)) : CallA Try.prog 14 [.int .i64 a0] [] K E := by
  refine call_wk fun K' hK => ?_
  refine call_keep (n₀ := 0) tab_ok Try.func14 rfl rfl rfl rfl ?_
  intro J hJ
  obtain rfl : o = J.o := by rw [ho, hJ]; rfl
  unfold f14 at H
  cbv
  repeat' (first
    | ((with_reducible first | refine awp_go2 ?_ | refine aops_go2 ?_ | refine strip_go2 ?_ | refine draw_go2 ?_ | refine frames_go2 ?_); cbv)
    | (with_reducible refine hold_go hJ ?_; cbv)
    | with_reducible exact id
    | exact trivial
    | with_reducible exact rfl
    | with_reducible exact ⟨_, rfl⟩
    | exact none_go H
    | (refine KeepQ.mk [] (by decide) ?_; cbv; cases H; refine hK _ _ _ _ ?_ ?_ rfl h <;> cbv)
    | (refine KeepQ.tn _ (by first | exact .inl rfl | exact .inr rfl) (turn_tip 2 2 2 rfl rfl (leN_t rfl)) [2, 3, 0, 1] (by decide) ?_; cbv; cases H; refine hK _ _ _ _ ?_ ?_ rfl h <;> cbv)
    | (refine ifB_go H ?_ ?_ <;> clear H <;> intro hh H)
    | (refine ifB_og H ?_ ?_ <;> clear H <;> intro hh H)
    | (refine req_go H ?_; clear H; intro hh H)
    | (refine gg_t ho H ?_ ?_ <;> clear H <;> intro hh H)
    | (refine gg_f ho H ?_ ?_ <;> clear H <;> intro hh H)
    | (refine bit_go ho H ?_ ?_ <;> clear H <;> intro hh H; (all_goals cbv))
    | (refine nil_go H ?_; clear H; intro b H; cbv)
    | (refine tok_go ?_; cbv)
    | (refine getA_go (β := UInt8) H ?_; clear H; intro e H; cbv)
    | (refine lit_t ?_; cbv)
    | (refine lit_f ?_; cbv)
    | (refine known_t (by assumption) ?_)
    | (refine known_f (by assumption) ?_)
    | (refine known_x (by assumption) ?_)
    | (refine known_y (by assumption) ?_)
    | (refine known_get (by assumption) ?_; cbv)
    | (refine known_and (by assumption) ?_)
    | with_reducible refine And.intro ?_ ?_
    | (intro hh; exact hh)
    | (intro _; assumption)
    | (intro hx; first | exact tf_absurd hx (by assumption) | exact tf_absurd (by assumption) hx)
    | (intro _; clear H h; simp only [ho, stdOps] at *; simp_all)
    | (cbv; with_reducible refine hold_go hJ ?_; cbv))

/-! pontoon/pontoonlaw15.txn -/
inductive F60R where
  | v0 (y0 : Int) (y1 : Int) (y2 : Int) (y3 : List AV) (y4 : List AV)
def F60R.av : F60R → AV
  | .v0 y0 y1 y2 y3 y4 => .agg [.int .i64 y0, .int .i64 y1, .int .i64 y2, .sl 2 y3 .no, .sl 1 y4 .full]
def F60R.hp : F60R → List Ent
  | .v0 _ _ _ _ _ => []
inductive F60L0 where
  | x0 (y0 : List AV) (y1 : Nat)
noncomputable def f60_l0 (o : Ops) (fuel : Nat) (a4 : List AV) (a0 : Int) (a1 : Int) (a2 : Int) (a3 : Int) : Nat → Nat → Int → List AV → Option F60L0
  | 0, _, _, _ => none
  | n + 1, w7, w8, w9 =>
    ifB (o.cmp .lss w8 (o.len a4))
    (req (o.inb w8 (o.len a4)) <|
     getA (o.get a4 w8) fun e => sh2 e fun v10 =>
     req (o.room w9 [.agg [.int .i64 0, .int .i64 v10]] 16) <|
     f60_l0 o fuel a4 a0 a1 a2 a3 n (o.padd w7 [.agg [.int .i64 0, .int .i64 v10]]) (o.ar .add .i64 w8 1) (o.apnd w9 [.agg [.int .i64 0, .int .i64 v10]]))
    (some (.x0 w9 w7))
theorem f60_l0_go {J : Jd} {n₀ : Nat} (hJ : J = std Try.prog n₀) {o : Ops} (hJo : J.o = o) {fuel : Nat} {a4 : List AV} {a0 : Int} {a1 : Int} {a2 : Int} {a3 : Int} {w7i : Nat} {w8i : Int} {w9i : List AV} {α : Type} {k : F60L0 → Option α} {r : α} {c : Code} {Q : Ex → St → Prop} {s : St}
    (H : bindR (f60_l0 o fuel a4 a0 a1 a2 a3 fuel w7i w8i w9i) k = some r) (hn : n₀ ≤ 3) (hle : Turn n₀ s ⟨[(22, .int .i64 w8i), (21, .int .i64 (o.len a4)), (20, .sl 1 a4 .no), (11, .ptr 1 0), (10, .ptr 0 0)], [.var [.int .i64 0, .int .i64 0, .int .i64 0, .nils, .nils], .var [.int .i64 a0, .int .i64 a1, .int .i64 a2, .sl 2 w9i (.tip 2 w7i), .sl 1 [.int .i64 a3] .full], .tip w7i], 35⟩)
    (round : ∀ X, k X = some r → ∀ (n : Nat) (w7 : Nat) (w8 : Int) (w9 : List AV), f60_l0 o fuel a4 a0 a1 a2 a3 (n + 1) w7 w8 w9 = some X → ∀ N : St → Prop,
      (∀ (env : List (Nat × AV)) (w7' : Nat) (w8' : Int) (w9' : List AV) (v : List Ent), f60_l0 o fuel a4 a0 a1 a2 a3 n w7' w8' w9' = some X → wkEnv env [(22, .int .i64 w8'), (21, .int .i64 (o.len a4)), (20, .sl 1 a4 .no), (11, .ptr 1 0), (10, .ptr 0 0)] → N ⟨env, [.var [.int .i64 0, .int .i64 0, .int .i64 0, .nils, .nils], .var [.int .i64 a0, .int .i64 a1, .int .i64 a2, .sl 2 w9' (.tip 2 w7'), .sl 1 [.int .i64 a3] .full], .tip w7'] ++ v, 35⟩) → awp J tab c (thenQ N Q) ⟨[(22, .int .i64 w8), (21, .int .i64 (o.len a4)), (20, .sl 1 a4 .no), (11, .ptr 1 0), (10, .ptr 0 0)], [.var [.int .i64 0, .int .i64 0, .int .i64 0, .nils, .nils], .var [.int .i64 a0, .int .i64 a1, .int .i64 a2, .sl 2 w9 (.tip 2 w7), .sl 1 [.int .i64 a3] .full], .tip w7], 35⟩) : J.code (.loop c) Q s := by
  subst hJo
  obtain ⟨X, hX, HX⟩ := bindR_go H
  refine loop_turn_at (β := Nat × Nat × Int × List AV) hJ tab_ok (fun | (_, w7, w8, w9) => ⟨[(22, .int .i64 w8), (21, .int .i64 (J.o.len a4)), (20, .sl 1 a4 .no), (11, .ptr 1 0), (10, .ptr 0 0)], [.var [.int .i64 0, .int .i64 0, .int .i64 0, .nils, .nils], .var [.int .i64 a0, .int .i64 a1, .int .i64 a2, .sl 2 w9 (.tip 2 w7), .sl 1 [.int .i64 a3] .full], .tip w7], 35⟩) (fun | (n, w7, w8, w9) => f60_l0 J.o fuel a4 a0 a1 a2 a3 n w7 w8 w9 = some X) (fun | (n, _, _, _) => n) (fuel, w7i, w8i, w9i) hX hle (by rintro ⟨_, _, _, _⟩; exact hn) ?_
  rintro ⟨n, w7, w8, w9⟩ hb N hN
  rcases n with _ | n
  · exact none_go (show (none : Option F60L0) = some X from hb)
  exact round X HX n w7 w8 w9 hb N fun env w7' w8' w9' v h1 h2 => hN _ (n, w7', w8', w9') h1 (Nat.lt_succ_self n) (Turn.le ⟨h2, by cbv; repeat' (first | exact trivial | exact rfl | apply And.intro), rfl, rfl⟩ (by simp; omega))

noncomputable def f60 (o : Ops) (fuel : Nat) (a0 : Int) (a1 : Int) (a2 : Int) (a3 : Int) (a4 : List AV) : Option F60R :=
  bindR (f60_l0 o fuel a4 a0 a1 a2 a3 fuel 0 0 []) fun r => match r with
  | .x0 y11 _ => some (.v0 a0 a1 a2 y11 [.int .i64 a3])
set_option maxHeartbeats 4000000 in
set_option maxRecDepth 100000 in
theorem f60_call (o : Ops) (ho : o = stdOps) (fuel : Nat) (a0 : Int) (a1 : Int) (a2 : Int) (a3 : Int) (a4 : List AV) {R : F60R} (H : f60 o fuel a0 a1 a2 a3 a4 = some R) (K : AV → List Ent → Prop) (E : AV → List Ent → Prop) (h : K R.av R.hp) : CallA Try.prog 60 [.int .i64 a0, .int .i64 a1, .int .i64 a2, .int .i64 a3, .sl 1 a4 .no] [] K E := by
  refine call_wk fun K' hK => ?_
  refine call_keep (n₀ := 0) tab_ok Try.func60 rfl rfl rfl rfl ?_
  intro J hJ
  obtain rfl : o = J.o := by rw [ho, hJ]; rfl
  unfold f60 at H
  cbv
  repeat' (first
    | ((with_reducible first | refine awp_go2 ?_ | refine aops_go2 ?_ | refine strip_go2 ?_ | refine draw_go2 ?_ | refine frames_go2 ?_); cbv)
    | (with_reducible refine hold_go hJ ?_; cbv)
    | with_reducible exact id
    | exact trivial
    | with_reducible exact rfl
    | with_reducible exact ⟨_, rfl⟩
    | exact none_go H
    | (cases H; replace H := HX0; clear HX0; (try dsimp only at H))
    | (refine KeepQ.mk [] (by decide) ?_; cbv; cases H; refine hK _ _ _ _ ?_ ?_ rfl h <;> cbv)
    | (refine hN0 _ _ _ _ _ H ?_; with_reducible refine wkEnv_go2 ?_; cbv)
    | (refine ifB_go H ?_ ?_ <;> clear H <;> intro hh H)
    | (refine ifB_og H ?_ ?_ <;> clear H <;> intro hh H)
    | (refine req_go H ?_; clear H; intro hh H)
    | (refine gg_t ho H ?_ ?_ <;> clear H <;> intro hh H)
    | (refine gg_f ho H ?_ ?_ <;> clear H <;> intro hh H)
    | (refine bit_go ho H ?_ ?_ <;> clear H <;> intro hh H; (all_goals cbv))
    | (refine nil_go H ?_; clear H; intro b H; cbv)
    | (refine tok_go ?_; cbv)
    | (refine sh2_get H ?_; clear H; intro _ he H; cbv)
    | (refine sh2_find H ?_ ?_ <;> clear H; (intro _ H; cbv); rotate_left; (intro H; cbv))
    | (refine getA_go (β := UInt8) H ?_; clear H; intro e H; cbv)
    | (refine f60_l0_go hJ (o := J.o) rfl H (by decide) (Turn.trans (turn_tip 1 3 2 rfl rfl (leN_t rfl)) (Turn.le ⟨?_, ?_, rfl, rfl⟩ (leN_t rfl))) ?_
       · cbv
         repeat' (first | exact trivial | exact rfl | apply And.intro)
       · cbv
         repeat' (first | exact trivial | exact rfl | apply And.intro)
       clear H
       intro X0 HX0 n _ _ _ H Nx0 hN0
       rw [f60_l0] at H
       cbv)
    | (refine lit_t ?_; cbv)
    | (refine lit_f ?_; cbv)
    | (refine known_t (by assumption) ?_)
    | (refine known_f (by assumption) ?_)
    | (refine known_x (by assumption) ?_)
    | (refine known_y (by assumption) ?_)
    | (refine known_get (by assumption) ?_; cbv)
    | (refine known_and (by assumption) ?_)
    | with_reducible refine And.intro ?_ ?_
    | (intro hh; exact hh)
    | (intro _; assumption)
    | (intro hx; first | exact tf_absurd hx (by assumption) | exact tf_absurd (by assumption) hx)
    | (intro _; clear H h; (try clear hN0); (try clear HX0); simp only [ho, stdOps] at *; simp_all)
    | (cbv; with_reducible refine hold_go hJ ?_; cbv))

/-! (*pontoon/sink.Sink).none -/
inductive F70R where
  | v0 (y0 : Bool)
def F70R.av : F70R → AV
  | .v0 y0 => .bool y0
def F70R.hp (a0 : Nat) (a1 : Int) (a2 : Int) (a3 : List AV) (a4 : List AV) (a5 : List (AV × AV)) (a6 : List (AV × AV)) : F70R → List Ent
  | .v0 _ => [.var [.int .i64 a1, .int .i64 a2, .sl 2 a3 (.tip 1 a0), .sl 1 a4 .no, .mp 2, .mp 3], .tip a0, .mp a5, .mp a6]
noncomputable def f70 (o : Ops) (_fuel : Nat) (_a0 : Nat) (_a1 : Int) (_a2 : Int) (_a3 : List AV) (_a4 : List AV) (_a5 : List (AV × AV)) (_a6 : List (AV × AV)) : Option F70R :=
  some (.v0 (o.pick false true false))
set_option maxHeartbeats 4000000 in
set_option maxRecDepth 100000 in
theorem f70_call (o : Ops) (ho : o = stdOps) (fuel : Nat) (a0 : Nat) (a1 : Int) (a2 : Int) (a3 : List AV) (a4 : List AV) (a5 : List (AV × AV)) (a6 : List (AV × AV)) {R : F70R} (H : f70 o fuel a0 a1 a2 a3 a4 a5 a6 = some R) (K : AV → List Ent → Prop) (E : AV → List Ent → Prop) (h : K R.av (F70R.hp a0 a1 a2 a3 a4 a5 a6 R)) : CallA Try.prog 70 [.ptr 0 0] [.var [.int .i64 a1, .int .i64 a2, .sl 2 a3 (.tip 1 a0), .sl 1 a4 .no, .mp 2, .mp 3], .tip a0, .mp a5, .mp a6] K E := by
  refine call_wk fun K' hK => ?_
  refine call_keep (n₀ := 4) tab_ok Try.func70 rfl rfl rfl rfl ?_
  intro J hJ
  obtain rfl : o = J.o := by rw [ho, hJ]; rfl
  unfold f70 at H
  cbv
  repeat' (first
    | ((with_reducible first | refine awp_go2 ?_ | refine aops_go2 ?_ | refine strip_go2 ?_ | refine draw_go2 ?_ | refine frames_go2 ?_); cbv)
    | (with_reducible refine hold_go hJ ?_; cbv)
    | with_reducible exact id
    | exact trivial
    | with_reducible exact rfl
    | with_reducible exact ⟨_, rfl⟩
    | exact none_go H
    | (refine KeepQ.mk [] (by decide) ?_; cbv; cases H; refine hK _ _ _ _ ?_ ?_ rfl h <;> cbv)
    | (refine ifB_go H ?_ ?_ <;> clear H <;> intro hh H)
    | (refine ifB_og H ?_ ?_ <;> clear H <;> intro hh H)
    | (refine req_go H ?_; clear H; intro hh H)
    | (refine gg_t ho H ?_ ?_ <;> clear H <;> intro hh H)
    | (refine gg_f ho H ?_ ?_ <;> clear H <;> intro hh H)
    | (refine bit_go ho H ?_ ?_ <;> clear H <;> intro hh H; (all_goals cbv))
    | (refine nil_go H ?_; clear H; intro b H; cbv)
    | (refine tok_go ?_; cbv)
    | (refine getA_go (β := UInt8) H ?_; clear H; intro e H; cbv)
    | (refine lit_t ?_; cbv)
    | (refine lit_f ?_; cbv)
    | (refine known_t (by assumption) ?_)
    | (refine known_f (by assumption) ?_)
    | (refine known_x (by assumption) ?_)
    | (refine known_y (by assumption) ?_)
    | (refine known_get (by assumption) ?_; cbv)
    | (refine known_and (by assumption) ?_)
    | with_reducible refine And.intro ?_ ?_
    | (intro hh; exact hh)
    | (intro _; assumption)
    | (intro hx; first | exact tf_absurd hx (by assumption) | exact tf_absurd (by assumption) hx)
    | (intro _; clear H h; simp only [ho, stdOps] at *; simp_all)
    | (cbv; with_reducible refine hold_go hJ ?_; cbv))

/-! pontoon/sink.pos -/
inductive F86R where
  | v0 (y0 : Bool)
def F86R.av : F86R → AV
  | .v0 y0 => .bool y0
def F86R.hp : F86R → List Ent
  | .v0 _ => []
noncomputable def f86 (o : Ops) (_fuel : Nat) (a0 : Int) : Option F86R :=
  some (.v0 (o.pick (o.cmp .geq a0 1) (o.cmp .leq a0 9007199254740992) false))
set_option maxHeartbeats 4000000 in
set_option maxRecDepth 100000 in
theorem f86_call (o : Ops) (ho : o = stdOps) (fuel : Nat) (a0 : Int) {R : F86R} (H : f86 o fuel a0 = some R) (K : AV → List Ent → Prop) (E : AV → List Ent → Prop) (h : K R.av R.hp) : CallA Try.prog 86 [.int .i64 a0] [] K E := by
  refine call_wk fun K' hK => ?_
  refine call_keep (n₀ := 0) tab_ok Try.func86 rfl rfl rfl rfl ?_
  intro J hJ
  obtain rfl : o = J.o := by rw [ho, hJ]; rfl
  unfold f86 at H
  cbv
  repeat' (first
    | ((with_reducible first | refine awp_go2 ?_ | refine aops_go2 ?_ | refine strip_go2 ?_ | refine draw_go2 ?_ | refine frames_go2 ?_); cbv)
    | (with_reducible refine hold_go hJ ?_; cbv)
    | with_reducible exact id
    | exact trivial
    | with_reducible exact rfl
    | with_reducible exact ⟨_, rfl⟩
    | exact none_go H
    | (refine KeepQ.mk [] (by decide) ?_; cbv; cases H; refine hK _ _ _ _ ?_ ?_ rfl h <;> cbv)
    | (refine ifB_go H ?_ ?_ <;> clear H <;> intro hh H)
    | (refine ifB_og H ?_ ?_ <;> clear H <;> intro hh H)
    | (refine req_go H ?_; clear H; intro hh H)
    | (refine gg_t ho H ?_ ?_ <;> clear H <;> intro hh H)
    | (refine gg_f ho H ?_ ?_ <;> clear H <;> intro hh H)
    | (refine bit_go ho H ?_ ?_ <;> clear H <;> intro hh H; (all_goals cbv))
    | (refine nil_go H ?_; clear H; intro b H; cbv)
    | (refine tok_go ?_; cbv)
    | (refine getA_go (β := UInt8) H ?_; clear H; intro e H; cbv)
    | (refine lit_t ?_; cbv)
    | (refine lit_f ?_; cbv)
    | (refine known_t (by assumption) ?_)
    | (refine known_f (by assumption) ?_)
    | (refine known_x (by assumption) ?_)
    | (refine known_y (by assumption) ?_)
    | (refine known_get (by assumption) ?_; cbv)
    | (refine known_and (by assumption) ?_)
    | with_reducible refine And.intro ?_ ?_
    | (intro hh; exact hh)
    | (intro _; assumption)
    | (intro hx; first | exact tf_absurd hx (by assumption) | exact tf_absurd (by assumption) hx)
    | (intro _; clear H h; simp only [ho, stdOps] at *; simp_all)
    | (cbv; with_reducible refine hold_go hJ ?_; cbv))

/-! pontoon/sink.counts$1 -/
inductive F141R where
  | v0 (y0 : Bool)
def F141R.av : F141R → AV
  | .v0 y0 => .bool y0
def F141R.hp : F141R → List Ent
  | .v0 _ => []
noncomputable def f141 (o : Ops) (_fuel : Nat) (a0 : Int) : Option F141R :=
  some (.v0 (o.pick (o.cmp .lss a0 0) true (o.cmp .gtr a0 9007199254740992)))
set_option maxHeartbeats 4000000 in
set_option maxRecDepth 100000 in
theorem f141_call (o : Ops) (ho : o = stdOps) (fuel : Nat) (a0 : Int) {R : F141R} (H : f141 o fuel a0 = some R) (K : AV → List Ent → Prop) (E : AV → List Ent → Prop) (h : K R.av R.hp) : CallA Try.prog 141 [.int .i64 a0] [] K E := by
  refine call_wk fun K' hK => ?_
  refine call_keep (n₀ := 0) tab_ok Try.func141 rfl rfl rfl rfl ?_
  intro J hJ
  obtain rfl : o = J.o := by rw [ho, hJ]; rfl
  unfold f141 at H
  cbv
  repeat' (first
    | ((with_reducible first | refine awp_go2 ?_ | refine aops_go2 ?_ | refine strip_go2 ?_ | refine draw_go2 ?_ | refine frames_go2 ?_); cbv)
    | (with_reducible refine hold_go hJ ?_; cbv)
    | with_reducible exact id
    | exact trivial
    | with_reducible exact rfl
    | with_reducible exact ⟨_, rfl⟩
    | exact none_go H
    | (refine KeepQ.mk [] (by decide) ?_; cbv; cases H; refine hK _ _ _ _ ?_ ?_ rfl h <;> cbv)
    | (refine ifB_go H ?_ ?_ <;> clear H <;> intro hh H)
    | (refine ifB_og H ?_ ?_ <;> clear H <;> intro hh H)
    | (refine req_go H ?_; clear H; intro hh H)
    | (refine gg_t ho H ?_ ?_ <;> clear H <;> intro hh H)
    | (refine gg_f ho H ?_ ?_ <;> clear H <;> intro hh H)
    | (refine bit_go ho H ?_ ?_ <;> clear H <;> intro hh H; (all_goals cbv))
    | (refine nil_go H ?_; clear H; intro b H; cbv)
    | (refine tok_go ?_; cbv)
    | (refine getA_go (β := UInt8) H ?_; clear H; intro e H; cbv)
    | (refine lit_t ?_; cbv)
    | (refine lit_f ?_; cbv)
    | (refine known_t (by assumption) ?_)
    | (refine known_f (by assumption) ?_)
    | (refine known_x (by assumption) ?_)
    | (refine known_y (by assumption) ?_)
    | (refine known_get (by assumption) ?_; cbv)
    | (refine known_and (by assumption) ?_)
    | with_reducible refine And.intro ?_ ?_
    | (intro hh; exact hh)
    | (intro _; assumption)
    | (intro hx; first | exact tf_absurd hx (by assumption) | exact tf_absurd (by assumption) hx)
    | (intro _; clear H h; simp only [ho, stdOps] at *; simp_all)
    | (cbv; with_reducible refine hold_go hJ ?_; cbv))

/-! slices.IndexFunc[[]int64,int64] -/
inductive F159R where
  | v0 (y0 : Int)
def F159R.av : F159R → AV
  | .v0 y0 => .int .i64 y0
def F159R.hp : F159R → List Ent
  | .v0 _ => []
inductive F159L0 where
  | x0 (y0 : Int)
  | x1 
noncomputable def f159_l0 (o : Ops) (fuel : Nat) (a0 : List AV) : Nat → Int → Option F159L0
  | 0, _ => none
  | n + 1, w3 =>
    ifB (o.cmp .lss w3 (o.len a0))
    (req (o.inb w3 (o.len a0)) <|
     getA (o.get a0 w3) fun e => sh2 e fun v4 =>
     bindR (f141 o fuel v4) fun r => match r with
     | .v0 r5 => ifB r5
       (some (.x0 w3))
       (f159_l0 o fuel a0 n (o.ar .add .i64 w3 1)))
    (some (.x1 ))
theorem f159_l0_go {J : Jd} {n₀ : Nat} (hJ : J = std Try.prog n₀) {o : Ops} (hJo : J.o = o) {fuel : Nat} {a0 : List AV} {w3i : Int} {α : Type} {k : F159L0 → Option α} {r : α} {c : Code} {Q : Ex → St → Prop} {s : St}
    (H : bindR (f159_l0 o fuel a0 fuel w3i) k = some r) (hn : n₀ ≤ 0) (hle : Le s ⟨[(8, .int .i64 w3i), (7, .int .i64 (o.len a0)), (1, .func 141 []), (0, .sl 1 a0 .no)], [], 19⟩)
    (round : ∀ X, k X = some r → ∀ (n : Nat) (w3 : Int), f159_l0 o fuel a0 (n + 1) w3 = some X → ∀ N : St → Prop,
      (∀ (env : List (Nat × AV)) (w3' : Int) (v : List Ent), f159_l0 o fuel a0 n w3' = some X → wkEnv env [(8, .int .i64 w3'), (7, .int .i64 (o.len a0)), (1, .func 141 []), (0, .sl 1 a0 .no)] → N ⟨env, [] ++ v, 19⟩) → awp J tab c (thenQ N Q) ⟨[(8, .int .i64 w3), (7, .int .i64 (o.len a0)), (1, .func 141 []), (0, .sl 1 a0 .no)], [], 19⟩) : J.code (.loop c) Q s := by
  subst hJo
  obtain ⟨X, hX, HX⟩ := bindR_go H
  refine loop_at (β := Nat × Int) hJ tab_ok (fun | (_, w3) => ⟨[(8, .int .i64 w3), (7, .int .i64 (J.o.len a0)), (1, .func 141 []), (0, .sl 1 a0 .no)], [], 19⟩) (fun | (n, w3) => f159_l0 J.o fuel a0 n w3 = some X) (fun | (n, _) => n) (fuel, w3i) hX hle (by rintro ⟨_, _⟩; exact hn) ?_
  rintro ⟨n, w3⟩ hb N hN
  rcases n with _ | n
  · exact none_go (show (none : Option F159L0) = some X from hb)
  exact round X HX n w3 hb N fun env w3' v h1 h2 => hN _ (n, w3') h1 (Nat.lt_succ_self n) ⟨h2, by first | (cbv; done) | (cbv; repeat' (first | exact trivial | exact rfl | apply And.intro)), rfl, rfl⟩

noncomputable def f159 (o : Ops) (fuel : Nat) (a0 : List AV) : Option F159R :=
  bindR (f159_l0 o fuel a0 fuel 0) fun r => match r with
  | .x0 y6 => some (.v0 y6)
  | .x1  => some (.v0 (-1))
set_option maxHeartbeats 4000000 in
set_option maxRecDepth 100000 in
theorem f159_call (o : Ops) (ho : o = stdOps) (fuel : Nat) (a0 : List AV) {R : F159R} (H : f159 o fuel a0 = some R) (K : AV → List Ent → Prop) (E : AV → List Ent → Prop) (h : K R.av R.hp) : CallA Try.prog 159 [.sl 1 a0 .no, .func 141 []] [] K E := by
  refine call_wk fun K' hK => ?_
  refine call_keep (n₀ := 0) tab_ok Try.func159 rfl rfl rfl rfl ?_
  intro J hJ
  obtain rfl : o = J.o := by rw [ho, hJ]; rfl
  unfold f159 at H
  cbv
  repeat' (first
    | ((with_reducible first | refine awp_go2 ?_ | refine aops_go2 ?_ | refine strip_go2 ?_ | refine draw_go2 ?_ | refine frames_go2 ?_); cbv)
    | (with_reducible refine hold_go hJ ?_; cbv)
    | with_reducible exact id
    | exact trivial
    | with_reducible exact rfl
    | with_reducible exact ⟨_, rfl⟩
    | exact none_go H
    | (cases H; replace H := HX0; clear HX0; (try dsimp only at H))
    | (refine KeepQ.mk [] (by decide) ?_; cbv; cases H; refine hK _ _ _ _ ?_ ?_ rfl h <;> cbv)
    | (refine hN0 _ _ _ H ?_; with_reducible refine wkEnv_go2 ?_; cbv)
    | (refine ifB_go H ?_ ?_ <;> clear H <;> intro hh H)
    | (refine ifB_og H ?_ ?_ <;> clear H <;> intro hh H)
    | (refine req_go H ?_; clear H; intro hh H)
    | (refine gg_t ho H ?_ ?_ <;> clear H <;> intro hh H)
    | (refine gg_f ho H ?_ ?_ <;> clear H <;> intro hh H)
    | (refine bit_go ho H ?_ ?_ <;> clear H <;> intro hh H; (all_goals cbv))
    | (refine nil_go H ?_; clear H; intro b H; cbv)
    | (refine tok_go ?_; cbv)
    | (refine sh2_get H ?_; clear H; intro _ he H; cbv)
    | (refine sh2_find H ?_ ?_ <;> clear H; (intro _ H; cbv); rotate_left; (intro H; cbv))
    | (refine getA_go (β := UInt8) H ?_; clear H; intro e H; cbv)
    | (obtain ⟨R, hR, H2⟩ := bindR_go H; refine call_in hJ [] (by decide) rfl rfl rfl (f141_call _ ho _ _ hR _ _ ?_); clear H hR; rcases R with ⟨_⟩; all_goals (replace H := H2; clear H2; (try dsimp only at H); cbv))
    | (refine f159_l0_go hJ (o := J.o) rfl H (by decide) ⟨?_, ?_, rfl, rfl⟩ ?_
       · cbv
         repeat' (first | exact trivial | exact rfl | apply And.intro)
       · cbv
         repeat' (first | exact trivial | exact rfl | apply And.intro)
       clear H
       intro X0 HX0 n _ H Nx0 hN0
       rw [f159_l0] at H
       cbv)
    | (refine lit_t ?_; cbv)
    | (refine lit_f ?_; cbv)
    | (refine known_t (by assumption) ?_)
    | (refine known_f (by assumption) ?_)
    | (refine known_x (by assumption) ?_)
    | (refine known_y (by assumption) ?_)
    | (refine known_get (by assumption) ?_; cbv)
    | (refine known_and (by assumption) ?_)
    | with_reducible refine And.intro ?_ ?_
    | (intro hh; exact hh)
    | (intro _; assumption)
    | (intro hx; first | exact tf_absurd hx (by assumption) | exact tf_absurd (by assumption) hx)
    | (intro _; clear H h; (try clear hN0); (try clear HX0); simp only [ho, stdOps] at *; simp_all)
    | (cbv; with_reducible refine hold_go hJ ?_; cbv))

/-! slices.ContainsFunc[[]int64,int64] -/
inductive F140R where
  | v0 (y0 : Bool)
def F140R.av : F140R → AV
  | .v0 y0 => .bool y0
def F140R.hp : F140R → List Ent
  | .v0 _ => []
noncomputable def f140 (o : Ops) (fuel : Nat) (a0 : List AV) : Option F140R :=
  bindR (f159 o fuel a0) fun r => match r with
  | .v0 r1 => some (.v0 (o.cmp .geq r1 0))
set_option maxHeartbeats 4000000 in
set_option maxRecDepth 100000 in
theorem f140_call (o : Ops) (ho : o = stdOps) (fuel : Nat) (a0 : List AV) {R : F140R} (H : f140 o fuel a0 = some R) (K : AV → List Ent → Prop) (E : AV → List Ent → Prop) (h : K R.av R.hp) : CallA Try.prog 140 [.sl 1 a0 .no, .func 141 []] [] K E := by
  refine call_wk fun K' hK => ?_
  refine call_keep (n₀ := 0) tab_ok Try.func140 rfl rfl rfl rfl ?_
  intro J hJ
  obtain rfl : o = J.o := by rw [ho, hJ]; rfl
  unfold f140 at H
  cbv
  repeat' (first
    | ((with_reducible first | refine awp_go2 ?_ | refine aops_go2 ?_ | refine strip_go2 ?_ | refine draw_go2 ?_ | refine frames_go2 ?_); cbv)
    | (with_reducible refine hold_go hJ ?_; cbv)
    | with_reducible exact id
    | exact trivial
    | with_reducible exact rfl
    | with_reducible exact ⟨_, rfl⟩
    | exact none_go H
    | (refine KeepQ.mk [] (by decide) ?_; cbv; cases H; refine hK _ _ _ _ ?_ ?_ rfl h <;> cbv)
    | (refine ifB_go H ?_ ?_ <;> clear H <;> intro hh H)
    | (refine ifB_og H ?_ ?_ <;> clear H <;> intro hh H)
    | (refine req_go H ?_; clear H; intro hh H)
    | (refine gg_t ho H ?_ ?_ <;> clear H <;> intro hh H)
    | (refine gg_f ho H ?_ ?_ <;> clear H <;> intro hh H)
    | (refine bit_go ho H ?_ ?_ <;> clear H <;> intro hh H; (all_goals cbv))
    | (refine nil_go H ?_; clear H; intro b H; cbv)
    | (refine tok_go ?_; cbv)
    | (refine getA_go (β := UInt8) H ?_; clear H; intro e H; cbv)
    | (obtain ⟨R, hR, H2⟩ := bindR_go H; refine call_in hJ [] (by decide) rfl rfl rfl (f159_call _ ho _ _ hR _ _ ?_); clear H hR; rcases R with ⟨_⟩; all_goals (replace H := H2; clear H2; (try dsimp only at H); cbv))
    | (refine lit_t ?_; cbv)
    | (refine lit_f ?_; cbv)
    | (refine known_t (by assumption) ?_)
    | (refine known_f (by assumption) ?_)
    | (refine known_x (by assumption) ?_)
    | (refine known_y (by assumption) ?_)
    | (refine known_get (by assumption) ?_; cbv)
    | (refine known_and (by assumption) ?_)
    | with_reducible refine And.intro ?_ ?_
    | (intro hh; exact hh)
    | (intro _; assumption)
    | (intro hx; first | exact tf_absurd hx (by assumption) | exact tf_absurd (by assumption) hx)
    | (intro _; clear H h; simp only [ho, stdOps] at *; simp_all)
    | (cbv; with_reducible refine hold_go hJ ?_; cbv))

/-! pontoon/sink.counts -/
inductive F100R where
  | v0 (y0 : Bool)
def F100R.av : F100R → AV
  | .v0 y0 => .bool y0
def F100R.hp : F100R → List Ent
  | .v0 _ => []
noncomputable def f100 (o : Ops) (fuel : Nat) (a0 : List AV) (a1 : Int) : Option F100R :=
  ifB (o.cmp .eql (o.len a0) a1)
  (bindR (f140 o fuel a0) fun r => match r with
   | .v0 r2 => some (.v0 (o.bnot r2)))
  (some (.v0 false))
set_option maxHeartbeats 4000000 in
set_option maxRecDepth 100000 in
theorem f100_call (o : Ops) (ho : o = stdOps) (fuel : Nat) (a0 : List AV) (a1 : Int) {R : F100R} (H : f100 o fuel a0 a1 = some R) (K : AV → List Ent → Prop) (E : AV → List Ent → Prop) (h : K R.av R.hp) : CallA Try.prog 100 [.sl 1 a0 .no, .int .i64 a1] [] K E := by
  refine call_wk fun K' hK => ?_
  refine call_keep (n₀ := 0) tab_ok Try.func100 rfl rfl rfl rfl ?_
  intro J hJ
  obtain rfl : o = J.o := by rw [ho, hJ]; rfl
  unfold f100 at H
  cbv
  repeat' (first
    | ((with_reducible first | refine awp_go2 ?_ | refine aops_go2 ?_ | refine strip_go2 ?_ | refine draw_go2 ?_ | refine frames_go2 ?_); cbv)
    | (with_reducible refine hold_go hJ ?_; cbv)
    | with_reducible exact id
    | exact trivial
    | with_reducible exact rfl
    | with_reducible exact ⟨_, rfl⟩
    | exact none_go H
    | (refine KeepQ.mk [] (by decide) ?_; cbv; cases H; refine hK _ _ _ _ ?_ ?_ rfl h <;> cbv)
    | (refine ifB_go H ?_ ?_ <;> clear H <;> intro hh H)
    | (refine ifB_og H ?_ ?_ <;> clear H <;> intro hh H)
    | (refine req_go H ?_; clear H; intro hh H)
    | (refine gg_t ho H ?_ ?_ <;> clear H <;> intro hh H)
    | (refine gg_f ho H ?_ ?_ <;> clear H <;> intro hh H)
    | (refine bit_go ho H ?_ ?_ <;> clear H <;> intro hh H; (all_goals cbv))
    | (refine nil_go H ?_; clear H; intro b H; cbv)
    | (refine tok_go ?_; cbv)
    | (refine getA_go (β := UInt8) H ?_; clear H; intro e H; cbv)
    | (obtain ⟨R, hR, H2⟩ := bindR_go H; refine call_in hJ [] (by decide) rfl rfl rfl (f140_call _ ho _ _ hR _ _ ?_); clear H hR; rcases R with ⟨_⟩; all_goals (replace H := H2; clear H2; (try dsimp only at H); cbv))
    | (refine lit_t ?_; cbv)
    | (refine lit_f ?_; cbv)
    | (refine known_t (by assumption) ?_)
    | (refine known_f (by assumption) ?_)
    | (refine known_x (by assumption) ?_)
    | (refine known_y (by assumption) ?_)
    | (refine known_get (by assumption) ?_; cbv)
    | (refine known_and (by assumption) ?_)
    | with_reducible refine And.intro ?_ ?_
    | (intro hh; exact hh)
    | (intro _; assumption)
    | (intro hx; first | exact tf_absurd hx (by assumption) | exact tf_absurd (by assumption) hx)
    | (intro _; clear H h; simp only [ho, stdOps] at *; simp_all)
    | (cbv; with_reducible refine hold_go hJ ?_; cbv))

end Go.Proofs.Ytjdbmfipciadfaa.A
