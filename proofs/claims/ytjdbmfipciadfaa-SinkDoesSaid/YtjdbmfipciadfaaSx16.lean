/- Functions of the program and of the document's answer, as plain ones. Written by lift.py. -/
import Derived.Test.YtjdbmfipciadfaaSx0

namespace Go.Proofs.Ytjdbmfipciadfaa.A
open Go Go.Pt

/-! slices.Max[[]int64,int64] -/
inductive F101R where
  | v0 (y0 : Int)
def F101R.av : F101R → AV
  | .v0 y0 => .int .i64 y0
def F101R.hp : F101R → List Ent
  | .v0 _ => []
inductive F101L0 where
  | x0 (y0 : Int)
noncomputable def f101_l0 (o : Ops) (fuel : Nat) (a0 : List AV) : Nat → Int → Int → Option F101L0
  | 0, _, _ => none
  | n + 1, w3, w4 =>
    ifB (o.cmp .lss w4 (o.len a0))
    (req (o.inb w4 (o.len a0)) <|
     getA (o.get a0 w4) fun e => sh2 e fun v5 =>
     f101_l0 o fuel a0 n (o.mx w3 v5) (o.ar .add .i64 w4 1))
    (some (.x0 w3))
theorem f101_l0_go {J : Jd} {n₀ : Nat} (hJ : J = std Try.prog n₀) {o : Ops} (hJo : J.o = o) {fuel : Nat} {a0 : List AV} {w3i : Int} {w4i : Int} {α : Type} {k : F101L0 → Option α} {r : α} {c : Code} {Q : Ex → St → Prop} {s : St}
    (H : bindR (f101_l0 o fuel a0 fuel w3i w4i) k = some r) (hn : n₀ ≤ 0) (hle : Le s ⟨[(4, .int .i64 w4i), (3, .int .i64 w3i), (0, .sl 1 a0 .no)], [], 25⟩)
    (round : ∀ X, k X = some r → ∀ (n : Nat) (w3 : Int) (w4 : Int), f101_l0 o fuel a0 (n + 1) w3 w4 = some X → ∀ N : St → Prop,
      (∀ (env : List (Nat × AV)) (w3' : Int) (w4' : Int) (v : List Ent), f101_l0 o fuel a0 n w3' w4' = some X → wkEnv env [(4, .int .i64 w4'), (3, .int .i64 w3'), (0, .sl 1 a0 .no)] → N ⟨env, [] ++ v, 25⟩) → awp J tab c (thenQ N Q) ⟨[(4, .int .i64 w4), (3, .int .i64 w3), (0, .sl 1 a0 .no)], [], 25⟩) : J.code (.loop c) Q s := by
  subst hJo
  obtain ⟨X, hX, HX⟩ := bindR_go H
  refine loop_at (β := Nat × Int × Int) hJ tab_ok (fun | (_, w3, w4) => ⟨[(4, .int .i64 w4), (3, .int .i64 w3), (0, .sl 1 a0 .no)], [], 25⟩) (fun | (n, w3, w4) => f101_l0 J.o fuel a0 n w3 w4 = some X) (fun | (n, _, _) => n) (fuel, w3i, w4i) hX hle (by rintro ⟨_, _, _⟩; exact hn) ?_
  rintro ⟨n, w3, w4⟩ hb N hN
  rcases n with _ | n
  · exact none_go (show (none : Option F101L0) = some X from hb)
  exact round X HX n w3 w4 hb N fun env w3' w4' v h1 h2 => hN _ (n, w3', w4') h1 (Nat.lt_succ_self n) ⟨h2, by first | (cbv; done) | (cbv; repeat' (first | exact trivial | exact rfl | apply And.intro)), rfl, rfl⟩

noncomputable def f101 (o : Ops) (fuel : Nat) (a0 : List AV) : Option F101R :=
  ifB (o.cmp .lss (o.len a0) 1)
  (none)
  (req (o.inb 0 (o.len a0)) <|
   getA (o.get a0 0) fun e => sh2 e fun v1 =>
   bindR (f101_l0 o fuel a0 fuel v1 1) fun r => match r with
   | .x0 y6 => some (.v0 y6))
set_option maxHeartbeats 4000000 in
set_option maxRecDepth 100000 in
theorem f101_call (o : Ops) (ho : o = stdOps) (fuel : Nat) (a0 : List AV) {R : F101R} (H : f101 o fuel a0 = some R) (K : AV → List Ent → Prop) (E : AV → List Ent → Prop) (h : K R.av R.hp) : CallA Try.prog 101 [.sl 1 a0 .no] [] K E := by
  refine call_wk fun K' hK => ?_
  refine call_keep (n₀ := 0) tab_ok Try.func101 rfl rfl rfl rfl ?_
  intro J hJ
  obtain rfl : o = J.o := by rw [ho, hJ]; rfl
  unfold f101 at H
  cbv
  repeat' (first
    | ((with_reducible first | refine awp_go2 ?_ | refine aops_go2 ?_ | refine strip_go2 ?_ | refine draw_go2 ?_ | refine frames_go2 ?_); cbv)
    | (with_reducible refine hold_go hJ ?_; cbv)
    | with_reducible exact id
    | exact trivial
    | with_reducible exact rfl
    | with_reducible exact ⟨_, rfl⟩
    | exact none_go H
    | (cases H; replace H := HX0; clear HX0; (try dsimp only at H))
    | (refine KeepQ.mk [] (by decide) ?_; cbv; cases H; refine hK _ _ _ _ ?_ ?_ rfl h <;> cbv)
    | (refine hN0 _ _ _ _ H ?_; with_reducible refine wkEnv_go2 ?_; cbv)
    | (refine ifB_go H ?_ ?_ <;> clear H <;> intro hh H)
    | (refine ifB_og H ?_ ?_ <;> clear H <;> intro hh H)
    | (refine req_go H ?_; clear H; intro hh H)
    | (refine gg_t ho H ?_ ?_ <;> clear H <;> intro hh H)
    | (refine gg_f ho H ?_ ?_ <;> clear H <;> intro hh H)
    | (refine bit_go ho H ?_ ?_ <;> clear H <;> intro hh H; (all_goals cbv))
    | (refine nil_go H ?_; clear H; intro b H; cbv)
    | (refine tok_go ?_; cbv)
    | (refine sh2_get H ?_; clear H; intro _ he H; cbv)
    | (refine sh2_find H ?_ ?_ <;> clear H; (intro _ H; cbv); rotate_left; (intro H; cbv))
    | (refine getA_go (β := UInt8) H ?_; clear H; intro e H; cbv)
    | (refine f101_l0_go hJ (o := J.o) rfl H (by decide) ⟨?_, ?_, rfl, rfl⟩ ?_
       · cbv
         repeat' (first | exact trivial | exact rfl | apply And.intro)
       · cbv
         repeat' (first | exact trivial | exact rfl | apply And.intro)
       clear H
       intro X0 HX0 n _ _ H Nx0 hN0
       rw [f101_l0] at H
       cbv)
    | (refine lit_t ?_; cbv)
    | (refine lit_f ?_; cbv)
    | (refine known_t (by assumption) ?_)
    | (refine known_f (by assumption) ?_)
    | (refine known_x (by assumption) ?_)
    | (refine known_y (by assumption) ?_)
    | (refine known_get (by assumption) ?_; cbv)
    | (refine known_and (by assumption) ?_)
    | with_reducible refine And.intro ?_ ?_
    | (intro hh; exact hh)
    | (intro _; assumption)
    | (intro hx; first | exact tf_absurd hx (by assumption) | exact tf_absurd (by assumption) hx)
    | (intro _; clear H h; (try clear hN0); (try clear HX0); simp only [ho, stdOps] at *; simp_all)
    | (cbv; with_reducible refine hold_go hJ ?_; cbv))

/-! slices.Clone[[]pontoon/api.Record,pontoon/api.Record] -/
inductive F79_1R where
  | v0 (y0 : List AV) (y1 : Nat)
def F79_1R.av : F79_1R → AV
  | .v0 y0 y1 => .sl 2 y0 (.tip 0 y1)
def F79_1R.hp : F79_1R → List Ent
  | .v0 _ y1 => [.tip y1]
noncomputable def f79_1 (o : Ops) (_fuel : Nat) (a0 : List AV) : Option F79_1R :=
  isNil a0 false fun b1 =>
  ifB b1
  (some (.v0 [] 0))
  (req (o.room [] a0 16) <|
   some (.v0 (o.apnd [] a0) (o.pos [] a0)))
set_option maxHeartbeats 4000000 in
set_option maxRecDepth 100000 in
theorem f79_1_call (o : Ops) (ho : o = stdOps) (fuel : Nat) (a0 : List AV) {R : F79_1R} (H : f79_1 o fuel a0 = some R) (K : AV → List Ent → Prop) (E : AV → List Ent → Prop) (h : K R.av R.hp) : CallA Try.prog 79 [.sl 2 a0 .no] [] K E := by
  refine call_wk fun K' hK => ?_
  refine call_keep (n₀ := 0) tab_ok Try.func79 rfl rfl rfl rfl ?_
  intro J hJ
  obtain rfl : o = J.o := by rw [ho, hJ]; rfl
  unfold f79_1 at H
  cbv
  repeat' (first
    | ((with_reducible first | refine awp_go2 ?_ | refine aops_go2 ?_ | refine strip_go2 ?_ | refine draw_go2 ?_ | refine frames_go2 ?_); cbv)
    | (with_reducible refine hold_go hJ ?_; cbv)
    | with_reducible exact id
    | exact trivial
    | with_reducible exact rfl
    | with_reducible exact ⟨_, rfl⟩
    | exact none_go H
    | (refine KeepQ.tn _ (by first | exact .inl rfl | exact .inr rfl) (turn_nile 2 2 rfl (leN_t rfl)) [0] (by decide) ?_; cbv; cases H; refine hK _ _ _ _ ?_ ?_ rfl h <;> cbv)
    | (refine KeepQ.mk [0] (by decide) ?_; cbv; cases H; refine hK _ _ _ _ ?_ ?_ rfl h <;> cbv)
    | (refine ifB_go H ?_ ?_ <;> clear H <;> intro hh H)
    | (refine ifB_og H ?_ ?_ <;> clear H <;> intro hh H)
    | (refine req_go H ?_; clear H; intro hh H)
    | (refine gg_t ho H ?_ ?_ <;> clear H <;> intro hh H)
    | (refine gg_f ho H ?_ ?_ <;> clear H <;> intro hh H)
    | (refine bit_go ho H ?_ ?_ <;> clear H <;> intro hh H; (all_goals cbv))
    | (refine nil_go H ?_; clear H; intro b H; cbv)
    | (refine tok_go ?_; cbv)
    | (refine getA_go (β := UInt8) H ?_; clear H; intro e H; cbv)
    | (refine lit_t ?_; cbv)
    | (refine lit_f ?_; cbv)
    | (refine known_t (by assumption) ?_)
    | (refine known_f (by assumption) ?_)
    | (refine known_x (by assumption) ?_)
    | (refine known_y (by assumption) ?_)
    | (refine known_get (by assumption) ?_; cbv)
    | (refine known_and (by assumption) ?_)
    | with_reducible refine And.intro ?_ ?_
    | (intro hh; exact hh)
    | (intro _; assumption)
    | (intro hx; first | exact tf_absurd hx (by assumption) | exact tf_absurd (by assumption) hx)
    | (intro _; clear H h; simp only [ho, stdOps] at *; simp_all)
    | (cbv; with_reducible refine hold_go hJ ?_; cbv))

end Go.Proofs.Ytjdbmfipciadfaa.A
