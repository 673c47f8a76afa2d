/- Functions of the program and of the document's answer, as plain ones. Written by lift.py. -/
import Derived.Test.YtjdbmfipciadfaaSx0
import Derived.Test.YtjdbmfipciadfaaSx2
import Derived.Test.YtjdbmfipciadfaaSx1

namespace Go.Proofs.Ytjdbmfipciadfaa.A
open Go Go.Pt

/-! pontoon/sink.Above -/
inductive F46R where
  | v0 (y0 : Bool)
def F46R.av : F46R → AV
  | .v0 y0 => .bool y0
def F46R.hp : F46R → List Ent
  | .v0 _ => []
inductive F46L0 where
  | x0 
  | x1 
noncomputable def f46_l0 (o : Ops) (fuel : Nat) (a0 : List AV) (a1 : List AV) : Nat → Int → Option F46L0
  | 0, _ => none
  | n + 1, w4 =>
    ifB (o.cmp .lss w4 (o.len a0))
    (req (o.inb w4 (o.len a0)) <|
     getA (o.get a0 w4) fun e => sh2 e fun v5 =>
     req (o.inb w4 (o.len a1)) <|
     getA (o.get a1 w4) fun e => sh2 e fun v6 =>
     ifB (o.cmp .lss v5 v6)
     (some (.x0 ))
     (f46_l0 o fuel a0 a1 n (o.ar .add .i64 w4 1)))
    (some (.x1 ))
theorem f46_l0_go {J : Jd} {n₀ : Nat} (hJ : J = std Try.prog n₀) {o : Ops} (hJo : J.o = o) {fuel : Nat} {a0 : List AV} {a1 : List AV} {w4i : Int} {α : Type} {k : F46L0 → Option α} {r : α} {c : Code} {Q : Ex → St → Prop} {s : St}
    (H : bindR (f46_l0 o fuel a0 a1 fuel w4i) k = some r) (hn : n₀ ≤ 0) (hle : Le s ⟨[(13, .int .i64 w4i), (12, .int .i64 (o.len a0)), (1, .sl 1 a1 .no), (0, .sl 1 a0 .no)], [], 26⟩)
    (round : ∀ X, k X = some r → ∀ (n : Nat) (w4 : Int), f46_l0 o fuel a0 a1 (n + 1) w4 = some X → ∀ N : St → Prop,
      (∀ (env : List (Nat × AV)) (w4' : Int) (v : List Ent), f46_l0 o fuel a0 a1 n w4' = some X → wkEnv env [(13, .int .i64 w4'), (12, .int .i64 (o.len a0)), (1, .sl 1 a1 .no), (0, .sl 1 a0 .no)] → N ⟨env, [] ++ v, 26⟩) → awp J tab c (thenQ N Q) ⟨[(13, .int .i64 w4), (12, .int .i64 (o.len a0)), (1, .sl 1 a1 .no), (0, .sl 1 a0 .no)], [], 26⟩) : J.code (.loop c) Q s := by
  subst hJo
  obtain ⟨X, hX, HX⟩ := bindR_go H
  refine loop_at (β := Nat × Int) hJ tab_ok (fun | (_, w4) => ⟨[(13, .int .i64 w4), (12, .int .i64 (J.o.len a0)), (1, .sl 1 a1 .no), (0, .sl 1 a0 .no)], [], 26⟩) (fun | (n, w4) => f46_l0 J.o fuel a0 a1 n w4 = some X) (fun | (n, _) => n) (fuel, w4i) hX hle (by rintro ⟨_, _⟩; exact hn) ?_
  rintro ⟨n, w4⟩ hb N hN
  rcases n with _ | n
  · exact none_go (show (none : Option F46L0) = some X from hb)
  exact round X HX n w4 hb N fun env w4' v h1 h2 => hN _ (n, w4') h1 (Nat.lt_succ_self n) ⟨h2, by first | (cbv; done) | (cbv; repeat' (first | exact trivial | exact rfl | apply And.intro)), rfl, rfl⟩

noncomputable def f46 (o : Ops) (fuel : Nat) (a0 : List AV) (a1 : List AV) : Option F46R :=
  ifB (o.bnot (o.cmp .eql (o.len a0) (o.len a1)))
  (some (.v0 false))
  (bindR (f46_l0 o fuel a0 a1 fuel 0) fun r => match r with
   | .x0  => some (.v0 false)
   | .x1  => some (.v0 true))
set_option maxHeartbeats 4000000 in
set_option maxRecDepth 100000 in
theorem f46_call (o : Ops) (ho : o = stdOps) (fuel : Nat) (a0 : List AV) (a1 : List AV) {R : F46R} (H : f46 o fuel a0 a1 = some R) (K : AV → List Ent → Prop) (E : AV → List Ent → Prop) (h : K R.av R.hp) : CallA Try.prog 46 [.sl 1 a0 .no, .sl 1 a1 .no] [] K E := by
  refine call_wk fun K' hK => ?_
  refine call_keep (n₀ := 0) tab_ok Try.func46 rfl rfl rfl rfl ?_
  intro J hJ
  obtain rfl : o = J.o := by rw [ho, hJ]; rfl
  unfold f46 at H
  cbv
  repeat' (first
    | ((with_reducible first | refine awp_go2 ?_ | refine aops_go2 ?_ | refine strip_go2 ?_ | refine draw_go2 ?_ | refine frames_go2 ?_); cbv)
    | (with_reducible refine hold_go hJ ?_; cbv)
    | with_reducible exact id
    | exact trivial
    | with_reducible exact rfl
    | with_reducible exact ⟨_, rfl⟩
    | exact none_go H
    | (cases H; replace H := HX0; clear HX0; (try dsimp only at H))
    | (refine KeepQ.mk [] (by decide) ?_; cbv; cases H; refine hK _ _ _ _ ?_ ?_ rfl h <;> cbv)
    | (refine hN0 _ _ _ H ?_; with_reducible refine wkEnv_go2 ?_; cbv)
    | (refine ifB_go H ?_ ?_ <;> clear H <;> intro hh H)
    | (refine ifB_og H ?_ ?_ <;> clear H <;> intro hh H)
    | (refine req_go H ?_; clear H; intro hh H)
    | (refine gg_t ho H ?_ ?_ <;> clear H <;> intro hh H)
    | (refine gg_f ho H ?_ ?_ <;> clear H <;> intro hh H)
    | (refine bit_go ho H ?_ ?_ <;> clear H <;> intro hh H; (all_goals cbv))
    | (refine nil_go H ?_; clear H; intro b H; cbv)
    | (refine tok_go ?_; cbv)
    | (refine sh2_get H ?_; clear H; intro _ he H; cbv)
    | (refine sh2_find H ?_ ?_ <;> clear H; (intro _ H; cbv); rotate_left; (intro H; cbv))
    | (refine getA_go (β := UInt8) H ?_; clear H; intro e H; cbv)
    | (refine f46_l0_go hJ (o := J.o) rfl H (by decide) ⟨?_, ?_, rfl, rfl⟩ ?_
       · cbv
         repeat' (first | exact trivial | exact rfl | apply And.intro)
       · cbv
         repeat' (first | exact trivial | exact rfl | apply And.intro)
       clear H
       intro X0 HX0 n _ H Nx0 hN0
       rw [f46_l0] at H
       cbv)
    | (refine lit_t ?_; cbv)
    | (refine lit_f ?_; cbv)
    | (refine known_t (by assumption) ?_)
    | (refine known_f (by assumption) ?_)
    | (refine known_x (by assumption) ?_)
    | (refine known_y (by assumption) ?_)
    | (refine known_get (by assumption) ?_; cbv)
    | (refine known_and (by assumption) ?_)
    | with_reducible refine And.intro ?_ ?_
    | (intro hh; exact hh)
    | (intro _; assumption)
    | (intro hx; first | exact tf_absurd hx (by assumption) | exact tf_absurd (by assumption) hx)
    | (intro _; clear H h; (try clear hN0); (try clear HX0); simp only [ho, stdOps] at *; simp_all)
    | (cbv; with_reducible refine hold_go hJ ?_; cbv))

/-! (*pontoon/sink.Sink).suits -/
inductive F75R where
  | v0 (y0 : Int)
def F75R.av : F75R → AV
  | .v0 y0 => .int .i64 y0
def F75R.hp (a0 : Nat) (a6 : Int) (a7 : Int) (a8 : List AV) (a9 : List AV) (a10 : List (AV × AV)) (a11 : List (AV × AV)) : F75R → List Ent
  | .v0 _ => [.var [.int .i64 a6, .int .i64 a7, .sl 2 a8 (.tip 1 a0), .sl 1 a9 .no, .mp 2, .mp 3], .tip a0, .mp a10, .mp a11]
noncomputable def f75 (o : Ops) (fuel : Nat) (_a0 : Nat) (_a1 : Int) (_a2 : Int) (a3 : Int) (a4 : List AV) (a5 : List AV) (_a6 : Int) (_a7 : Int) (a8 : List AV) (a9 : List AV) (_a10 : List (AV × AV)) (_a11 : List (AV × AV)) : Option F75R :=
  ifB (o.cmp .gtr a3 (o.len a8))
  (some (.v0 151))
  (bindR (f46 o fuel a5 a9) fun r => match r with
   | .v0 r12 => ifB (o.pick (o.bnot r12) true (o.cmp .lss (o.ar .add .i64 a3 (o.len a4)) (o.len a8)))
     (some (.v0 152))
     (req (o.le 0 a3) <|
      req (o.le a3 (o.len a8)) <|
      req (o.le 0 (o.ar .sub .i64 (o.len a8) a3)) <|
      req (o.le (o.ar .sub .i64 (o.len a8) a3) (o.len a4)) <|
      bindR (f28 o fuel (o.drop a8 a3) (o.sub a4 0 (o.ar .sub .i64 (o.len a8) a3))) fun r => match r with
      | .v0 r13 => ifB (o.bnot r13)
        (some (.v0 153))
        (ifB (o.cmp .gtr (o.ar .add .i64 a3 (o.len a4)) 4096)
         (some (.v0 30))
         (some (.v0 0)))))
set_option maxHeartbeats 4000000 in
set_option maxRecDepth 100000 in
theorem f75_call (o : Ops) (ho : o = stdOps) (fuel : Nat) (a0 : Nat) (a1 : Int) (a2 : Int) (a3 : Int) (a4 : List AV) (a5 : List AV) (a6 : Int) (a7 : Int) (a8 : List AV) (a9 : List AV) (a10 : List (AV × AV)) (a11 : List (AV × AV)) {R : F75R} (H : f75 o fuel a0 a1 a2 a3 a4 a5 a6 a7 a8 a9 a10 a11 = some R) (K : AV → List Ent → Prop) (E : AV → List Ent → Prop) (h : K R.av (F75R.hp a0 a6 a7 a8 a9 a10 a11 R)) : CallA Try.prog 75 [.ptr 0 0, .agg [.int .i64 a1, .int .i64 a2, .int .i64 a3, .sl 2 a4 .no, .sl 1 a5 .no]] [.var [.int .i64 a6, .int .i64 a7, .sl 2 a8 (.tip 1 a0), .sl 1 a9 .no, .mp 2, .mp 3], .tip a0, .mp a10, .mp a11] K E := by
  refine call_wk fun K' hK => ?_
  refine call_keep (n₀ := 4) tab_ok Try.func75 rfl rfl rfl rfl ?_
  intro J hJ
  obtain rfl : o = J.o := by rw [ho, hJ]; rfl
  unfold f75 at H
  cbv
  repeat' (first
    | ((with_reducible first | refine awp_go2 ?_ | refine aops_go2 ?_ | refine strip_go2 ?_ | refine draw_go2 ?_ | refine frames_go2 ?_); cbv)
    | (with_reducible refine hold_go hJ ?_; cbv)
    | with_reducible exact id
    | exact trivial
    | with_reducible exact rfl
    | with_reducible exact ⟨_, rfl⟩
    | exact none_go H
    | (refine KeepQ.mk [] (by decide) ?_; cbv; cases H; refine hK _ _ _ _ ?_ ?_ rfl h <;> cbv)
    | (refine ifB_go H ?_ ?_ <;> clear H <;> intro hh H)
    | (refine ifB_og H ?_ ?_ <;> clear H <;> intro hh H)
    | (refine req_go H ?_; clear H; intro hh H)
    | (refine gg_t ho H ?_ ?_ <;> clear H <;> intro hh H)
    | (refine gg_f ho H ?_ ?_ <;> clear H <;> intro hh H)
    | (refine bit_go ho H ?_ ?_ <;> clear H <;> intro hh H; (all_goals cbv))
    | (refine nil_go H ?_; clear H; intro b H; cbv)
    | (refine tok_go ?_; cbv)
    | (refine getA_go (β := UInt8) H ?_; clear H; intro e H; cbv)
    | (obtain ⟨R, hR, H2⟩ := bindR_go H; refine call_in hJ [] (by decide) rfl rfl rfl (f28_call _ ho _ _ _ hR _ _ ?_); clear H hR; rcases R with ⟨_⟩; all_goals (replace H := H2; clear H2; (try dsimp only at H); cbv))
    | (obtain ⟨R, hR, H2⟩ := bindR_go H; refine call_in hJ [] (by decide) rfl rfl rfl (f46_call _ ho _ _ _ hR _ _ ?_); clear H hR; rcases R with ⟨_⟩; all_goals (replace H := H2; clear H2; (try dsimp only at H); cbv))
    | (refine lit_t ?_; cbv)
    | (refine lit_f ?_; cbv)
    | (refine known_t (by assumption) ?_)
    | (refine known_f (by assumption) ?_)
    | (refine known_x (by assumption) ?_)
    | (refine known_y (by assumption) ?_)
    | (refine known_get (by assumption) ?_; cbv)
    | (refine known_and (by assumption) ?_)
    | with_reducible refine And.intro ?_ ?_
    | (intro hh; exact hh)
    | (intro _; assumption)
    | (intro hx; first | exact tf_absurd hx (by assumption) | exact tf_absurd (by assumption) hx)
    | (intro _; clear H h; simp only [ho, stdOps] at *; simp_all)
    | (cbv; with_reducible refine hold_go hJ ?_; cbv))

/-! slices.Clone[[]pontoon/api.Record,pontoon/api.Record] -/
inductive F79R where
  | v0 (y0 : List AV)
def F79R.av : F79R → AV
  | .v0 y0 => .sl 2 y0 .no
def F79R.hp : F79R → List Ent
  | .v0 _ => []
noncomputable def f79 (o : Ops) (_fuel : Nat) (a0 : List AV) : Option F79R :=
  isNil a0 false fun b1 =>
  ifB b1
  (some (.v0 []))
  (req (o.room [] a0 16) <|
   some (.v0 (o.apnd [] a0)))
set_option maxHeartbeats 4000000 in
set_option maxRecDepth 100000 in
theorem f79_call (o : Ops) (ho : o = stdOps) (fuel : Nat) (a0 : List AV) {R : F79R} (H : f79 o fuel a0 = some R) (K : AV → List Ent → Prop) (E : AV → List Ent → Prop) (h : K R.av R.hp) : CallA Try.prog 79 [.sl 2 a0 .no] [] K E := by
  refine call_wk fun K' hK => ?_
  refine call_keep (n₀ := 0) tab_ok Try.func79 rfl rfl rfl rfl ?_
  intro J hJ
  obtain rfl : o = J.o := by rw [ho, hJ]; rfl
  unfold f79 at H
  cbv
  repeat' (first
    | ((with_reducible first | refine awp_go2 ?_ | refine aops_go2 ?_ | refine strip_go2 ?_ | refine draw_go2 ?_ | refine frames_go2 ?_); cbv)
    | (with_reducible refine hold_go hJ ?_; cbv)
    | with_reducible exact id
    | exact trivial
    | with_reducible exact rfl
    | with_reducible exact ⟨_, rfl⟩
    | exact none_go H
    | (refine KeepQ.mk [] (by decide) ?_; cbv; cases H; refine hK _ _ _ _ ?_ ?_ rfl h <;> cbv)
    | (refine ifB_go H ?_ ?_ <;> clear H <;> intro hh H)
    | (refine ifB_og H ?_ ?_ <;> clear H <;> intro hh H)
    | (refine req_go H ?_; clear H; intro hh H)
    | (refine gg_t ho H ?_ ?_ <;> clear H <;> intro hh H)
    | (refine gg_f ho H ?_ ?_ <;> clear H <;> intro hh H)
    | (refine bit_go ho H ?_ ?_ <;> clear H <;> intro hh H; (all_goals cbv))
    | (refine nil_go H ?_; clear H; intro b H; cbv)
    | (refine tok_go ?_; cbv)
    | (refine getA_go (β := UInt8) H ?_; clear H; intro e H; cbv)
    | (refine lit_t ?_; cbv)
    | (refine lit_f ?_; cbv)
    | (refine known_t (by assumption) ?_)
    | (refine known_f (by assumption) ?_)
    | (refine known_x (by assumption) ?_)
    | (refine known_y (by assumption) ?_)
    | (refine known_get (by assumption) ?_; cbv)
    | (refine known_and (by assumption) ?_)
    | with_reducible refine And.intro ?_ ?_
    | (intro hh; exact hh)
    | (intro _; assumption)
    | (intro hx; first | exact tf_absurd hx (by assumption) | exact tf_absurd (by assumption) hx)
    | (intro _; clear H h; simp only [ho, stdOps] at *; simp_all)
    | (cbv; with_reducible refine hold_go hJ ?_; cbv))

/-! slices.Clone[[]int64,int64] -/
inductive F78R where
  | v0 (y0 : List AV)
def F78R.av : F78R → AV
  | .v0 y0 => .sl 1 y0 .no
def F78R.hp : F78R → List Ent
  | .v0 _ => []
noncomputable def f78 (o : Ops) (_fuel : Nat) (a0 : List AV) : Option F78R :=
  isNil a0 false fun b1 =>
  ifB b1
  (some (.v0 []))
  (req (o.room [] a0 8) <|
   some (.v0 (o.apnd [] a0)))
set_option maxHeartbeats 4000000 in
set_option maxRecDepth 100000 in
theorem f78_call (o : Ops) (ho : o = stdOps) (fuel : Nat) (a0 : List AV) {R : F78R} (H : f78 o fuel a0 = some R) (K : AV → List Ent → Prop) (E : AV → List Ent → Prop) (h : K R.av R.hp) : CallA Try.prog 78 [.sl 1 a0 .no] [] K E := by
  refine call_wk fun K' hK => ?_
  refine call_keep (n₀ := 0) tab_ok Try.func78 rfl rfl rfl rfl ?_
  intro J hJ
  obtain rfl : o = J.o := by rw [ho, hJ]; rfl
  unfold f78 at H
  cbv
  repeat' (first
    | ((with_reducible first | refine awp_go2 ?_ | refine aops_go2 ?_ | refine strip_go2 ?_ | refine draw_go2 ?_ | refine frames_go2 ?_); cbv)
    | (with_reducible refine hold_go hJ ?_; cbv)
    | with_reducible exact id
    | exact trivial
    | with_reducible exact rfl
    | with_reducible exact ⟨_, rfl⟩
    | exact none_go H
    | (refine KeepQ.mk [] (by decide) ?_; cbv; cases H; refine hK _ _ _ _ ?_ ?_ rfl h <;> cbv)
    | (refine ifB_go H ?_ ?_ <;> clear H <;> intro hh H)
    | (refine ifB_og H ?_ ?_ <;> clear H <;> intro hh H)
    | (refine req_go H ?_; clear H; intro hh H)
    | (refine gg_t ho H ?_ ?_ <;> clear H <;> intro hh H)
    | (refine gg_f ho H ?_ ?_ <;> clear H <;> intro hh H)
    | (refine bit_go ho H ?_ ?_ <;> clear H <;> intro hh H; (all_goals cbv))
    | (refine nil_go H ?_; clear H; intro b H; cbv)
    | (refine tok_go ?_; cbv)
    | (refine getA_go (β := UInt8) H ?_; clear H; intro e H; cbv)
    | (refine lit_t ?_; cbv)
    | (refine lit_f ?_; cbv)
    | (refine known_t (by assumption) ?_)
    | (refine known_f (by assumption) ?_)
    | (refine known_x (by assumption) ?_)
    | (refine known_y (by assumption) ?_)
    | (refine known_get (by assumption) ?_; cbv)
    | (refine known_and (by assumption) ?_)
    | with_reducible refine And.intro ?_ ?_
    | (intro hh; exact hh)
    | (intro _; assumption)
    | (intro hx; first | exact tf_absurd hx (by assumption) | exact tf_absurd (by assumption) hx)
    | (intro _; clear H h; simp only [ho, stdOps] at *; simp_all)
    | (cbv; with_reducible refine hold_go hJ ?_; cbv))

/-! pontoon/sink.clone -/
inductive F76R where
  | v0 (y0 : Int) (y1 : Int) (y2 : Int) (y3 : List AV) (y4 : List AV)
def F76R.av : F76R → AV
  | .v0 y0 y1 y2 y3 y4 => .agg [.int .i64 y0, .int .i64 y1, .int .i64 y2, .sl 2 y3 .no, .sl 1 y4 .no]
def F76R.hp : F76R → List Ent
  | .v0 _ _ _ _ _ => []
noncomputable def f76 (o : Ops) (fuel : Nat) (a0 : Int) (a1 : Int) (a2 : Int) (a3 : List AV) (a4 : List AV) : Option F76R :=
  bindR (f79 o fuel a3) fun r => match r with
  | .v0 r5 => bindR (f78 o fuel a4) fun r => match r with
    | .v0 r6 => some (.v0 a0 a1 a2 r5 r6)
set_option maxHeartbeats 4000000 in
set_option maxRecDepth 100000 in
theorem f76_call (o : Ops) (ho : o = stdOps) (fuel : Nat) (a0 : Int) (a1 : Int) (a2 : Int) (a3 : List AV) (a4 : List AV) {R : F76R} (H : f76 o fuel a0 a1 a2 a3 a4 = some R) (K : AV → List Ent → Prop) (E : AV → List Ent → Prop) (h : K R.av R.hp) : CallA Try.prog 76 [.agg [.int .i64 a0, .int .i64 a1, .int .i64 a2, .sl 2 a3 .no, .sl 1 a4 .no]] [] K E := by
  refine call_wk fun K' hK => ?_
  refine call_keep (n₀ := 0) tab_ok Try.func76 rfl rfl rfl rfl ?_
  intro J hJ
  obtain rfl : o = J.o := by rw [ho, hJ]; rfl
  unfold f76 at H
  cbv
  repeat' (first
    | ((with_reducible first | refine awp_go2 ?_ | refine aops_go2 ?_ | refine strip_go2 ?_ | refine draw_go2 ?_ | refine frames_go2 ?_); cbv)
    | (with_reducible refine hold_go hJ ?_; cbv)
    | with_reducible exact id
    | exact trivial
    | with_reducible exact rfl
    | with_reducible exact ⟨_, rfl⟩
    | exact none_go H
    | (refine KeepQ.mk [] (by decide) ?_; cbv; cases H; refine hK _ _ _ _ ?_ ?_ rfl h <;> cbv)
    | (refine ifB_go H ?_ ?_ <;> clear H <;> intro hh H)
    | (refine ifB_og H ?_ ?_ <;> clear H <;> intro hh H)
    | (refine req_go H ?_; clear H; intro hh H)
    | (refine gg_t ho H ?_ ?_ <;> clear H <;> intro hh H)
    | (refine gg_f ho H ?_ ?_ <;> clear H <;> intro hh H)
    | (refine bit_go ho H ?_ ?_ <;> clear H <;> intro hh H; (all_goals cbv))
    | (refine nil_go H ?_; clear H; intro b H; cbv)
    | (refine tok_go ?_; cbv)
    | (refine getA_go (β := UInt8) H ?_; clear H; intro e H; cbv)
    | (obtain ⟨R, hR, H2⟩ := bindR_go H; refine call_in hJ [] (by decide) rfl rfl rfl (f78_call _ ho _ _ hR _ _ ?_); clear H hR; rcases R with ⟨_⟩; all_goals (replace H := H2; clear H2; (try dsimp only at H); cbv))
    | (obtain ⟨R, hR, H2⟩ := bindR_go H; refine call_in hJ [] (by decide) rfl rfl rfl (f79_call _ ho _ _ hR _ _ ?_); clear H hR; rcases R with ⟨_⟩; all_goals (replace H := H2; clear H2; (try dsimp only at H); cbv))
    | (refine lit_t ?_; cbv)
    | (refine lit_f ?_; cbv)
    | (refine known_t (by assumption) ?_)
    | (refine known_f (by assumption) ?_)
    | (refine known_x (by assumption) ?_)
    | (refine known_y (by assumption) ?_)
    | (refine known_get (by assumption) ?_; cbv)
    | (refine known_and (by assumption) ?_)
    | with_reducible refine And.intro ?_ ?_
    | (intro hh; exact hh)
    | (intro _; assumption)
    | (intro hx; first | exact tf_absurd hx (by assumption) | exact tf_absurd (by assumption) hx)
    | (intro _; clear H h; simp only [ho, stdOps] at *; simp_all)
    | (cbv; with_reducible refine hold_go hJ ?_; cbv))

/-! (*pontoon/sink.Sink).Pre -/
inductive F15R where
  | v0 (y0 : Int) (y1 : Int) (y2 : List (AV × AV)) (y3 : List (AV × AV))
def F15R.av : F15R → AV
  | .v0 y0 _ _ _ => .int .i64 y0
def F15R.hp (a0 : Nat) (a6 : Int) (a8 : List AV) (a9 : List AV) : F15R → List Ent
  | .v0 _ y1 y2 y3 => [.var [.int .i64 a6, .int .i64 y1, .sl 2 a8 (.tip 1 a0), .sl 1 a9 .no, .mp 2, .mp 3], .tip a0, .mp y2, .mp y3]
noncomputable def f15 (o : Ops) (fuel : Nat) (a0 : Nat) (a1 : Int) (a2 : Int) (a3 : Int) (a4 : List AV) (a5 : List AV) (a6 : Int) (a7 : Int) (a8 : List AV) (a9 : List AV) (a10 : List (AV × AV)) (a11 : List (AV × AV)) : Option F15R :=
  bindR (f70 o fuel a0 a6 a7 a8 a9 a10 a11) fun r => match r with
  | .v0 r12 => ifB r12
    (some (.v0 2 a7 a10 a11))
    (bindR (f71 o fuel a0 a1 a2 a3 a4 a5 a6 a7 a8 a9 a10 a11) fun r => match r with
     | .v0 r13 => ifB (o.bnot r13)
       (some (.v0 1 a7 a10 a11))
       (bindR (f72 o fuel a0 a1 a6 a7 a8 a9 a10 a11) fun r => match r with
        | .v0 r14 r15 r16 r17 => ifB (o.bnot (o.cmp .eql r14 0))
          (some (.v0 r14 r15 r16 r17))
          (bindR (f73 o fuel a1 a2 a3 a4 a5) fun r => match r with
           | .v0 r18 r19 => req (o.mok true [.int .i64, .int .i64] r16) <|
             findA (o.mfind r16 (.agg [.int .i64 r18, .int .i64 r19])) (fun e => sh4 e fun v20 =>
             ifB v20
              (some (.v0 0 r15 r16 r17))
              (req (o.mok true [.int .i64, .int .i64] r17) <|
               findA (o.mfind r17 (.agg [.int .i64 r18, .int .i64 r19])) (fun e => sh31 e fun v21 v22 v23 v24 v25 =>
               bindR (f74 o fuel v21 v22 v23 v24 v25 a1 a2 a3 a4 a5) fun r => match r with
                | .v0 r26 => ifB r26
                  (some (.v0 0 r15 r16 r17))
                  (some (.v0 5 r15 r16 r17)))
               (bindR (f75 o fuel a0 a1 a2 a3 a4 a5 a6 r15 a8 a9 r16 r17) fun r => match r with
                | .v0 r27 => ifB (o.bnot (o.cmp .eql r27 0))
                  (some (.v0 r27 r15 r16 r17))
                  (ifB (o.cmp .geq (o.mlen r17) 8)
                   (some (.v0 6 r15 r16 r17))
                   (bindR (f76 o fuel a1 a2 a3 a4 a5) fun r => match r with
                    | .v0 r28 r29 r30 r31 r32 => req (o.mok true [.int .i64, .int .i64] r17) <|
                      some (.v0 0 r15 r16 (o.mput r17 (.agg [.int .i64 r18, .int .i64 r19]) (.agg [.int .i64 r28, .int .i64 r29, .int .i64 r30, .sl 2 r31 .no, .sl 1 r32 .no]))))))))
             (req (o.mok true [.int .i64, .int .i64] r17) <|
              findA (o.mfind r17 (.agg [.int .i64 r18, .int .i64 r19])) (fun e => sh31 e fun v33 v34 v35 v36 v37 =>
              bindR (f74 o fuel v33 v34 v35 v36 v37 a1 a2 a3 a4 a5) fun r => match r with
               | .v0 r38 => ifB r38
                 (some (.v0 0 r15 r16 r17))
                 (some (.v0 5 r15 r16 r17)))
              (bindR (f75 o fuel a0 a1 a2 a3 a4 a5 a6 r15 a8 a9 r16 r17) fun r => match r with
               | .v0 r39 => ifB (o.bnot (o.cmp .eql r39 0))
                 (some (.v0 r39 r15 r16 r17))
                 (ifB (o.cmp .geq (o.mlen r17) 8)
                  (some (.v0 6 r15 r16 r17))
                  (bindR (f76 o fuel a1 a2 a3 a4 a5) fun r => match r with
                   | .v0 r40 r41 r42 r43 r44 => req (o.mok true [.int .i64, .int .i64] r17) <|
                     some (.v0 0 r15 r16 (o.mput r17 (.agg [.int .i64 r18, .int .i64 r19]) (.agg [.int .i64 r40, .int .i64 r41, .int .i64 r42, .sl 2 r43 .no, .sl 1 r44 .no]))))))))))
set_option maxHeartbeats 4000000 in
set_option maxRecDepth 100000 in
theorem f15_call (o : Ops) (ho : o = stdOps) (fuel : Nat) (a0 : Nat) (a1 : Int) (a2 : Int) (a3 : Int) (a4 : List AV) (a5 : List AV) (a6 : Int) (a7 : Int) (a8 : List AV) (a9 : List AV) (a10 : List (AV × AV)) (a11 : List (AV × AV)) {R : F15R} (H : f15 o fuel a0 a1 a2 a3 a4 a5 a6 a7 a8 a9 a10 a11 = some R) (K : AV → List Ent → Prop) (E : AV → List Ent → Prop) (h : K R.av (F15R.hp a0 a6 a8 a9 R)) : CallA Try.prog 15 [.ptr 0 0, .agg [.int .i64 a1, .int .i64 a2, .int .i64 a3, .sl 2 a4 .no, .sl 1 a5 .no]] [.var [.int .i64 a6, .int .i64 a7, .sl 2 a8 (.tip 1 a0), .sl 1 a9 .no, .mp 2, .mp 3], .tip a0, .mp a10, .mp a11] K E := by
  refine call_wk fun K' hK => ?_
  refine call_keep (n₀ := 4) tab_ok Try.func15 rfl rfl rfl rfl ?_
  intro J hJ
  obtain rfl : o = J.o := by rw [ho, hJ]; rfl
  unfold f15 at H
  cbv
  repeat' (first
    | ((with_reducible first | refine awp_go2 ?_ | refine aops_go2 ?_ | refine strip_go2 ?_ | refine draw_go2 ?_ | refine frames_go2 ?_); cbv)
    | (with_reducible refine hold_go hJ ?_; cbv)
    | with_reducible exact id
    | exact trivial
    | with_reducible exact rfl
    | with_reducible exact ⟨_, rfl⟩
    | exact none_go H
    | (refine KeepQ.mk [] (by decide) ?_; cbv; cases H; refine hK _ _ _ _ ?_ ?_ rfl h <;> cbv)
    | (refine ifB_go H ?_ ?_ <;> clear H <;> intro hh H)
    | (refine ifB_og H ?_ ?_ <;> clear H <;> intro hh H)
    | (refine req_go H ?_; clear H; intro hh H)
    | (refine gg_t ho H ?_ ?_ <;> clear H <;> intro hh H)
    | (refine gg_f ho H ?_ ?_ <;> clear H <;> intro hh H)
    | (refine bit_go ho H ?_ ?_ <;> clear H <;> intro hh H; (all_goals cbv))
    | (refine nil_go H ?_; clear H; intro b H; cbv)
    | (refine tok_go ?_; cbv)
    | (refine sh4_get H ?_; clear H; intro _ he H; cbv)
    | (refine sh4_find H ?_ ?_ <;> clear H; (intro _ H; cbv); rotate_left; (intro H; cbv))
    | (refine sh31_get H ?_; clear H; intro _ _ _ _ _ he H; cbv)
    | (refine sh31_find H ?_ ?_ <;> clear H; (intro _ _ _ _ _ H; cbv); rotate_left; (intro H; cbv))
    | (refine getA_go (β := UInt8) H ?_; clear H; intro e H; cbv)
    | (obtain ⟨R, hR, H2⟩ := bindR_go H; refine call_in hJ [] (by decide) rfl rfl rfl (f74_call _ ho _ _ _ _ _ _ _ _ _ _ _ hR _ _ ?_); clear H hR; rcases R with ⟨_⟩; all_goals (replace H := H2; clear H2; (try dsimp only at H); cbv))
    | (obtain ⟨R, hR, H2⟩ := bindR_go H; refine call_in hJ [] (by decide) rfl rfl rfl (f76_call _ ho _ _ _ _ _ _ hR _ _ ?_); clear H hR; rcases R with ⟨_, _, _, _, _⟩; all_goals (replace H := H2; clear H2; (try dsimp only at H); cbv))
    | (obtain ⟨R, hR, H2⟩ := bindR_go H; refine call_in hJ [0, 1, 2, 3] (by decide) rfl rfl rfl (f75_call _ ho _ _ _ _ _ _ _ _ _ _ _ _ _ hR _ _ ?_); clear H hR; rcases R with ⟨_⟩; all_goals (replace H := H2; clear H2; (try dsimp only at H); cbv))
    | (obtain ⟨R, hR, H2⟩ := bindR_go H; refine call_in hJ [] (by decide) rfl rfl rfl (f73_call _ ho _ _ _ _ _ _ hR _ _ ?_); clear H hR; rcases R with ⟨_, _⟩; all_goals (replace H := H2; clear H2; (try dsimp only at H); cbv))
    | (obtain ⟨R, hR, H2⟩ := bindR_go H; refine call_in hJ [0, 1, 2, 3] (by decide) rfl rfl rfl (f72_call _ ho _ _ _ _ _ _ _ _ _ hR _ _ ?_); clear H hR; rcases R with ⟨_, _, _, _⟩; all_goals (replace H := H2; clear H2; (try dsimp only at H); cbv))
    | (obtain ⟨R, hR, H2⟩ := bindR_go H; refine call_in hJ [0, 1, 2, 3] (by decide) rfl rfl rfl (f71_call _ ho _ _ _ _ _ _ _ _ _ _ _ _ _ hR _ _ ?_); clear H hR; rcases R with ⟨_⟩; all_goals (replace H := H2; clear H2; (try dsimp only at H); cbv))
    | (obtain ⟨R, hR, H2⟩ := bindR_go H; refine call_in hJ [0, 1, 2, 3] (by decide) rfl rfl rfl (f70_call _ ho _ _ _ _ _ _ _ _ hR _ _ ?_); clear H hR; rcases R with ⟨_⟩; all_goals (replace H := H2; clear H2; (try dsimp only at H); cbv))
    | (refine lit_t ?_; cbv)
    | (refine lit_f ?_; cbv)
    | (refine known_t (by assumption) ?_)
    | (refine known_f (by assumption) ?_)
    | (refine known_x (by assumption) ?_)
    | (refine known_y (by assumption) ?_)
    | (refine known_get (by assumption) ?_; cbv)
    | (refine known_and (by assumption) ?_)
    | with_reducible refine And.intro ?_ ?_
    | (intro hh; exact hh)
    | (intro _; assumption)
    | (intro hx; first | exact tf_absurd hx (by assumption) | exact tf_absurd (by assumption) hx)
    | (intro _; clear H h; simp only [ho, stdOps] at *; simp_all)
    | (cbv; with_reducible refine hold_go hJ ?_; cbv))

/-! (*pontoon/sink.Sink).named -/
inductive F77R where
  | v0 (y0 : Int) (y1 : Int) (y2 : List (AV × AV)) (y3 : List (AV × AV))
def F77R.av : F77R → AV
  | .v0 y0 _ _ _ => .int .i64 y0
def F77R.hp (a0 : Nat) (a3 : Int) (a5 : List AV) (a6 : List AV) : F77R → List Ent
  | .v0 _ y1 y2 y3 => [.var [.int .i64 a3, .int .i64 y1, .sl 2 a5 (.tip 1 a0), .sl 1 a6 .no, .mp 2, .mp 3], .tip a0, .mp y2, .mp y3]
noncomputable def f77 (o : Ops) (fuel : Nat) (a0 : Nat) (a1 : Int) (a2 : Int) (a3 : Int) (a4 : Int) (a5 : List AV) (a6 : List AV) (a7 : List (AV × AV)) (a8 : List (AV × AV)) : Option F77R :=
  bindR (f70 o fuel a0 a3 a4 a5 a6 a7 a8) fun r => match r with
  | .v0 r9 => ifB r9
    (some (.v0 2 a4 a7 a8))
    (bindR (f86 o fuel a1) fun r => match r with
     | .v0 r10 => ifB (o.bnot r10)
       (some (.v0 1 a4 a7 a8))
       (bindR (f86 o fuel a2) fun r => match r with
        | .v0 r11 => ifB (o.bnot r11)
          (some (.v0 1 a4 a7 a8))
          (bindR (f72 o fuel a0 a1 a3 a4 a5 a6 a7 a8) fun r => match r with
           | .v0 r12 r13 r14 r15 => some (.v0 r12 r13 r14 r15))))
set_option maxHeartbeats 4000000 in
set_option maxRecDepth 100000 in
theorem f77_call (o : Ops) (ho : o = stdOps) (fuel : Nat) (a0 : Nat) (a1 : Int) (a2 : Int) (a3 : Int) (a4 : Int) (a5 : List AV) (a6 : List AV) (a7 : List (AV × AV)) (a8 : List (AV × AV)) {R : F77R} (H : f77 o fuel a0 a1 a2 a3 a4 a5 a6 a7 a8 = some R) (K : AV → List Ent → Prop) (E : AV → List Ent → Prop) (h : K R.av (F77R.hp a0 a3 a5 a6 R)) : CallA Try.prog 77 [.ptr 0 0, .agg [.int .i64 a1, .int .i64 a2]] [.var [.int .i64 a3, .int .i64 a4, .sl 2 a5 (.tip 1 a0), .sl 1 a6 .no, .mp 2, .mp 3], .tip a0, .mp a7, .mp a8] K E := by
  refine call_wk fun K' hK => ?_
  refine call_keep (n₀ := 4) tab_ok Try.func77 rfl rfl rfl rfl ?_
  intro J hJ
  obtain rfl : o = J.o := by rw [ho, hJ]; rfl
  unfold f77 at H
  cbv
  repeat' (first
    | ((with_reducible first | refine awp_go2 ?_ | refine aops_go2 ?_ | refine strip_go2 ?_ | refine draw_go2 ?_ | refine frames_go2 ?_); cbv)
    | (with_reducible refine hold_go hJ ?_; cbv)
    | with_reducible exact id
    | exact trivial
    | with_reducible exact rfl
    | with_reducible exact ⟨_, rfl⟩
    | exact none_go H
    | (refine KeepQ.mk [] (by decide) ?_; cbv; cases H; refine hK _ _ _ _ ?_ ?_ rfl h <;> cbv)
    | (refine ifB_go H ?_ ?_ <;> clear H <;> intro hh H)
    | (refine ifB_og H ?_ ?_ <;> clear H <;> intro hh H)
    | (refine req_go H ?_; clear H; intro hh H)
    | (refine gg_t ho H ?_ ?_ <;> clear H <;> intro hh H)
    | (refine gg_f ho H ?_ ?_ <;> clear H <;> intro hh H)
    | (refine bit_go ho H ?_ ?_ <;> clear H <;> intro hh H; (all_goals cbv))
    | (refine nil_go H ?_; clear H; intro b H; cbv)
    | (refine tok_go ?_; cbv)
    | (refine getA_go (β := UInt8) H ?_; clear H; intro e H; cbv)
    | (obtain ⟨R, hR, H2⟩ := bindR_go H; refine call_in hJ [0, 1, 2, 3] (by decide) rfl rfl rfl (f72_call _ ho _ _ _ _ _ _ _ _ _ hR _ _ ?_); clear H hR; rcases R with ⟨_, _, _, _⟩; all_goals (replace H := H2; clear H2; (try dsimp only at H); cbv))
    | (obtain ⟨R, hR, H2⟩ := bindR_go H; refine call_in hJ [] (by decide) rfl rfl rfl (f86_call _ ho _ _ hR _ _ ?_); clear H hR; rcases R with ⟨_⟩; all_goals (replace H := H2; clear H2; (try dsimp only at H); cbv))
    | (obtain ⟨R, hR, H2⟩ := bindR_go H; refine call_in hJ [0, 1, 2, 3] (by decide) rfl rfl rfl (f70_call _ ho _ _ _ _ _ _ _ _ hR _ _ ?_); clear H hR; rcases R with ⟨_⟩; all_goals (replace H := H2; clear H2; (try dsimp only at H); cbv))
    | (refine lit_t ?_; cbv)
    | (refine lit_f ?_; cbv)
    | (refine known_t (by assumption) ?_)
    | (refine known_f (by assumption) ?_)
    | (refine known_x (by assumption) ?_)
    | (refine known_y (by assumption) ?_)
    | (refine known_get (by assumption) ?_; cbv)
    | (refine known_and (by assumption) ?_)
    | with_reducible refine And.intro ?_ ?_
    | (intro hh; exact hh)
    | (intro _; assumption)
    | (intro hx; first | exact tf_absurd hx (by assumption) | exact tf_absurd (by assumption) hx)
    | (intro _; clear H h; simp only [ho, stdOps] at *; simp_all)
    | (cbv; with_reducible refine hold_go hJ ?_; cbv))

end Go.Proofs.Ytjdbmfipciadfaa.A
