/- Functions of the program and of the document's answer, as plain ones. Written by lift.py. -/
import Derived.Test.YtjdbmfipciadfaaSx0
import Derived.Test.YtjdbmfipciadfaaSx1

namespace Go.Proofs.Ytjdbmfipciadfaa.A
open Go Go.Pt

/-! (*pontoon/sink.Sink).may -/
inductive F71R where
  | v0 (y0 : Bool)
def F71R.av : F71R → AV
  | .v0 y0 => .bool y0
def F71R.hp (a0 : Nat) (a6 : Int) (a7 : Int) (a8 : List AV) (a9 : List AV) (a10 : List (AV × AV)) (a11 : List (AV × AV)) : F71R → List Ent
  | .v0 _ => [.var [.int .i64 a6, .int .i64 a7, .sl 2 a8 (.tip 1 a0), .sl 1 a9 .no, .mp 2, .mp 3], .tip a0, .mp a10, .mp a11]
noncomputable def f71 (o : Ops) (fuel : Nat) (_a0 : Nat) (a1 : Int) (a2 : Int) (a3 : Int) (a4 : List AV) (a5 : List AV) (a6 : Int) (_a7 : Int) (_a8 : List AV) (_a9 : List AV) (_a10 : List (AV × AV)) (_a11 : List (AV × AV)) : Option F71R :=
  bindR (f86 o fuel a1) fun r => match r with
  | .v0 r12 => ifB r12
    (bindR (f86 o fuel a2) fun r => match r with
     | .v0 r13 => ifB (o.pick (o.pick (o.pick (o.pick r12 r13 false) (o.cmp .geq a3 0) false) (o.cmp .leq a3 4096) false) (o.cmp .leq (o.len a4) 4096) false)
       (bindR (f100 o fuel a5 a6) fun r => match r with
        | .v0 r14 => some (.v0 (o.pick (o.pick (o.pick (o.pick (o.pick r12 r13 false) (o.cmp .geq a3 0) false) (o.cmp .leq a3 4096) false) (o.cmp .leq (o.len a4) 4096) false) r14 false)))
       (some (.v0 (o.pick (o.pick (o.pick (o.pick (o.pick r12 r13 false) (o.cmp .geq a3 0) false) (o.cmp .leq a3 4096) false) (o.cmp .leq (o.len a4) 4096) false) false false))))
    (some (.v0 (o.pick (o.pick (o.pick (o.pick (o.pick r12 false false) (o.cmp .geq a3 0) false) (o.cmp .leq a3 4096) false) (o.cmp .leq (o.len a4) 4096) false) false false)))
set_option maxHeartbeats 4000000 in
set_option maxRecDepth 100000 in
theorem f71_call (o : Ops) (ho : o = stdOps) (fuel : Nat) (a0 : Nat) (a1 : Int) (a2 : Int) (a3 : Int) (a4 : List AV) (a5 : List AV) (a6 : Int) (a7 : Int) (a8 : List AV) (a9 : List AV) (a10 : List (AV × AV)) (a11 : List (AV × AV)) {R : F71R} (H : f71 o fuel a0 a1 a2 a3 a4 a5 a6 a7 a8 a9 a10 a11 = some R) (K : AV → List Ent → Prop) (E : AV → List Ent → Prop) (h : K R.av (F71R.hp a0 a6 a7 a8 a9 a10 a11 R)) : CallA Try.prog 71 [.ptr 0 0, .agg [.int .i64 a1, .int .i64 a2, .int .i64 a3, .sl 2 a4 .no, .sl 1 a5 .no]] [.var [.int .i64 a6, .int .i64 a7, .sl 2 a8 (.tip 1 a0), .sl 1 a9 .no, .mp 2, .mp 3], .tip a0, .mp a10, .mp a11] K E := by
  refine call_wk fun K' hK => ?_
  refine call_keep (n₀ := 4) tab_ok Try.func71 rfl rfl rfl rfl ?_
  intro J hJ
  obtain rfl : o = J.o := by rw [ho, hJ]; rfl
  unfold f71 at H
  cbv
  repeat' (first
    | ((with_reducible first | refine awp_go2 ?_ | refine aops_go2 ?_ | refine strip_go2 ?_ | refine draw_go2 ?_ | refine frames_go2 ?_); cbv)
    | (with_reducible refine hold_go hJ ?_; cbv)
    | with_reducible exact id
    | exact trivial
    | with_reducible exact rfl
    | with_reducible exact ⟨_, rfl⟩
    | exact none_go H
    | (refine KeepQ.mk [] (by decide) ?_; cbv; cases H; refine hK _ _ _ _ ?_ ?_ rfl h <;> cbv)
    | (first | refine known_f (kn_pick_f ho (kn_pick_f ho (kn_pick_f ho (kn_pick_f ho (by assumption) rfl) rfl) rfl) rfl) ?_ | refine known_x (kn_pick_f ho (kn_pick_f ho (kn_pick_f ho (kn_pick_f ho (by assumption) rfl) rfl) rfl) rfl) ?_)
    | (refine ifB_go H ?_ ?_ <;> clear H <;> intro hh H)
    | (refine ifB_og H ?_ ?_ <;> clear H <;> intro hh H)
    | (refine req_go H ?_; clear H; intro hh H)
    | (refine gg_t ho H ?_ ?_ <;> clear H <;> intro hh H)
    | (refine gg_f ho H ?_ ?_ <;> clear H <;> intro hh H)
    | (refine bit_go ho H ?_ ?_ <;> clear H <;> intro hh H; (all_goals cbv))
    | (refine nil_go H ?_; clear H; intro b H; cbv)
    | (refine tok_go ?_; cbv)
    | (refine getA_go (β := UInt8) H ?_; clear H; intro e H; cbv)
    | (obtain ⟨R, hR, H2⟩ := bindR_go H; refine call_in hJ [] (by decide) rfl rfl rfl (f100_call _ ho _ _ _ hR _ _ ?_); clear H hR; rcases R with ⟨_⟩; all_goals (replace H := H2; clear H2; (try dsimp only at H); cbv))
    | (obtain ⟨R, hR, H2⟩ := bindR_go H; refine call_in hJ [] (by decide) rfl rfl rfl (f86_call _ ho _ _ hR _ _ ?_); clear H hR; rcases R with ⟨_⟩; all_goals (replace H := H2; clear H2; (try dsimp only at H); cbv))
    | (refine lit_t ?_; cbv)
    | (refine lit_f ?_; cbv)
    | (refine known_t (by assumption) ?_)
    | (refine known_f (by assumption) ?_)
    | (refine known_x (by assumption) ?_)
    | (refine known_y (by assumption) ?_)
    | (refine known_get (by assumption) ?_; cbv)
    | (refine known_and (by assumption) ?_)
    | with_reducible refine And.intro ?_ ?_
    | (intro hh; exact hh)
    | (intro _; assumption)
    | (intro hx; first | exact tf_absurd hx (by assumption) | exact tf_absurd (by assumption) hx)
    | (intro _; clear H h; simp only [ho, stdOps] at *; simp_all)
    | (cbv; with_reducible refine hold_go hJ ?_; cbv))

/-! (*pontoon/sink.Sink).reaches -/
inductive F72R where
  | v0 (y0 : Int) (y1 : Int) (y2 : List (AV × AV)) (y3 : List (AV × AV))
def F72R.av : F72R → AV
  | .v0 y0 _ _ _ => .int .i64 y0
def F72R.hp (a0 : Nat) (a2 : Int) (a4 : List AV) (a5 : List AV) : F72R → List Ent
  | .v0 _ y1 y2 y3 => [.var [.int .i64 a2, .int .i64 y1, .sl 2 a4 (.tip 1 a0), .sl 1 a5 .no, .mp 2, .mp 3], .tip a0, .mp y2, .mp y3]
noncomputable def f72 (o : Ops) (_fuel : Nat) (_a0 : Nat) (a1 : Int) (_a2 : Int) (a3 : Int) (_a4 : List AV) (_a5 : List AV) (a6 : List (AV × AV)) (a7 : List (AV × AV)) : Option F72R :=
  ifB (o.cmp .lss a1 a3)
  (some (.v0 150 a3 a6 a7))
  (ifB (o.cmp .gtr a1 a3)
   (some (.v0 0 a1 [] []))
   (some (.v0 0 a3 a6 a7)))
set_option maxHeartbeats 4000000 in
set_option maxRecDepth 100000 in
theorem f72_call (o : Ops) (ho : o = stdOps) (fuel : Nat) (a0 : Nat) (a1 : Int) (a2 : Int) (a3 : Int) (a4 : List AV) (a5 : List AV) (a6 : List (AV × AV)) (a7 : List (AV × AV)) {R : F72R} (H : f72 o fuel a0 a1 a2 a3 a4 a5 a6 a7 = some R) (K : AV → List Ent → Prop) (E : AV → List Ent → Prop) (h : K R.av (F72R.hp a0 a2 a4 a5 R)) : CallA Try.prog 72 [.ptr 0 0, .int .i64 a1] [.var [.int .i64 a2, .int .i64 a3, .sl 2 a4 (.tip 1 a0), .sl 1 a5 .no, .mp 2, .mp 3], .tip a0, .mp a6, .mp a7] K E := by
  refine call_wk fun K' hK => ?_
  refine call_keep (n₀ := 4) tab_ok Try.func72 rfl rfl rfl rfl ?_
  intro J hJ
  obtain rfl : o = J.o := by rw [ho, hJ]; rfl
  unfold f72 at H
  cbv
  repeat' (first
    | ((with_reducible first | refine awp_go2 ?_ | refine aops_go2 ?_ | refine strip_go2 ?_ | refine draw_go2 ?_ | refine frames_go2 ?_); cbv)
    | (with_reducible refine hold_go hJ ?_; cbv)
    | with_reducible exact id
    | exact trivial
    | with_reducible exact rfl
    | with_reducible exact ⟨_, rfl⟩
    | exact none_go H
    | (refine KeepQ.mk [] (by decide) ?_; cbv; cases H; refine hK _ _ _ _ ?_ ?_ rfl h <;> cbv)
    | (refine ifB_go H ?_ ?_ <;> clear H <;> intro hh H)
    | (refine ifB_og H ?_ ?_ <;> clear H <;> intro hh H)
    | (refine req_go H ?_; clear H; intro hh H)
    | (refine gg_t ho H ?_ ?_ <;> clear H <;> intro hh H)
    | (refine gg_f ho H ?_ ?_ <;> clear H <;> intro hh H)
    | (refine bit_go ho H ?_ ?_ <;> clear H <;> intro hh H; (all_goals cbv))
    | (refine nil_go H ?_; clear H; intro b H; cbv)
    | (refine tok_go ?_; cbv)
    | (refine getA_go (β := UInt8) H ?_; clear H; intro e H; cbv)
    | (refine lit_t ?_; cbv)
    | (refine lit_f ?_; cbv)
    | (refine known_t (by assumption) ?_)
    | (refine known_f (by assumption) ?_)
    | (refine known_x (by assumption) ?_)
    | (refine known_y (by assumption) ?_)
    | (refine known_get (by assumption) ?_; cbv)
    | (refine known_and (by assumption) ?_)
    | with_reducible refine And.intro ?_ ?_
    | (intro hh; exact hh)
    | (intro _; assumption)
    | (intro hx; first | exact tf_absurd hx (by assumption) | exact tf_absurd (by assumption) hx)
    | (intro _; clear H h; simp only [ho, stdOps] at *; simp_all)
    | (cbv; with_reducible refine hold_go hJ ?_; cbv))

/-! pontoon/sink.key -/
inductive F73R where
  | v0 (y0 : Int) (y1 : Int)
def F73R.av : F73R → AV
  | .v0 y0 y1 => .agg [.int .i64 y0, .int .i64 y1]
def F73R.hp : F73R → List Ent
  | .v0 _ _ => []
noncomputable def f73 (_o : Ops) (_fuel : Nat) (a0 : Int) (a1 : Int) (_a2 : Int) (_a3 : List AV) (_a4 : List AV) : Option F73R :=
  some (.v0 a0 a1)
set_option maxHeartbeats 4000000 in
set_option maxRecDepth 100000 in
theorem f73_call (o : Ops) (ho : o = stdOps) (fuel : Nat) (a0 : Int) (a1 : Int) (a2 : Int) (a3 : List AV) (a4 : List AV) {R : F73R} (H : f73 o fuel a0 a1 a2 a3 a4 = some R) (K : AV → List Ent → Prop) (E : AV → List Ent → Prop) (h : K R.av R.hp) : CallA Try.prog 73 [.agg [.int .i64 a0, .int .i64 a1, .int .i64 a2, .sl 2 a3 .no, .sl 1 a4 .no]] [] K E := by
  refine call_wk fun K' hK => ?_
  refine call_keep (n₀ := 0) tab_ok Try.func73 rfl rfl rfl rfl ?_
  intro J hJ
  obtain rfl : o = J.o := by rw [ho, hJ]; rfl
  unfold f73 at H
  cbv
  repeat' (first
    | ((with_reducible first | refine awp_go2 ?_ | refine aops_go2 ?_ | refine strip_go2 ?_ | refine draw_go2 ?_ | refine frames_go2 ?_); cbv)
    | (with_reducible refine hold_go hJ ?_; cbv)
    | with_reducible exact id
    | exact trivial
    | with_reducible exact rfl
    | with_reducible exact ⟨_, rfl⟩
    | exact none_go H
    | (refine KeepQ.mk [] (by decide) ?_; cbv; cases H; refine hK _ _ _ _ ?_ ?_ rfl h <;> cbv)
    | (refine ifB_go H ?_ ?_ <;> clear H <;> intro hh H)
    | (refine ifB_og H ?_ ?_ <;> clear H <;> intro hh H)
    | (refine req_go H ?_; clear H; intro hh H)
    | (refine gg_t ho H ?_ ?_ <;> clear H <;> intro hh H)
    | (refine gg_f ho H ?_ ?_ <;> clear H <;> intro hh H)
    | (refine bit_go ho H ?_ ?_ <;> clear H <;> intro hh H; (all_goals cbv))
    | (refine nil_go H ?_; clear H; intro b H; cbv)
    | (refine tok_go ?_; cbv)
    | (refine getA_go (β := UInt8) H ?_; clear H; intro e H; cbv)
    | (refine lit_t ?_; cbv)
    | (refine lit_f ?_; cbv)
    | (refine known_t (by assumption) ?_)
    | (refine known_f (by assumption) ?_)
    | (refine known_x (by assumption) ?_)
    | (refine known_y (by assumption) ?_)
    | (refine known_get (by assumption) ?_; cbv)
    | (refine known_and (by assumption) ?_)
    | with_reducible refine And.intro ?_ ?_
    | (intro hh; exact hh)
    | (intro _; assumption)
    | (intro hx; first | exact tf_absurd hx (by assumption) | exact tf_absurd (by assumption) hx)
    | (intro _; clear H h; simp only [ho, stdOps] at *; simp_all)
    | (cbv; with_reducible refine hold_go hJ ?_; cbv))

/-! slices.Equal[[]pontoon/api.Record,pontoon/api.Record] -/
inductive F28R where
  | v0 (y0 : Bool)
def F28R.av : F28R → AV
  | .v0 y0 => .bool y0
def F28R.hp : F28R → List Ent
  | .v0 _ => []
inductive F28L0 where
  | x0 
  | x1 
noncomputable def f28_l0 (o : Ops) (fuel : Nat) (a0 : List AV) (a1 : List AV) : Nat → Int → Option F28L0
  | 0, _ => none
  | n + 1, w6 =>
    ifB (o.cmp .lss w6 (o.len a0))
    (req (o.inb w6 (o.len a0)) <|
     getA (o.get a0 w6) fun e => sh57 e fun v7 v8 =>
     req (o.inb w6 (o.len a1)) <|
     getA (o.get a1 w6) fun e => sh57 e fun v9 v10 =>
     ifB (o.bnot (o.band (o.cmp .eql v7 v9) (o.cmp .eql v8 v10)))
     (some (.x0 ))
     (f28_l0 o fuel a0 a1 n (o.ar .add .i64 w6 1)))
    (some (.x1 ))
theorem f28_l0_go {J : Jd} {n₀ : Nat} (hJ : J = std Try.prog n₀) {o : Ops} (hJo : J.o = o) {fuel : Nat} {a0 : List AV} {a1 : List AV} {w6i : Int} {α : Type} {k : F28L0 → Option α} {r : α} {c : Code} {Q : Ex → St → Prop} {s : St}
    (H : bindR (f28_l0 o fuel a0 a1 fuel w6i) k = some r) (hn : n₀ ≤ 0) (hle : Le s ⟨[(13, .int .i64 w6i), (12, .int .i64 (o.len a0)), (1, .sl 2 a1 .no), (0, .sl 2 a0 .no)], [], 26⟩)
    (round : ∀ X, k X = some r → ∀ (n : Nat) (w6 : Int), f28_l0 o fuel a0 a1 (n + 1) w6 = some X → ∀ N : St → Prop,
      (∀ (env : List (Nat × AV)) (w6' : Int) (v : List Ent), f28_l0 o fuel a0 a1 n w6' = some X → wkEnv env [(13, .int .i64 w6'), (12, .int .i64 (o.len a0)), (1, .sl 2 a1 .no), (0, .sl 2 a0 .no)] → N ⟨env, [] ++ v, 26⟩) → awp J tab c (thenQ N Q) ⟨[(13, .int .i64 w6), (12, .int .i64 (o.len a0)), (1, .sl 2 a1 .no), (0, .sl 2 a0 .no)], [], 26⟩) : J.code (.loop c) Q s := by
  subst hJo
  obtain ⟨X, hX, HX⟩ := bindR_go H
  refine loop_at (β := Nat × Int) hJ tab_ok (fun | (_, w6) => ⟨[(13, .int .i64 w6), (12, .int .i64 (J.o.len a0)), (1, .sl 2 a1 .no), (0, .sl 2 a0 .no)], [], 26⟩) (fun | (n, w6) => f28_l0 J.o fuel a0 a1 n w6 = some X) (fun | (n, _) => n) (fuel, w6i) hX hle (by rintro ⟨_, _⟩; exact hn) ?_
  rintro ⟨n, w6⟩ hb N hN
  rcases n with _ | n
  · exact none_go (show (none : Option F28L0) = some X from hb)
  exact round X HX n w6 hb N fun env w6' v h1 h2 => hN _ (n, w6') h1 (Nat.lt_succ_self n) ⟨h2, by first | (cbv; done) | (cbv; repeat' (first | exact trivial | exact rfl | apply And.intro)), rfl, rfl⟩

noncomputable def f28 (o : Ops) (fuel : Nat) (a0 : List AV) (a1 : List AV) : Option F28R :=
  ifB (o.bnot (o.cmp .eql (o.len a0) (o.len a1)))
  (some (.v0 false))
  (bindR (f28_l0 o fuel a0 a1 fuel 0) fun r => match r with
   | .x0  => some (.v0 false)
   | .x1  => some (.v0 true))
set_option maxHeartbeats 4000000 in
set_option maxRecDepth 100000 in
theorem f28_call (o : Ops) (ho : o = stdOps) (fuel : Nat) (a0 : List AV) (a1 : List AV) {R : F28R} (H : f28 o fuel a0 a1 = some R) (K : AV → List Ent → Prop) (E : AV → List Ent → Prop) (h : K R.av R.hp) : CallA Try.prog 28 [.sl 2 a0 .no, .sl 2 a1 .no] [] K E := by
  refine call_wk fun K' hK => ?_
  refine call_keep (n₀ := 0) tab_ok Try.func28 rfl rfl rfl rfl ?_
  intro J hJ
  obtain rfl : o = J.o := by rw [ho, hJ]; rfl
  unfold f28 at H
  cbv
  repeat' (first
    | ((with_reducible first | refine awp_go2 ?_ | refine aops_go2 ?_ | refine strip_go2 ?_ | refine draw_go2 ?_ | refine frames_go2 ?_); cbv)
    | (with_reducible refine hold_go hJ ?_; cbv)
    | with_reducible exact id
    | exact trivial
    | with_reducible exact rfl
    | with_reducible exact ⟨_, rfl⟩
    | exact none_go H
    | (cases H; replace H := HX0; clear HX0; (try dsimp only at H))
    | (refine KeepQ.mk [] (by decide) ?_; cbv; cases H; refine hK _ _ _ _ ?_ ?_ rfl h <;> cbv)
    | (refine hN0 _ _ _ H ?_; with_reducible refine wkEnv_go2 ?_; cbv)
    | (refine ifB_go H ?_ ?_ <;> clear H <;> intro hh H)
    | (refine ifB_og H ?_ ?_ <;> clear H <;> intro hh H)
    | (refine req_go H ?_; clear H; intro hh H)
    | (refine gg_t ho H ?_ ?_ <;> clear H <;> intro hh H)
    | (refine gg_f ho H ?_ ?_ <;> clear H <;> intro hh H)
    | (refine bit_go ho H ?_ ?_ <;> clear H <;> intro hh H; (all_goals cbv))
    | (refine nil_go H ?_; clear H; intro b H; cbv)
    | (refine tok_go ?_; cbv)
    | (refine sh57_get H ?_; clear H; intro _ _ he H; cbv)
    | (refine sh57_find H ?_ ?_ <;> clear H; (intro _ _ H; cbv); rotate_left; (intro H; cbv))
    | (refine getA_go (β := UInt8) H ?_; clear H; intro e H; cbv)
    | (refine f28_l0_go hJ (o := J.o) rfl H (by decide) ⟨?_, ?_, rfl, rfl⟩ ?_
       · cbv
         repeat' (first | exact trivial | exact rfl | apply And.intro)
       · cbv
         repeat' (first | exact trivial | exact rfl | apply And.intro)
       clear H
       intro X0 HX0 n _ H Nx0 hN0
       rw [f28_l0] at H
       cbv)
    | (refine lit_t ?_; cbv)
    | (refine lit_f ?_; cbv)
    | (refine known_t (by assumption) ?_)
    | (refine known_f (by assumption) ?_)
    | (refine known_x (by assumption) ?_)
    | (refine known_y (by assumption) ?_)
    | (refine known_get (by assumption) ?_; cbv)
    | (refine known_and (by assumption) ?_)
    | with_reducible refine And.intro ?_ ?_
    | (intro hh; exact hh)
    | (intro _; assumption)
    | (intro hx; first | exact tf_absurd hx (by assumption) | exact tf_absurd (by assumption) hx)
    | (intro _; clear H h; (try clear hN0); (try clear HX0); simp only [ho, stdOps] at *; simp_all)
    | (cbv; with_reducible refine hold_go hJ ?_; cbv))

/-! slices.Equal[[]int64,int64] -/
inductive F62R where
  | v0 (y0 : Bool)
def F62R.av : F62R → AV
  | .v0 y0 => .bool y0
def F62R.hp : F62R → List Ent
  | .v0 _ => []
inductive F62L0 where
  | x0 
  | x1 
noncomputable def f62_l0 (o : Ops) (fuel : Nat) (a0 : List AV) (a1 : List AV) : Nat → Int → Option F62L0
  | 0, _ => none
  | n + 1, w4 =>
    ifB (o.cmp .lss w4 (o.len a0))
    (req (o.inb w4 (o.len a0)) <|
     getA (o.get a0 w4) fun e => sh2 e fun v5 =>
     req (o.inb w4 (o.len a1)) <|
     getA (o.get a1 w4) fun e => sh2 e fun v6 =>
     ifB (o.bnot (o.cmp .eql v5 v6))
     (some (.x0 ))
     (f62_l0 o fuel a0 a1 n (o.ar .add .i64 w4 1)))
    (some (.x1 ))
theorem f62_l0_go {J : Jd} {n₀ : Nat} (hJ : J = std Try.prog n₀) {o : Ops} (hJo : J.o = o) {fuel : Nat} {a0 : List AV} {a1 : List AV} {w4i : Int} {α : Type} {k : F62L0 → Option α} {r : α} {c : Code} {Q : Ex → St → Prop} {s : St}
    (H : bindR (f62_l0 o fuel a0 a1 fuel w4i) k = some r) (hn : n₀ ≤ 0) (hle : Le s ⟨[(13, .int .i64 w4i), (12, .int .i64 (o.len a0)), (1, .sl 1 a1 .no), (0, .sl 1 a0 .no)], [], 26⟩)
    (round : ∀ X, k X = some r → ∀ (n : Nat) (w4 : Int), f62_l0 o fuel a0 a1 (n + 1) w4 = some X → ∀ N : St → Prop,
      (∀ (env : List (Nat × AV)) (w4' : Int) (v : List Ent), f62_l0 o fuel a0 a1 n w4' = some X → wkEnv env [(13, .int .i64 w4'), (12, .int .i64 (o.len a0)), (1, .sl 1 a1 .no), (0, .sl 1 a0 .no)] → N ⟨env, [] ++ v, 26⟩) → awp J tab c (thenQ N Q) ⟨[(13, .int .i64 w4), (12, .int .i64 (o.len a0)), (1, .sl 1 a1 .no), (0, .sl 1 a0 .no)], [], 26⟩) : J.code (.loop c) Q s := by
  subst hJo
  obtain ⟨X, hX, HX⟩ := bindR_go H
  refine loop_at (β := Nat × Int) hJ tab_ok (fun | (_, w4) => ⟨[(13, .int .i64 w4), (12, .int .i64 (J.o.len a0)), (1, .sl 1 a1 .no), (0, .sl 1 a0 .no)], [], 26⟩) (fun | (n, w4) => f62_l0 J.o fuel a0 a1 n w4 = some X) (fun | (n, _) => n) (fuel, w4i) hX hle (by rintro ⟨_, _⟩; exact hn) ?_
  rintro ⟨n, w4⟩ hb N hN
  rcases n with _ | n
  · exact none_go (show (none : Option F62L0) = some X from hb)
  exact round X HX n w4 hb N fun env w4' v h1 h2 => hN _ (n, w4') h1 (Nat.lt_succ_self n) ⟨h2, by first | (cbv; done) | (cbv; repeat' (first | exact trivial | exact rfl | apply And.intro)), rfl, rfl⟩

noncomputable def f62 (o : Ops) (fuel : Nat) (a0 : List AV) (a1 : List AV) : Option F62R :=
  ifB (o.bnot (o.cmp .eql (o.len a0) (o.len a1)))
  (some (.v0 false))
  (bindR (f62_l0 o fuel a0 a1 fuel 0) fun r => match r with
   | .x0  => some (.v0 false)
   | .x1  => some (.v0 true))
set_option maxHeartbeats 4000000 in
set_option maxRecDepth 100000 in
theorem f62_call (o : Ops) (ho : o = stdOps) (fuel : Nat) (a0 : List AV) (a1 : List AV) {R : F62R} (H : f62 o fuel a0 a1 = some R) (K : AV → List Ent → Prop) (E : AV → List Ent → Prop) (h : K R.av R.hp) : CallA Try.prog 62 [.sl 1 a0 .no, .sl 1 a1 .no] [] K E := by
  refine call_wk fun K' hK => ?_
  refine call_keep (n₀ := 0) tab_ok Try.func62 rfl rfl rfl rfl ?_
  intro J hJ
  obtain rfl : o = J.o := by rw [ho, hJ]; rfl
  unfold f62 at H
  cbv
  repeat' (first
    | ((with_reducible first | refine awp_go2 ?_ | refine aops_go2 ?_ | refine strip_go2 ?_ | refine draw_go2 ?_ | refine frames_go2 ?_); cbv)
    | (with_reducible refine hold_go hJ ?_; cbv)
    | with_reducible exact id
    | exact trivial
    | with_reducible exact rfl
    | with_reducible exact ⟨_, rfl⟩
    | exact none_go H
    | (cases H; replace H := HX0; clear HX0; (try dsimp only at H))
    | (refine KeepQ.mk [] (by decide) ?_; cbv; cases H; refine hK _ _ _ _ ?_ ?_ rfl h <;> cbv)
    | (refine hN0 _ _ _ H ?_; with_reducible refine wkEnv_go2 ?_; cbv)
    | (refine ifB_go H ?_ ?_ <;> clear H <;> intro hh H)
    | (refine ifB_og H ?_ ?_ <;> clear H <;> intro hh H)
    | (refine req_go H ?_; clear H; intro hh H)
    | (refine gg_t ho H ?_ ?_ <;> clear H <;> intro hh H)
    | (refine gg_f ho H ?_ ?_ <;> clear H <;> intro hh H)
    | (refine bit_go ho H ?_ ?_ <;> clear H <;> intro hh H; (all_goals cbv))
    | (refine nil_go H ?_; clear H; intro b H; cbv)
    | (refine tok_go ?_; cbv)
    | (refine sh2_get H ?_; clear H; intro _ he H; cbv)
    | (refine sh2_find H ?_ ?_ <;> clear H; (intro _ H; cbv); rotate_left; (intro H; cbv))
    | (refine getA_go (β := UInt8) H ?_; clear H; intro e H; cbv)
    | (refine f62_l0_go hJ (o := J.o) rfl H (by decide) ⟨?_, ?_, rfl, rfl⟩ ?_
       · cbv
         repeat' (first | exact trivial | exact rfl | apply And.intro)
       · cbv
         repeat' (first | exact trivial | exact rfl | apply And.intro)
       clear H
       intro X0 HX0 n _ H Nx0 hN0
       rw [f62_l0] at H
       cbv)
    | (refine lit_t ?_; cbv)
    | (refine lit_f ?_; cbv)
    | (refine known_t (by assumption) ?_)
    | (refine known_f (by assumption) ?_)
    | (refine known_x (by assumption) ?_)
    | (refine known_y (by assumption) ?_)
    | (refine known_get (by assumption) ?_; cbv)
    | (refine known_and (by assumption) ?_)
    | with_reducible refine And.intro ?_ ?_
    | (intro hh; exact hh)
    | (intro _; assumption)
    | (intro hx; first | exact tf_absurd hx (by assumption) | exact tf_absurd (by assumption) hx)
    | (intro _; clear H h; (try clear hN0); (try clear HX0); simp only [ho, stdOps] at *; simp_all)
    | (cbv; with_reducible refine hold_go hJ ?_; cbv))

/-! pontoon/sink.same -/
inductive F74R where
  | v0 (y0 : Bool)
def F74R.av : F74R → AV
  | .v0 y0 => .bool y0
def F74R.hp : F74R → List Ent
  | .v0 _ => []
noncomputable def f74 (o : Ops) (fuel : Nat) (a0 : Int) (a1 : Int) (a2 : Int) (a3 : List AV) (a4 : List AV) (a5 : Int) (a6 : Int) (a7 : Int) (a8 : List AV) (a9 : List AV) : Option F74R :=
  bindR (f73 o fuel a0 a1 a2 a3 a4) fun r => match r with
  | .v0 r10 r11 => bindR (f73 o fuel a5 a6 a7 a8 a9) fun r => match r with
    | .v0 r12 r13 => ifB (o.pick (o.band (o.cmp .eql r10 r12) (o.cmp .eql r11 r13)) (o.cmp .eql a2 a7) false)
      (bindR (f28 o fuel a3 a8) fun r => match r with
       | .v0 r14 => ifB (o.pick (o.pick (o.band (o.cmp .eql r10 r12) (o.cmp .eql r11 r13)) (o.cmp .eql a2 a7) false) r14 false)
         (bindR (f62 o fuel a4 a9) fun r => match r with
          | .v0 r15 => some (.v0 (o.pick (o.pick (o.pick (o.band (o.cmp .eql r10 r12) (o.cmp .eql r11 r13)) (o.cmp .eql a2 a7) false) r14 false) r15 false)))
         (some (.v0 (o.pick (o.pick (o.pick (o.band (o.cmp .eql r10 r12) (o.cmp .eql r11 r13)) (o.cmp .eql a2 a7) false) r14 false) false false))))
      (some (.v0 (o.pick (o.pick (o.pick (o.band (o.cmp .eql r10 r12) (o.cmp .eql r11 r13)) (o.cmp .eql a2 a7) false) false false) false false)))
set_option maxHeartbeats 4000000 in
set_option maxRecDepth 100000 in
theorem f74_call (o : Ops) (ho : o = stdOps) (fuel : Nat) (a0 : Int) (a1 : Int) (a2 : Int) (a3 : List AV) (a4 : List AV) (a5 : Int) (a6 : Int) (a7 : Int) (a8 : List AV) (a9 : List AV) {R : F74R} (H : f74 o fuel a0 a1 a2 a3 a4 a5 a6 a7 a8 a9 = some R) (K : AV → List Ent → Prop) (E : AV → List Ent → Prop) (h : K R.av R.hp) : CallA Try.prog 74 [.agg [.int .i64 a0, .int .i64 a1, .int .i64 a2, .sl 2 a3 .no, .sl 1 a4 .no], .agg [.int .i64 a5, .int .i64 a6, .int .i64 a7, .sl 2 a8 .no, .sl 1 a9 .no]] [] K E := by
  refine call_wk fun K' hK => ?_
  refine call_keep (n₀ := 0) tab_ok Try.func74 rfl rfl rfl rfl ?_
  intro J hJ
  obtain rfl : o = J.o := by rw [ho, hJ]; rfl
  unfold f74 at H
  cbv
  repeat' (first
    | ((with_reducible first | refine awp_go2 ?_ | refine aops_go2 ?_ | refine strip_go2 ?_ | refine draw_go2 ?_ | refine frames_go2 ?_); cbv)
    | (with_reducible refine hold_go hJ ?_; cbv)
    | with_reducible exact id
    | exact trivial
    | with_reducible exact rfl
    | with_reducible exact ⟨_, rfl⟩
    | exact none_go H
    | (refine KeepQ.mk [] (by decide) ?_; cbv; cases H; refine hK _ _ _ _ ?_ ?_ rfl h <;> cbv)
    | (first | refine known_f (kn_pick_f ho (by assumption) rfl) ?_ | refine known_x (kn_pick_f ho (by assumption) rfl) ?_)
    | (refine ifB_go H ?_ ?_ <;> clear H <;> intro hh H)
    | (refine ifB_og H ?_ ?_ <;> clear H <;> intro hh H)
    | (refine req_go H ?_; clear H; intro hh H)
    | (refine gg_t ho H ?_ ?_ <;> clear H <;> intro hh H)
    | (refine gg_f ho H ?_ ?_ <;> clear H <;> intro hh H)
    | (refine bit_go ho H ?_ ?_ <;> clear H <;> intro hh H; (all_goals cbv))
    | (refine nil_go H ?_; clear H; intro b H; cbv)
    | (refine tok_go ?_; cbv)
    | (refine getA_go (β := UInt8) H ?_; clear H; intro e H; cbv)
    | (obtain ⟨R, hR, H2⟩ := bindR_go H; refine call_in hJ [] (by decide) rfl rfl rfl (f62_call _ ho _ _ _ hR _ _ ?_); clear H hR; rcases R with ⟨_⟩; all_goals (replace H := H2; clear H2; (try dsimp only at H); cbv))
    | (obtain ⟨R, hR, H2⟩ := bindR_go H; refine call_in hJ [] (by decide) rfl rfl rfl (f28_call _ ho _ _ _ hR _ _ ?_); clear H hR; rcases R with ⟨_⟩; all_goals (replace H := H2; clear H2; (try dsimp only at H); cbv))
    | (obtain ⟨R, hR, H2⟩ := bindR_go H; refine call_in hJ [] (by decide) rfl rfl rfl (f73_call _ ho _ _ _ _ _ _ hR _ _ ?_); clear H hR; rcases R with ⟨_, _⟩; all_goals (replace H := H2; clear H2; (try dsimp only at H); cbv))
    | (refine lit_t ?_; cbv)
    | (refine lit_f ?_; cbv)
    | (refine known_t (by assumption) ?_)
    | (refine known_f (by assumption) ?_)
    | (refine known_x (by assumption) ?_)
    | (refine known_y (by assumption) ?_)
    | (refine known_get (by assumption) ?_; cbv)
    | (refine known_and (by assumption) ?_)
    | with_reducible refine And.intro ?_ ?_
    | (intro hh; exact hh)
    | (intro _; assumption)
    | (intro hx; first | exact tf_absurd hx (by assumption) | exact tf_absurd (by assumption) hx)
    | (intro _; clear H h; simp only [ho, stdOps] at *; simp_all)
    | (cbv; with_reducible refine hold_go hJ ?_; cbv))

end Go.Proofs.Ytjdbmfipciadfaa.A
