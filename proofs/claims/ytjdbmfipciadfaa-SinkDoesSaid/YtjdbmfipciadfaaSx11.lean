/- Functions of the program and of the document's answer, as plain ones. Written by lift.py. -/
import Derived.Test.YtjdbmfipciadfaaSx0
import Derived.Test.YtjdbmfipciadfaaSx3
import Derived.Test.YtjdbmfipciadfaaSx1
import Derived.Test.YtjdbmfipciadfaaSx5

namespace Go.Proofs.Ytjdbmfipciadfaa.A
open Go Go.Pt

/-! (*pontoon/sink.Sink).Vector -/
inductive F26R where
  | v0 (y0 : List AV)
def F26R.av : F26R → AV
  | .v0 y0 => .sl 1 y0 .no
def F26R.hp (a0 : Nat) (a1 : Int) (a2 : Int) (a3 : List AV) (a4 : List AV) (a5 : List (AV × AV)) (a6 : List (AV × AV)) : F26R → List Ent
  | .v0 _ => [.var [.int .i64 a1, .int .i64 a2, .sl 2 a3 (.tip 1 a0), .sl 1 a4 .no, .mp 2, .mp 3], .tip a0, .mp a5, .mp a6]
noncomputable def f26 (o : Ops) (fuel : Nat) (a0 : Nat) (a1 : Int) (a2 : Int) (a3 : List AV) (a4 : List AV) (a5 : List (AV × AV)) (a6 : List (AV × AV)) : Option F26R :=
  bindR (f70 o fuel a0 a1 a2 a3 a4 a5 a6) fun r => match r with
  | .v0 r7 => ifB r7
    (some (.v0 []))
    (bindR (f78 o fuel a4) fun r => match r with
     | .v0 r8 => some (.v0 r8))
set_option maxHeartbeats 4000000 in
set_option maxRecDepth 100000 in
theorem f26_call (o : Ops) (ho : o = stdOps) (fuel : Nat) (a0 : Nat) (a1 : Int) (a2 : Int) (a3 : List AV) (a4 : List AV) (a5 : List (AV × AV)) (a6 : List (AV × AV)) {R : F26R} (H : f26 o fuel a0 a1 a2 a3 a4 a5 a6 = some R) (K : AV → List Ent → Prop) (E : AV → List Ent → Prop) (h : K R.av (F26R.hp a0 a1 a2 a3 a4 a5 a6 R)) : CallA Try.prog 26 [.ptr 0 0] [.var [.int .i64 a1, .int .i64 a2, .sl 2 a3 (.tip 1 a0), .sl 1 a4 .no, .mp 2, .mp 3], .tip a0, .mp a5, .mp a6] K E := by
  refine call_wk fun K' hK => ?_
  refine call_keep (n₀ := 4) tab_ok Try.func26 rfl rfl rfl rfl ?_
  intro J hJ
  obtain rfl : o = J.o := by rw [ho, hJ]; rfl
  unfold f26 at H
  cbv
  repeat' (first
    | ((with_reducible first | refine awp_go2 ?_ | refine aops_go2 ?_ | refine strip_go2 ?_ | refine draw_go2 ?_ | refine frames_go2 ?_); cbv)
    | (with_reducible refine hold_go hJ ?_; cbv)
    | with_reducible exact id
    | exact trivial
    | with_reducible exact rfl
    | with_reducible exact ⟨_, rfl⟩
    | exact none_go H
    | (refine KeepQ.mk [] (by decide) ?_; cbv; cases H; refine hK _ _ _ _ ?_ ?_ rfl h <;> cbv)
    | (refine ifB_go H ?_ ?_ <;> clear H <;> intro hh H)
    | (refine ifB_og H ?_ ?_ <;> clear H <;> intro hh H)
    | (refine req_go H ?_; clear H; intro hh H)
    | (refine gg_t ho H ?_ ?_ <;> clear H <;> intro hh H)
    | (refine gg_f ho H ?_ ?_ <;> clear H <;> intro hh H)
    | (refine bit_go ho H ?_ ?_ <;> clear H <;> intro hh H; (all_goals cbv))
    | (refine nil_go H ?_; clear H; intro b H; cbv)
    | (refine tok_go ?_; cbv)
    | (refine getA_go (β := UInt8) H ?_; clear H; intro e H; cbv)
    | (obtain ⟨R, hR, H2⟩ := bindR_go H; refine call_in hJ [] (by decide) rfl rfl rfl (f78_call _ ho _ _ hR _ _ ?_); clear H hR; rcases R with ⟨_⟩; all_goals (replace H := H2; clear H2; (try dsimp only at H); cbv))
    | (obtain ⟨R, hR, H2⟩ := bindR_go H; refine call_in hJ [0, 1, 2, 3] (by decide) rfl rfl rfl (f70_call _ ho _ _ _ _ _ _ _ _ hR _ _ ?_); clear H hR; rcases R with ⟨_⟩; all_goals (replace H := H2; clear H2; (try dsimp only at H); cbv))
    | (refine lit_t ?_; cbv)
    | (refine lit_f ?_; cbv)
    | (refine known_t (by assumption) ?_)
    | (refine known_f (by assumption) ?_)
    | (refine known_x (by assumption) ?_)
    | (refine known_y (by assumption) ?_)
    | (refine known_get (by assumption) ?_; cbv)
    | (refine known_and (by assumption) ?_)
    | with_reducible refine And.intro ?_ ?_
    | (intro hh; exact hh)
    | (intro _; assumption)
    | (intro hx; first | exact tf_absurd hx (by assumption) | exact tf_absurd (by assumption) hx)
    | (intro _; clear H h; simp only [ho, stdOps] at *; simp_all)
    | (cbv; with_reducible refine hold_go hJ ?_; cbv))

/-! (*pontoon/pontoonref15.Sink).raise -/
inductive F130R where
  | v0 (y0 : Int) (y1 : Int) (y2 : List AV) (y3 : List AV)
def F130R.av : F130R → AV
  | .v0 y0 _ _ _ => .int .i64 y0
def F130R.hp (a1 : Int) (a3 : List AV) (a4 : List AV) : F130R → List Ent
  | .v0 _ y1 y2 y3 => [.var [.int .i64 a1, .int .i64 y1, .sl 2 a3 .no, .sl 1 a4 .no, .sl 1 y2 .no, .sl 5 y3 .no]]
noncomputable def f130 (o : Ops) (_fuel : Nat) (a0 : Int) (_a1 : Int) (a2 : Int) (_a3 : List AV) (_a4 : List AV) (a5 : List AV) (a6 : List AV) : Option F130R :=
  ifB (o.cmp .lss a0 a2)
  (some (.v0 150 a2 a5 a6))
  (ifB (o.cmp .gtr a0 a2)
   (some (.v0 0 a0 [] []))
   (some (.v0 0 a2 a5 a6)))
set_option maxHeartbeats 4000000 in
set_option maxRecDepth 100000 in
theorem f130_call (o : Ops) (ho : o = stdOps) (fuel : Nat) (a0 : Int) (a1 : Int) (a2 : Int) (a3 : List AV) (a4 : List AV) (a5 : List AV) (a6 : List AV) {R : F130R} (H : f130 o fuel a0 a1 a2 a3 a4 a5 a6 = some R) (K : AV → List Ent → Prop) (E : AV → List Ent → Prop) (h : K R.av (F130R.hp a1 a3 a4 R)) : CallA Try.prog 130 [.ptr 0 0, .int .i64 a0] [.var [.int .i64 a1, .int .i64 a2, .sl 2 a3 .no, .sl 1 a4 .no, .sl 1 a5 .no, .sl 5 a6 .no]] K E := by
  refine call_wk fun K' hK => ?_
  refine call_keep (n₀ := 1) tab_ok Try.func130 rfl rfl rfl rfl ?_
  intro J hJ
  obtain rfl : o = J.o := by rw [ho, hJ]; rfl
  unfold f130 at H
  cbv
  repeat' (first
    | ((with_reducible first | refine awp_go2 ?_ | refine aops_go2 ?_ | refine strip_go2 ?_ | refine draw_go2 ?_ | refine frames_go2 ?_); cbv)
    | (with_reducible refine hold_go hJ ?_; cbv)
    | with_reducible exact id
    | exact trivial
    | with_reducible exact rfl
    | with_reducible exact ⟨_, rfl⟩
    | exact none_go H
    | (refine KeepQ.mk [] (by decide) ?_; cbv; cases H; refine hK _ _ _ _ ?_ ?_ rfl h <;> cbv)
    | (refine ifB_go H ?_ ?_ <;> clear H <;> intro hh H)
    | (refine ifB_og H ?_ ?_ <;> clear H <;> intro hh H)
    | (refine req_go H ?_; clear H; intro hh H)
    | (refine gg_t ho H ?_ ?_ <;> clear H <;> intro hh H)
    | (refine gg_f ho H ?_ ?_ <;> clear H <;> intro hh H)
    | (refine bit_go ho H ?_ ?_ <;> clear H <;> intro hh H; (all_goals cbv))
    | (refine nil_go H ?_; clear H; intro b H; cbv)
    | (refine tok_go ?_; cbv)
    | (refine getA_go (β := UInt8) H ?_; clear H; intro e H; cbv)
    | (refine lit_t ?_; cbv)
    | (refine lit_f ?_; cbv)
    | (refine known_t (by assumption) ?_)
    | (refine known_f (by assumption) ?_)
    | (refine known_x (by assumption) ?_)
    | (refine known_y (by assumption) ?_)
    | (refine known_get (by assumption) ?_; cbv)
    | (refine known_and (by assumption) ?_)
    | with_reducible refine And.intro ?_ ?_
    | (intro hh; exact hh)
    | (intro _; assumption)
    | (intro hx; first | exact tf_absurd hx (by assumption) | exact tf_absurd (by assumption) hx)
    | (intro _; clear H h; simp only [ho, stdOps] at *; simp_all)
    | (cbv; with_reducible refine hold_go hJ ?_; cbv))

/-! (*pontoon/pontoonref15.Sink).Fence -/
inductive F87R where
  | v0 (y0 : Int) (y1 : Int) (y2 : List AV) (y3 : List AV)
def F87R.av : F87R → AV
  | .v0 y0 _ _ _ => .int .i64 y0
def F87R.hp (a1 : Int) (a3 : List AV) (a4 : List AV) : F87R → List Ent
  | .v0 _ y1 y2 y3 => [.var [.int .i64 a1, .int .i64 y1, .sl 2 a3 .no, .sl 1 a4 .no, .sl 1 y2 .no, .sl 5 y3 .no]]
noncomputable def f87 (o : Ops) (fuel : Nat) (a0 : Int) (a1 : Int) (a2 : Int) (a3 : List AV) (a4 : List AV) (a5 : List AV) (a6 : List AV) : Option F87R :=
  bindR (f82 o fuel a0) fun r => match r with
  | .v0 r7 => ifB (o.bnot r7)
    (some (.v0 1 a2 a5 a6))
    (bindR (f130 o fuel a0 a1 a2 a3 a4 a5 a6) fun r => match r with
     | .v0 r8 r9 r10 r11 => some (.v0 r8 r9 r10 r11))
set_option maxHeartbeats 4000000 in
set_option maxRecDepth 100000 in
theorem f87_call (o : Ops) (ho : o = stdOps) (fuel : Nat) (a0 : Int) (a1 : Int) (a2 : Int) (a3 : List AV) (a4 : List AV) (a5 : List AV) (a6 : List AV) {R : F87R} (H : f87 o fuel a0 a1 a2 a3 a4 a5 a6 = some R) (K : AV → List Ent → Prop) (E : AV → List Ent → Prop) (h : K R.av (F87R.hp a1 a3 a4 R)) : CallA Try.prog 87 [.ptr 0 0, .int .i64 a0] [.var [.int .i64 a1, .int .i64 a2, .sl 2 a3 .no, .sl 1 a4 .no, .sl 1 a5 .no, .sl 5 a6 .no]] K E := by
  refine call_wk fun K' hK => ?_
  refine call_keep (n₀ := 1) tab_ok Try.func87 rfl rfl rfl rfl ?_
  intro J hJ
  obtain rfl : o = J.o := by rw [ho, hJ]; rfl
  unfold f87 at H
  cbv
  repeat' (first
    | ((with_reducible first | refine awp_go2 ?_ | refine aops_go2 ?_ | refine strip_go2 ?_ | refine draw_go2 ?_ | refine frames_go2 ?_); cbv)
    | (with_reducible refine hold_go hJ ?_; cbv)
    | with_reducible exact id
    | exact trivial
    | with_reducible exact rfl
    | with_reducible exact ⟨_, rfl⟩
    | exact none_go H
    | (refine KeepQ.mk [] (by decide) ?_; cbv; cases H; refine hK _ _ _ _ ?_ ?_ rfl h <;> cbv)
    | (refine ifB_go H ?_ ?_ <;> clear H <;> intro hh H)
    | (refine ifB_og H ?_ ?_ <;> clear H <;> intro hh H)
    | (refine req_go H ?_; clear H; intro hh H)
    | (refine gg_t ho H ?_ ?_ <;> clear H <;> intro hh H)
    | (refine gg_f ho H ?_ ?_ <;> clear H <;> intro hh H)
    | (refine bit_go ho H ?_ ?_ <;> clear H <;> intro hh H; (all_goals cbv))
    | (refine nil_go H ?_; clear H; intro b H; cbv)
    | (refine tok_go ?_; cbv)
    | (refine getA_go (β := UInt8) H ?_; clear H; intro e H; cbv)
    | (obtain ⟨R, hR, H2⟩ := bindR_go H; refine call_in hJ [0] (by decide) rfl rfl rfl (f130_call _ ho _ _ _ _ _ _ _ _ hR _ _ ?_); clear H hR; rcases R with ⟨_, _, _, _⟩; all_goals (replace H := H2; clear H2; (try dsimp only at H); cbv))
    | (obtain ⟨R, hR, H2⟩ := bindR_go H; refine call_in hJ [] (by decide) rfl rfl rfl (f82_call _ ho _ _ hR _ _ ?_); clear H hR; rcases R with ⟨_⟩; all_goals (replace H := H2; clear H2; (try dsimp only at H); cbv))
    | (refine lit_t ?_; cbv)
    | (refine lit_f ?_; cbv)
    | (refine known_t (by assumption) ?_)
    | (refine known_f (by assumption) ?_)
    | (refine known_x (by assumption) ?_)
    | (refine known_y (by assumption) ?_)
    | (refine known_get (by assumption) ?_; cbv)
    | (refine known_and (by assumption) ?_)
    | with_reducible refine And.intro ?_ ?_
    | (intro hh; exact hh)
    | (intro _; assumption)
    | (intro hx; first | exact tf_absurd hx (by assumption) | exact tf_absurd (by assumption) hx)
    | (intro _; clear H h; simp only [ho, stdOps] at *; simp_all)
    | (cbv; with_reducible refine hold_go hJ ?_; cbv))

/-! pontoon/pontoonref15.hasInt -/
inductive F103R where
  | v0 (y0 : Bool)
def F103R.av : F103R → AV
  | .v0 y0 => .bool y0
def F103R.hp : F103R → List Ent
  | .v0 _ => []
inductive F103L0 where
  | x0 
  | x1 
noncomputable def f103_l0 (o : Ops) (fuel : Nat) (a0 : List AV) (a1 : Int) : Nat → Int → Option F103L0
  | 0, _ => none
  | n + 1, w3 =>
    ifB (o.cmp .lss w3 (o.len a0))
    (req (o.inb w3 (o.len a0)) <|
     getA (o.get a0 w3) fun e => sh2 e fun v4 =>
     ifB (o.cmp .eql v4 a1)
     (some (.x0 ))
     (f103_l0 o fuel a0 a1 n (o.ar .add .i64 w3 1)))
    (some (.x1 ))
theorem f103_l0_go {J : Jd} {n₀ : Nat} (hJ : J = std Try.prog n₀) {o : Ops} (hJo : J.o = o) {fuel : Nat} {a0 : List AV} {a1 : Int} {w3i : Int} {α : Type} {k : F103L0 → Option α} {r : α} {c : Code} {Q : Ex → St → Prop} {s : St}
    (H : bindR (f103_l0 o fuel a0 a1 fuel w3i) k = some r) (hn : n₀ ≤ 0) (hle : Le s ⟨[(5, .int .i64 w3i), (1, .int .i64 a1), (0, .sl 1 a0 .no)], [], 18⟩)
    (round : ∀ X, k X = some r → ∀ (n : Nat) (w3 : Int), f103_l0 o fuel a0 a1 (n + 1) w3 = some X → ∀ N : St → Prop,
      (∀ (env : List (Nat × AV)) (w3' : Int) (v : List Ent), f103_l0 o fuel a0 a1 n w3' = some X → wkEnv env [(5, .int .i64 w3'), (1, .int .i64 a1), (0, .sl 1 a0 .no)] → N ⟨env, [] ++ v, 18⟩) → awp J tab c (thenQ N Q) ⟨[(5, .int .i64 w3), (1, .int .i64 a1), (0, .sl 1 a0 .no)], [], 18⟩) : J.code (.loop c) Q s := by
  subst hJo
  obtain ⟨X, hX, HX⟩ := bindR_go H
  refine loop_at (β := Nat × Int) hJ tab_ok (fun | (_, w3) => ⟨[(5, .int .i64 w3), (1, .int .i64 a1), (0, .sl 1 a0 .no)], [], 18⟩) (fun | (n, w3) => f103_l0 J.o fuel a0 a1 n w3 = some X) (fun | (n, _) => n) (fuel, w3i) hX hle (by rintro ⟨_, _⟩; exact hn) ?_
  rintro ⟨n, w3⟩ hb N hN
  rcases n with _ | n
  · exact none_go (show (none : Option F103L0) = some X from hb)
  exact round X HX n w3 hb N fun env w3' v h1 h2 => hN _ (n, w3') h1 (Nat.lt_succ_self n) ⟨h2, by first | (cbv; done) | (cbv; repeat' (first | exact trivial | exact rfl | apply And.intro)), rfl, rfl⟩

noncomputable def f103 (o : Ops) (fuel : Nat) (a0 : List AV) (a1 : Int) : Option F103R :=
  bindR (f103_l0 o fuel a0 a1 fuel 0) fun r => match r with
  | .x0  => some (.v0 true)
  | .x1  => some (.v0 false)
set_option maxHeartbeats 4000000 in
set_option maxRecDepth 100000 in
theorem f103_call (o : Ops) (ho : o = stdOps) (fuel : Nat) (a0 : List AV) (a1 : Int) {R : F103R} (H : f103 o fuel a0 a1 = some R) (K : AV → List Ent → Prop) (E : AV → List Ent → Prop) (h : K R.av R.hp) : CallA Try.prog 103 [.sl 1 a0 .no, .int .i64 a1] [] K E := by
  refine call_wk fun K' hK => ?_
  refine call_keep (n₀ := 0) tab_ok Try.func103 rfl rfl rfl rfl ?_
  intro J hJ
  obtain rfl : o = J.o := by rw [ho, hJ]; rfl
  unfold f103 at H
  cbv
  repeat' (first
    | ((with_reducible first | refine awp_go2 ?_ | refine aops_go2 ?_ | refine strip_go2 ?_ | refine draw_go2 ?_ | refine frames_go2 ?_); cbv)
    | (with_reducible refine hold_go hJ ?_; cbv)
    | with_reducible exact id
    | exact trivial
    | with_reducible exact rfl
    | with_reducible exact ⟨_, rfl⟩
    | exact none_go H
    | (cases H; replace H := HX0; clear HX0; (try dsimp only at H))
    | (refine KeepQ.mk [] (by decide) ?_; cbv; cases H; refine hK _ _ _ _ ?_ ?_ rfl h <;> cbv)
    | (refine hN0 _ _ _ H ?_; with_reducible refine wkEnv_go2 ?_; cbv)
    | (refine ifB_go H ?_ ?_ <;> clear H <;> intro hh H)
    | (refine ifB_og H ?_ ?_ <;> clear H <;> intro hh H)
    | (refine req_go H ?_; clear H; intro hh H)
    | (refine gg_t ho H ?_ ?_ <;> clear H <;> intro hh H)
    | (refine gg_f ho H ?_ ?_ <;> clear H <;> intro hh H)
    | (refine bit_go ho H ?_ ?_ <;> clear H <;> intro hh H; (all_goals cbv))
    | (refine nil_go H ?_; clear H; intro b H; cbv)
    | (refine tok_go ?_; cbv)
    | (refine sh2_get H ?_; clear H; intro _ he H; cbv)
    | (refine sh2_find H ?_ ?_ <;> clear H; (intro _ H; cbv); rotate_left; (intro H; cbv))
    | (refine getA_go (β := UInt8) H ?_; clear H; intro e H; cbv)
    | (refine f103_l0_go hJ (o := J.o) rfl H (by decide) ⟨?_, ?_, rfl, rfl⟩ ?_
       · cbv
         repeat' (first | exact trivial | exact rfl | apply And.intro)
       · cbv
         repeat' (first | exact trivial | exact rfl | apply And.intro)
       clear H
       intro X0 HX0 n _ H Nx0 hN0
       rw [f103_l0] at H
       cbv)
    | (refine lit_t ?_; cbv)
    | (refine lit_f ?_; cbv)
    | (refine known_t (by assumption) ?_)
    | (refine known_f (by assumption) ?_)
    | (refine known_x (by assumption) ?_)
    | (refine known_y (by assumption) ?_)
    | (refine known_get (by assumption) ?_; cbv)
    | (refine known_and (by assumption) ?_)
    | with_reducible refine And.intro ?_ ?_
    | (intro hh; exact hh)
    | (intro _; assumption)
    | (intro hx; first | exact tf_absurd hx (by assumption) | exact tf_absurd (by assumption) hx)
    | (intro _; clear H h; (try clear hN0); (try clear HX0); simp only [ho, stdOps] at *; simp_all)
    | (cbv; with_reducible refine hold_go hJ ?_; cbv))

/-! (*pontoon/pontoonref15.Sink).Done -/
inductive F109R where
  | v0 (y0 : Bool)
def F109R.av : F109R → AV
  | .v0 y0 => .bool y0
def F109R.hp (a2 : Int) (a3 : Int) (a4 : List AV) (a5 : List AV) (a6 : List AV) (a7 : List AV) : F109R → List Ent
  | .v0 _ => [.var [.int .i64 a2, .int .i64 a3, .sl 2 a4 .no, .sl 1 a5 .no, .sl 1 a6 .no, .sl 5 a7 .no]]
noncomputable def f109 (o : Ops) (fuel : Nat) (a0 : Int) (a1 : Int) (_a2 : Int) (a3 : Int) (_a4 : List AV) (_a5 : List AV) (a6 : List AV) (_a7 : List AV) : Option F109R :=
  ifB (o.pick (o.cmp .eql a0 a3) (o.cmp .geq a0 1) false)
  (bindR (f103 o fuel a6 a1) fun r => match r with
   | .v0 r8 => some (.v0 (o.pick (o.pick (o.cmp .eql a0 a3) (o.cmp .geq a0 1) false) r8 false)))
  (some (.v0 (o.pick (o.pick (o.cmp .eql a0 a3) (o.cmp .geq a0 1) false) false false)))
set_option maxHeartbeats 4000000 in
set_option maxRecDepth 100000 in
theorem f109_call (o : Ops) (ho : o = stdOps) (fuel : Nat) (a0 : Int) (a1 : Int) (a2 : Int) (a3 : Int) (a4 : List AV) (a5 : List AV) (a6 : List AV) (a7 : List AV) {R : F109R} (H : f109 o fuel a0 a1 a2 a3 a4 a5 a6 a7 = some R) (K : AV → List Ent → Prop) (E : AV → List Ent → Prop) (h : K R.av (F109R.hp a2 a3 a4 a5 a6 a7 R)) : CallA Try.prog 109 [.ptr 0 0, .agg [.int .i64 a0, .int .i64 a1]] [.var [.int .i64 a2, .int .i64 a3, .sl 2 a4 .no, .sl 1 a5 .no, .sl 1 a6 .no, .sl 5 a7 .no]] K E := by
  refine call_wk fun K' hK => ?_
  refine call_keep (n₀ := 1) tab_ok Try.func109 rfl rfl rfl rfl ?_
  intro J hJ
  obtain rfl : o = J.o := by rw [ho, hJ]; rfl
  unfold f109 at H
  cbv
  repeat' (first
    | ((with_reducible first | refine awp_go2 ?_ | refine aops_go2 ?_ | refine strip_go2 ?_ | refine draw_go2 ?_ | refine frames_go2 ?_); cbv)
    | (with_reducible refine hold_go hJ ?_; cbv)
    | with_reducible exact id
    | exact trivial
    | with_reducible exact rfl
    | with_reducible exact ⟨_, rfl⟩
    | exact none_go H
    | (refine KeepQ.mk [] (by decide) ?_; cbv; cases H; refine hK _ _ _ _ ?_ ?_ rfl h <;> cbv)
    | (refine ifB_go H ?_ ?_ <;> clear H <;> intro hh H)
    | (refine ifB_og H ?_ ?_ <;> clear H <;> intro hh H)
    | (refine req_go H ?_; clear H; intro hh H)
    | (refine gg_t ho H ?_ ?_ <;> clear H <;> intro hh H)
    | (refine gg_f ho H ?_ ?_ <;> clear H <;> intro hh H)
    | (refine bit_go ho H ?_ ?_ <;> clear H <;> intro hh H; (all_goals cbv))
    | (refine nil_go H ?_; clear H; intro b H; cbv)
    | (refine tok_go ?_; cbv)
    | (refine getA_go (β := UInt8) H ?_; clear H; intro e H; cbv)
    | (obtain ⟨R, hR, H2⟩ := bindR_go H; refine call_in hJ [] (by decide) rfl rfl rfl (f103_call _ ho _ _ _ hR _ _ ?_); clear H hR; rcases R with ⟨_⟩; all_goals (replace H := H2; clear H2; (try dsimp only at H); cbv))
    | (refine lit_t ?_; cbv)
    | (refine lit_f ?_; cbv)
    | (refine known_t (by assumption) ?_)
    | (refine known_f (by assumption) ?_)
    | (refine known_x (by assumption) ?_)
    | (refine known_y (by assumption) ?_)
    | (refine known_get (by assumption) ?_; cbv)
    | (refine known_and (by assumption) ?_)
    | with_reducible refine And.intro ?_ ?_
    | (intro hh; exact hh)
    | (intro _; assumption)
    | (intro hx; first | exact tf_absurd hx (by assumption) | exact tf_absurd (by assumption) hx)
    | (intro _; clear H h; simp only [ho, stdOps] at *; simp_all)
    | (cbv; with_reducible refine hold_go hJ ?_; cbv))

/-! (*pontoon/pontoonref15.Sink).find -/
inductive F131R where
  | v0 (y0 : Int)
def F131R.av : F131R → AV
  | .v0 y0 => .int .i64 y0
def F131R.hp (a1 : Int) (a2 : Int) (a3 : List AV) (a4 : List AV) (a5 : List AV) (a6 : List AV) : F131R → List Ent
  | .v0 _ => [.var [.int .i64 a1, .int .i64 a2, .sl 2 a3 .no, .sl 1 a4 .no, .sl 1 a5 .no, .sl 5 a6 .no]]
inductive F131L0 where
  | x0 (y0 : Int)
  | x1 
noncomputable def f131_l0 (o : Ops) (fuel : Nat) (a6 : List AV) (a0 : Int) (a1 : Int) (a2 : Int) (a3 : List AV) (a4 : List AV) (a5 : List AV) : Nat → Int → Option F131L0
  | 0, _ => none
  | n + 1, w12 =>
    ifB (o.cmp .lss w12 (o.len a6))
    (req (o.inb w12 (o.len a6)) <|
     getA (o.get a6 w12) fun e => sh31 e fun _ v14 _ _ _ =>
     ifB (o.cmp .eql v14 a0)
     (some (.x0 w12))
     (f131_l0 o fuel a6 a0 a1 a2 a3 a4 a5 n (o.ar .add .i64 w12 1)))
    (some (.x1 ))
theorem f131_l0_go {J : Jd} {n₀ : Nat} (hJ : J = std Try.prog n₀) {o : Ops} (hJo : J.o = o) {fuel : Nat} {a6 : List AV} {a0 : Int} {a1 : Int} {a2 : Int} {a3 : List AV} {a4 : List AV} {a5 : List AV} {w12i : Int} {α : Type} {k : F131L0 → Option α} {r : α} {c : Code} {Q : Ex → St → Prop} {s : St}
    (H : bindR (f131_l0 o fuel a6 a0 a1 a2 a3 a4 a5 fuel w12i) k = some r) (hn : n₀ ≤ 1) (hle : Le s ⟨[(5, .int .i64 w12i), (1, .int .i64 a0), (0, .ptr 0 0)], [.var [.int .i64 a1, .int .i64 a2, .sl 2 a3 .no, .sl 1 a4 .no, .sl 1 a5 .no, .sl 5 a6 .no]], 28⟩)
    (round : ∀ X, k X = some r → ∀ (n : Nat) (w12 : Int), f131_l0 o fuel a6 a0 a1 a2 a3 a4 a5 (n + 1) w12 = some X → ∀ N : St → Prop,
      (∀ (env : List (Nat × AV)) (w12' : Int) (v : List Ent), f131_l0 o fuel a6 a0 a1 a2 a3 a4 a5 n w12' = some X → wkEnv env [(5, .int .i64 w12'), (1, .int .i64 a0), (0, .ptr 0 0)] → N ⟨env, [.var [.int .i64 a1, .int .i64 a2, .sl 2 a3 .no, .sl 1 a4 .no, .sl 1 a5 .no, .sl 5 a6 .no]] ++ v, 28⟩) → awp J tab c (thenQ N Q) ⟨[(5, .int .i64 w12), (1, .int .i64 a0), (0, .ptr 0 0)], [.var [.int .i64 a1, .int .i64 a2, .sl 2 a3 .no, .sl 1 a4 .no, .sl 1 a5 .no, .sl 5 a6 .no]], 28⟩) : J.code (.loop c) Q s := by
  subst hJo
  obtain ⟨X, hX, HX⟩ := bindR_go H
  refine loop_at (β := Nat × Int) hJ tab_ok (fun | (_, w12) => ⟨[(5, .int .i64 w12), (1, .int .i64 a0), (0, .ptr 0 0)], [.var [.int .i64 a1, .int .i64 a2, .sl 2 a3 .no, .sl 1 a4 .no, .sl 1 a5 .no, .sl 5 a6 .no]], 28⟩) (fun | (n, w12) => f131_l0 J.o fuel a6 a0 a1 a2 a3 a4 a5 n w12 = some X) (fun | (n, _) => n) (fuel, w12i) hX hle (by rintro ⟨_, _⟩; exact hn) ?_
  rintro ⟨n, w12⟩ hb N hN
  rcases n with _ | n
  · exact none_go (show (none : Option F131L0) = some X from hb)
  exact round X HX n w12 hb N fun env w12' v h1 h2 => hN _ (n, w12') h1 (Nat.lt_succ_self n) ⟨h2, by first | (cbv; done) | (cbv; repeat' (first | exact trivial | exact rfl | apply And.intro)), rfl, rfl⟩

noncomputable def f131 (o : Ops) (fuel : Nat) (a0 : Int) (a1 : Int) (a2 : Int) (a3 : List AV) (a4 : List AV) (a5 : List AV) (a6 : List AV) : Option F131R :=
  bindR (f131_l0 o fuel a6 a0 a1 a2 a3 a4 a5 fuel 0) fun r => match r with
  | .x0 y18 => some (.v0 y18)
  | .x1  => some (.v0 (-1))
set_option maxHeartbeats 4000000 in
set_option maxRecDepth 100000 in
theorem f131_call (o : Ops) (ho : o = stdOps) (fuel : Nat) (a0 : Int) (a1 : Int) (a2 : Int) (a3 : List AV) (a4 : List AV) (a5 : List AV) (a6 : List AV) {R : F131R} (H : f131 o fuel a0 a1 a2 a3 a4 a5 a6 = some R) (K : AV → List Ent → Prop) (E : AV → List Ent → Prop) (h : K R.av (F131R.hp a1 a2 a3 a4 a5 a6 R)) : CallA Try.prog 131 [.ptr 0 0, .int .i64 a0] [.var [.int .i64 a1, .int .i64 a2, .sl 2 a3 .no, .sl 1 a4 .no, .sl 1 a5 .no, .sl 5 a6 .no]] K E := by
  refine call_wk fun K' hK => ?_
  refine call_keep (n₀ := 1) tab_ok Try.func131 rfl rfl rfl rfl ?_
  intro J hJ
  obtain rfl : o = J.o := by rw [ho, hJ]; rfl
  unfold f131 at H
  cbv
  repeat' (first
    | ((with_reducible first | refine awp_go2 ?_ | refine aops_go2 ?_ | refine strip_go2 ?_ | refine draw_go2 ?_ | refine frames_go2 ?_); cbv)
    | (with_reducible refine hold_go hJ ?_; cbv)
    | with_reducible exact id
    | exact trivial
    | with_reducible exact rfl
    | with_reducible exact ⟨_, rfl⟩
    | exact none_go H
    | (cases H; replace H := HX0; clear HX0; (try dsimp only at H))
    | (refine KeepQ.mk [] (by decide) ?_; cbv; cases H; refine hK _ _ _ _ ?_ ?_ rfl h <;> cbv)
    | (refine hN0 _ _ _ H ?_; with_reducible refine wkEnv_go2 ?_; cbv)
    | (refine ifB_go H ?_ ?_ <;> clear H <;> intro hh H)
    | (refine ifB_og H ?_ ?_ <;> clear H <;> intro hh H)
    | (refine req_go H ?_; clear H; intro hh H)
    | (refine gg_t ho H ?_ ?_ <;> clear H <;> intro hh H)
    | (refine gg_f ho H ?_ ?_ <;> clear H <;> intro hh H)
    | (refine bit_go ho H ?_ ?_ <;> clear H <;> intro hh H; (all_goals cbv))
    | (refine nil_go H ?_; clear H; intro b H; cbv)
    | (refine tok_go ?_; cbv)
    | (refine sh31_get H ?_; clear H; intro _ _ _ _ _ he H; cbv)
    | (refine sh31_find H ?_ ?_ <;> clear H; (intro _ _ _ _ _ H; cbv); rotate_left; (intro H; cbv))
    | (refine getA_go (β := UInt8) H ?_; clear H; intro e H; cbv)
    | (refine f131_l0_go hJ (o := J.o) rfl H (by decide) ⟨?_, ?_, rfl, rfl⟩ ?_
       · cbv
         repeat' (first | exact trivial | exact rfl | apply And.intro)
       · cbv
         repeat' (first | exact trivial | exact rfl | apply And.intro)
       clear H
       intro X0 HX0 n _ H Nx0 hN0
       rw [f131_l0] at H
       cbv)
    | (refine lit_t ?_; cbv)
    | (refine lit_f ?_; cbv)
    | (refine known_t (by assumption) ?_)
    | (refine known_f (by assumption) ?_)
    | (refine known_x (by assumption) ?_)
    | (refine known_y (by assumption) ?_)
    | (refine known_get (by assumption) ?_; cbv)
    | (refine known_and (by assumption) ?_)
    | with_reducible refine And.intro ?_ ?_
    | (intro hh; exact hh)
    | (intro _; assumption)
    | (intro hx; first | exact tf_absurd hx (by assumption) | exact tf_absurd (by assumption) hx)
    | (intro _; clear H h; (try clear hN0); (try clear HX0); simp only [ho, stdOps] at *; simp_all)
    | (cbv; with_reducible refine hold_go hJ ?_; cbv))

/-! (*pontoon/pontoonref15.Sink).Len -/
inductive F106R where
  | v0 (y0 : Int)
def F106R.av : F106R → AV
  | .v0 y0 => .int .i64 y0
def F106R.hp (a0 : Int) (a1 : Int) (a2 : List AV) (a3 : List AV) (a4 : List AV) (a5 : List AV) : F106R → List Ent
  | .v0 _ => [.var [.int .i64 a0, .int .i64 a1, .sl 2 a2 .no, .sl 1 a3 .no, .sl 1 a4 .no, .sl 5 a5 .no]]
noncomputable def f106 (o : Ops) (_fuel : Nat) (_a0 : Int) (_a1 : Int) (a2 : List AV) (_a3 : List AV) (_a4 : List AV) (_a5 : List AV) : Option F106R :=
  some (.v0 (o.len a2))
set_option maxHeartbeats 4000000 in
set_option maxRecDepth 100000 in
theorem f106_call (o : Ops) (ho : o = stdOps) (fuel : Nat) (a0 : Int) (a1 : Int) (a2 : List AV) (a3 : List AV) (a4 : List AV) (a5 : List AV) {R : F106R} (H : f106 o fuel a0 a1 a2 a3 a4 a5 = some R) (K : AV → List Ent → Prop) (E : AV → List Ent → Prop) (h : K R.av (F106R.hp a0 a1 a2 a3 a4 a5 R)) : CallA Try.prog 106 [.ptr 0 0] [.var [.int .i64 a0, .int .i64 a1, .sl 2 a2 .no, .sl 1 a3 .no, .sl 1 a4 .no, .sl 5 a5 .no]] K E := by
  refine call_wk fun K' hK => ?_
  refine call_keep (n₀ := 1) tab_ok Try.func106 rfl rfl rfl rfl ?_
  intro J hJ
  obtain rfl : o = J.o := by rw [ho, hJ]; rfl
  unfold f106 at H
  cbv
  repeat' (first
    | ((with_reducible first | refine awp_go2 ?_ | refine aops_go2 ?_ | refine strip_go2 ?_ | refine draw_go2 ?_ | refine frames_go2 ?_); cbv)
    | (with_reducible refine hold_go hJ ?_; cbv)
    | with_reducible exact id
    | exact trivial
    | with_reducible exact rfl
    | with_reducible exact ⟨_, rfl⟩
    | exact none_go H
    | (refine KeepQ.mk [] (by decide) ?_; cbv; cases H; refine hK _ _ _ _ ?_ ?_ rfl h <;> cbv)
    | (refine ifB_go H ?_ ?_ <;> clear H <;> intro hh H)
    | (refine ifB_og H ?_ ?_ <;> clear H <;> intro hh H)
    | (refine req_go H ?_; clear H; intro hh H)
    | (refine gg_t ho H ?_ ?_ <;> clear H <;> intro hh H)
    | (refine gg_f ho H ?_ ?_ <;> clear H <;> intro hh H)
    | (refine bit_go ho H ?_ ?_ <;> clear H <;> intro hh H; (all_goals cbv))
    | (refine nil_go H ?_; clear H; intro b H; cbv)
    | (refine tok_go ?_; cbv)
    | (refine getA_go (β := UInt8) H ?_; clear H; intro e H; cbv)
    | (refine lit_t ?_; cbv)
    | (refine lit_f ?_; cbv)
    | (refine known_t (by assumption) ?_)
    | (refine known_f (by assumption) ?_)
    | (refine known_x (by assumption) ?_)
    | (refine known_y (by assumption) ?_)
    | (refine known_get (by assumption) ?_; cbv)
    | (refine known_and (by assumption) ?_)
    | with_reducible refine And.intro ?_ ?_
    | (intro hh; exact hh)
    | (intro _; assumption)
    | (intro hx; first | exact tf_absurd hx (by assumption) | exact tf_absurd (by assumption) hx)
    | (intro _; clear H h; simp only [ho, stdOps] at *; simp_all)
    | (cbv; with_reducible refine hold_go hJ ?_; cbv))

end Go.Proofs.Ytjdbmfipciadfaa.A
