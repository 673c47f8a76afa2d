/- Functions of the program and of the document's answer, as plain ones. Written by lift.py. -/
import Derived.Test.YtjdbmfipciadfaaSx0
import Derived.Test.YtjdbmfipciadfaaSx5
import Derived.Test.YtjdbmfipciadfaaSx3

namespace Go.Proofs.Ytjdbmfipciadfaa.A
open Go Go.Pt

/-! (*pontoon/pontoonref15.Sink).vector -/
inductive F83R where
  | v0 (y0 : Bool)
def F83R.av : F83R → AV
  | .v0 y0 => .bool y0
def F83R.hp (a1 : Int) (a2 : Int) (a3 : List AV) (a4 : List AV) (a5 : List AV) (a6 : List AV) : F83R → List Ent
  | .v0 _ => [.var [.int .i64 a1, .int .i64 a2, .sl 2 a3 .no, .sl 1 a4 .no, .sl 1 a5 .no, .sl 5 a6 .no]]
inductive F83L0 where
  | x0 
  | x1 
noncomputable def f83_l0 (o : Ops) (fuel : Nat) (a0 : List AV) (a1 : Int) (a2 : Int) (a3 : List AV) (a4 : List AV) (a5 : List AV) (a6 : List AV) : Nat → Int → Option F83L0
  | 0, _ => none
  | n + 1, w9 =>
    ifB (o.cmp .lss w9 (o.len a0))
    (req (o.inb w9 (o.len a0)) <|
     getA (o.get a0 w9) fun e => sh2 e fun v10 =>
     bindR (f102 o fuel v10) fun r => match r with
     | .v0 r11 => ifB (o.bnot r11)
       (some (.x0 ))
       (f83_l0 o fuel a0 a1 a2 a3 a4 a5 a6 n (o.ar .add .i64 w9 1)))
    (some (.x1 ))
theorem f83_l0_go {J : Jd} {n₀ : Nat} (hJ : J = std Try.prog n₀) {o : Ops} (hJo : J.o = o) {fuel : Nat} {a0 : List AV} {a1 : Int} {a2 : Int} {a3 : List AV} {a4 : List AV} {a5 : List AV} {a6 : List AV} {w9i : Int} {α : Type} {k : F83L0 → Option α} {r : α} {c : Code} {Q : Ex → St → Prop} {s : St}
    (H : bindR (f83_l0 o fuel a0 a1 a2 a3 a4 a5 a6 fuel w9i) k = some r) (hn : n₀ ≤ 1) (hle : Le s ⟨[(5, .int .i64 w9i), (1, .sl 1 a0 .no)], [.var [.int .i64 a1, .int .i64 a2, .sl 2 a3 .no, .sl 1 a4 .no, .sl 1 a5 .no, .sl 5 a6 .no]], 25⟩)
    (round : ∀ X, k X = some r → ∀ (n : Nat) (w9 : Int), f83_l0 o fuel a0 a1 a2 a3 a4 a5 a6 (n + 1) w9 = some X → ∀ N : St → Prop,
      (∀ (env : List (Nat × AV)) (w9' : Int) (v : List Ent), f83_l0 o fuel a0 a1 a2 a3 a4 a5 a6 n w9' = some X → wkEnv env [(5, .int .i64 w9'), (1, .sl 1 a0 .no)] → N ⟨env, [.var [.int .i64 a1, .int .i64 a2, .sl 2 a3 .no, .sl 1 a4 .no, .sl 1 a5 .no, .sl 5 a6 .no]] ++ v, 25⟩) → awp J tab c (thenQ N Q) ⟨[(5, .int .i64 w9), (1, .sl 1 a0 .no)], [.var [.int .i64 a1, .int .i64 a2, .sl 2 a3 .no, .sl 1 a4 .no, .sl 1 a5 .no, .sl 5 a6 .no]], 25⟩) : J.code (.loop c) Q s := by
  subst hJo
  obtain ⟨X, hX, HX⟩ := bindR_go H
  refine loop_at (β := Nat × Int) hJ tab_ok (fun | (_, w9) => ⟨[(5, .int .i64 w9), (1, .sl 1 a0 .no)], [.var [.int .i64 a1, .int .i64 a2, .sl 2 a3 .no, .sl 1 a4 .no, .sl 1 a5 .no, .sl 5 a6 .no]], 25⟩) (fun | (n, w9) => f83_l0 J.o fuel a0 a1 a2 a3 a4 a5 a6 n w9 = some X) (fun | (n, _) => n) (fuel, w9i) hX hle (by rintro ⟨_, _⟩; exact hn) ?_
  rintro ⟨n, w9⟩ hb N hN
  rcases n with _ | n
  · exact none_go (show (none : Option F83L0) = some X from hb)
  exact round X HX n w9 hb N fun env w9' v h1 h2 => hN _ (n, w9') h1 (Nat.lt_succ_self n) ⟨h2, by first | (cbv; done) | (cbv; repeat' (first | exact trivial | exact rfl | apply And.intro)), rfl, rfl⟩

noncomputable def f83 (o : Ops) (fuel : Nat) (a0 : List AV) (a1 : Int) (a2 : Int) (a3 : List AV) (a4 : List AV) (a5 : List AV) (a6 : List AV) : Option F83R :=
  ifB (o.bnot (o.cmp .eql (o.len a0) a1))
  (some (.v0 false))
  (bindR (f83_l0 o fuel a0 a1 a2 a3 a4 a5 a6 fuel 0) fun r => match r with
   | .x0  => some (.v0 false)
   | .x1  => some (.v0 true))
set_option maxHeartbeats 4000000 in
set_option maxRecDepth 100000 in
theorem f83_call (o : Ops) (ho : o = stdOps) (fuel : Nat) (a0 : List AV) (a1 : Int) (a2 : Int) (a3 : List AV) (a4 : List AV) (a5 : List AV) (a6 : List AV) {R : F83R} (H : f83 o fuel a0 a1 a2 a3 a4 a5 a6 = some R) (K : AV → List Ent → Prop) (E : AV → List Ent → Prop) (h : K R.av (F83R.hp a1 a2 a3 a4 a5 a6 R)) : CallA Try.prog 83 [.ptr 0 0, .sl 1 a0 .no] [.var [.int .i64 a1, .int .i64 a2, .sl 2 a3 .no, .sl 1 a4 .no, .sl 1 a5 .no, .sl 5 a6 .no]] K E := by
  refine call_wk fun K' hK => ?_
  refine call_keep (n₀ := 1) tab_ok Try.func83 rfl rfl rfl rfl ?_
  intro J hJ
  obtain rfl : o = J.o := by rw [ho, hJ]; rfl
  unfold f83 at H
  cbv
  repeat' (first
    | ((with_reducible first | refine awp_go2 ?_ | refine aops_go2 ?_ | refine strip_go2 ?_ | refine draw_go2 ?_ | refine frames_go2 ?_); cbv)
    | (with_reducible refine hold_go hJ ?_; cbv)
    | with_reducible exact id
    | exact trivial
    | with_reducible exact rfl
    | with_reducible exact ⟨_, rfl⟩
    | exact none_go H
    | (cases H; replace H := HX0; clear HX0; (try dsimp only at H))
    | (refine KeepQ.mk [] (by decide) ?_; cbv; cases H; refine hK _ _ _ _ ?_ ?_ rfl h <;> cbv)
    | (refine hN0 _ _ _ H ?_; with_reducible refine wkEnv_go2 ?_; cbv)
    | (refine ifB_go H ?_ ?_ <;> clear H <;> intro hh H)
    | (refine ifB_og H ?_ ?_ <;> clear H <;> intro hh H)
    | (refine req_go H ?_; clear H; intro hh H)
    | (refine gg_t ho H ?_ ?_ <;> clear H <;> intro hh H)
    | (refine gg_f ho H ?_ ?_ <;> clear H <;> intro hh H)
    | (refine bit_go ho H ?_ ?_ <;> clear H <;> intro hh H; (all_goals cbv))
    | (refine nil_go H ?_; clear H; intro b H; cbv)
    | (refine tok_go ?_; cbv)
    | (refine sh2_get H ?_; clear H; intro _ he H; cbv)
    | (refine sh2_find H ?_ ?_ <;> clear H; (intro _ H; cbv); rotate_left; (intro H; cbv))
    | (refine getA_go (β := UInt8) H ?_; clear H; intro e H; cbv)
    | (obtain ⟨R, hR, H2⟩ := bindR_go H; refine call_in hJ [] (by decide) rfl rfl rfl (f102_call _ ho _ _ hR _ _ ?_); clear H hR; rcases R with ⟨_⟩; all_goals (replace H := H2; clear H2; (try dsimp only at H); cbv))
    | (refine f83_l0_go hJ (o := J.o) rfl H (by decide) ⟨?_, ?_, rfl, rfl⟩ ?_
       · cbv
         repeat' (first | exact trivial | exact rfl | apply And.intro)
       · cbv
         repeat' (first | exact trivial | exact rfl | apply And.intro)
       clear H
       intro X0 HX0 n _ H Nx0 hN0
       rw [f83_l0] at H
       cbv)
    | (refine lit_t ?_; cbv)
    | (refine lit_f ?_; cbv)
    | (refine known_t (by assumption) ?_)
    | (refine known_f (by assumption) ?_)
    | (refine known_x (by assumption) ?_)
    | (refine known_y (by assumption) ?_)
    | (refine known_get (by assumption) ?_; cbv)
    | (refine known_and (by assumption) ?_)
    | with_reducible refine And.intro ?_ ?_
    | (intro hh; exact hh)
    | (intro _; assumption)
    | (intro hx; first | exact tf_absurd hx (by assumption) | exact tf_absurd (by assumption) hx)
    | (intro _; clear H h; (try clear hN0); (try clear HX0); simp only [ho, stdOps] at *; simp_all)
    | (cbv; with_reducible refine hold_go hJ ?_; cbv))

/-! (*pontoon/pontoonref15.Sink).May -/
inductive F21R where
  | v0 (y0 : Bool)
def F21R.av : F21R → AV
  | .v0 y0 => .bool y0
def F21R.hp (a5 : Int) (a6 : Int) (a7 : List AV) (a8 : List AV) (a9 : List AV) (a10 : List AV) : F21R → List Ent
  | .v0 _ => [.var [.int .i64 a5, .int .i64 a6, .sl 2 a7 .no, .sl 1 a8 .no, .sl 1 a9 .no, .sl 5 a10 .no]]
noncomputable def f21 (o : Ops) (fuel : Nat) (a0 : Int) (a1 : Int) (a2 : Int) (a3 : List AV) (a4 : List AV) (a5 : Int) (a6 : Int) (a7 : List AV) (a8 : List AV) (a9 : List AV) (a10 : List AV) : Option F21R :=
  bindR (f82 o fuel a0) fun r => match r with
  | .v0 r11 => ifB r11
    (bindR (f82 o fuel a1) fun r => match r with
     | .v0 r12 => ifB (o.pick (o.pick (o.pick r12 (o.cmp .geq a2 0) false) (o.cmp .leq a2 4096) false) (o.cmp .leq (o.len a3) 4096) false)
       (bindR (f83 o fuel a4 a5 a6 a7 a8 a9 a10) fun r => match r with
        | .v0 r13 => some (.v0 r13))
       (some (.v0 false)))
    (some (.v0 false))
set_option maxHeartbeats 4000000 in
set_option maxRecDepth 100000 in
theorem f21_call (o : Ops) (ho : o = stdOps) (fuel : Nat) (a0 : Int) (a1 : Int) (a2 : Int) (a3 : List AV) (a4 : List AV) (a5 : Int) (a6 : Int) (a7 : List AV) (a8 : List AV) (a9 : List AV) (a10 : List AV) {R : F21R} (H : f21 o fuel a0 a1 a2 a3 a4 a5 a6 a7 a8 a9 a10 = some R) (K : AV → List Ent → Prop) (E : AV → List Ent → Prop) (h : K R.av (F21R.hp a5 a6 a7 a8 a9 a10 R)) : CallA Try.prog 21 [.ptr 0 0, .agg [.int .i64 a0, .int .i64 a1, .int .i64 a2, .sl 2 a3 .no, .sl 1 a4 .no]] [.var [.int .i64 a5, .int .i64 a6, .sl 2 a7 .no, .sl 1 a8 .no, .sl 1 a9 .no, .sl 5 a10 .no]] K E := by
  refine call_wk fun K' hK => ?_
  refine call_keep (n₀ := 1) tab_ok Try.func21 rfl rfl rfl rfl ?_
  intro J hJ
  obtain rfl : o = J.o := by rw [ho, hJ]; rfl
  unfold f21 at H
  cbv
  repeat' (first
    | ((with_reducible first | refine awp_go2 ?_ | refine aops_go2 ?_ | refine strip_go2 ?_ | refine draw_go2 ?_ | refine frames_go2 ?_); cbv)
    | (with_reducible refine hold_go hJ ?_; cbv)
    | with_reducible exact id
    | exact trivial
    | with_reducible exact rfl
    | with_reducible exact ⟨_, rfl⟩
    | exact none_go H
    | (refine KeepQ.mk [] (by decide) ?_; cbv; cases H; refine hK _ _ _ _ ?_ ?_ rfl h <;> cbv)
    | (refine ifB_go H ?_ ?_ <;> clear H <;> intro hh H)
    | (refine ifB_og H ?_ ?_ <;> clear H <;> intro hh H)
    | (refine req_go H ?_; clear H; intro hh H)
    | (refine gg_t ho H ?_ ?_ <;> clear H <;> intro hh H)
    | (refine gg_f ho H ?_ ?_ <;> clear H <;> intro hh H)
    | (refine bit_go ho H ?_ ?_ <;> clear H <;> intro hh H; (all_goals cbv))
    | (refine nil_go H ?_; clear H; intro b H; cbv)
    | (refine tok_go ?_; cbv)
    | (refine getA_go (β := UInt8) H ?_; clear H; intro e H; cbv)
    | (obtain ⟨R, hR, H2⟩ := bindR_go H; refine call_in hJ [0] (by decide) rfl rfl rfl (f83_call _ ho _ _ _ _ _ _ _ _ hR _ _ ?_); clear H hR; rcases R with ⟨_⟩; all_goals (replace H := H2; clear H2; (try dsimp only at H); cbv))
    | (obtain ⟨R, hR, H2⟩ := bindR_go H; refine call_in hJ [] (by decide) rfl rfl rfl (f82_call _ ho _ _ hR _ _ ?_); clear H hR; rcases R with ⟨_⟩; all_goals (replace H := H2; clear H2; (try dsimp only at H); cbv))
    | (refine lit_t ?_; cbv)
    | (refine lit_f ?_; cbv)
    | (refine known_t (by assumption) ?_)
    | (refine known_f (by assumption) ?_)
    | (refine known_x (by assumption) ?_)
    | (refine known_y (by assumption) ?_)
    | (refine known_get (by assumption) ?_; cbv)
    | (refine known_and (by assumption) ?_)
    | with_reducible refine And.intro ?_ ?_
    | (intro hh; exact hh)
    | (intro _; assumption)
    | (intro hx; first | exact tf_absurd hx (by assumption) | exact tf_absurd (by assumption) hx)
    | (intro _; clear H h; simp only [ho, stdOps] at *; simp_all)
    | (cbv; with_reducible refine hold_go hJ ?_; cbv))

/-! (*pontoon/sink.Sink).Abort -/
inductive F22R where
  | v0 (y0 : Int) (y1 : Int) (y2 : List (AV × AV)) (y3 : List (AV × AV))
def F22R.av : F22R → AV
  | .v0 y0 _ _ _ => .int .i64 y0
def F22R.hp (a0 : Nat) (a3 : Int) (a5 : List AV) (a6 : List AV) : F22R → List Ent
  | .v0 _ y1 y2 y3 => [.var [.int .i64 a3, .int .i64 y1, .sl 2 a5 (.tip 1 a0), .sl 1 a6 .no, .mp 2, .mp 3], .tip a0, .mp y2, .mp y3]
noncomputable def f22 (o : Ops) (fuel : Nat) (a0 : Nat) (a1 : Int) (a2 : Int) (a3 : Int) (a4 : Int) (a5 : List AV) (a6 : List AV) (a7 : List (AV × AV)) (a8 : List (AV × AV)) : Option F22R :=
  bindR (f77 o fuel a0 a1 a2 a3 a4 a5 a6 a7 a8) fun r => match r with
  | .v0 r9 r10 r11 r12 => ifB (o.bnot (o.cmp .eql r9 0))
    (some (.v0 r9 r10 r11 r12))
    (req (o.mok true [.int .i64, .int .i64] r11) <|
     findA (o.mfind r11 (.agg [.int .i64 a1, .int .i64 a2])) (fun e => sh4 e fun v13 =>
     ifB v13
      (some (.v0 5 r10 r11 r12))
      (req (o.mok true [.int .i64, .int .i64] r12) <|
       some (.v0 0 r10 r11 (o.mdel r12 (.agg [.int .i64 a1, .int .i64 a2])))))
     (req (o.mok true [.int .i64, .int .i64] r12) <|
      some (.v0 0 r10 r11 (o.mdel r12 (.agg [.int .i64 a1, .int .i64 a2])))))
set_option maxHeartbeats 4000000 in
set_option maxRecDepth 100000 in
theorem f22_call (o : Ops) (ho : o = stdOps) (fuel : Nat) (a0 : Nat) (a1 : Int) (a2 : Int) (a3 : Int) (a4 : Int) (a5 : List AV) (a6 : List AV) (a7 : List (AV × AV)) (a8 : List (AV × AV)) {R : F22R} (H : f22 o fuel a0 a1 a2 a3 a4 a5 a6 a7 a8 = some R) (K : AV → List Ent → Prop) (E : AV → List Ent → Prop) (h : K R.av (F22R.hp a0 a3 a5 a6 R)) : CallA Try.prog 22 [.ptr 0 0, .agg [.int .i64 a1, .int .i64 a2]] [.var [.int .i64 a3, .int .i64 a4, .sl 2 a5 (.tip 1 a0), .sl 1 a6 .no, .mp 2, .mp 3], .tip a0, .mp a7, .mp a8] K E := by
  refine call_wk fun K' hK => ?_
  refine call_keep (n₀ := 4) tab_ok Try.func22 rfl rfl rfl rfl ?_
  intro J hJ
  obtain rfl : o = J.o := by rw [ho, hJ]; rfl
  unfold f22 at H
  cbv
  repeat' (first
    | ((with_reducible first | refine awp_go2 ?_ | refine aops_go2 ?_ | refine strip_go2 ?_ | refine draw_go2 ?_ | refine frames_go2 ?_); cbv)
    | (with_reducible refine hold_go hJ ?_; cbv)
    | with_reducible exact id
    | exact trivial
    | with_reducible exact rfl
    | with_reducible exact ⟨_, rfl⟩
    | exact none_go H
    | (refine KeepQ.mk [] (by decide) ?_; cbv; cases H; refine hK _ _ _ _ ?_ ?_ rfl h <;> cbv)
    | (refine ifB_go H ?_ ?_ <;> clear H <;> intro hh H)
    | (refine ifB_og H ?_ ?_ <;> clear H <;> intro hh H)
    | (refine req_go H ?_; clear H; intro hh H)
    | (refine gg_t ho H ?_ ?_ <;> clear H <;> intro hh H)
    | (refine gg_f ho H ?_ ?_ <;> clear H <;> intro hh H)
    | (refine bit_go ho H ?_ ?_ <;> clear H <;> intro hh H; (all_goals cbv))
    | (refine nil_go H ?_; clear H; intro b H; cbv)
    | (refine tok_go ?_; cbv)
    | (refine sh4_get H ?_; clear H; intro _ he H; cbv)
    | (refine sh4_find H ?_ ?_ <;> clear H; (intro _ H; cbv); rotate_left; (intro H; cbv))
    | (refine getA_go (β := UInt8) H ?_; clear H; intro e H; cbv)
    | (obtain ⟨R, hR, H2⟩ := bindR_go H; refine call_in hJ [0, 1, 2, 3] (by decide) rfl rfl rfl (f77_call _ ho _ _ _ _ _ _ _ _ _ _ hR _ _ ?_); clear H hR; rcases R with ⟨_, _, _, _⟩; all_goals (replace H := H2; clear H2; (try dsimp only at H); cbv))
    | (refine lit_t ?_; cbv)
    | (refine lit_f ?_; cbv)
    | (refine known_t (by assumption) ?_)
    | (refine known_f (by assumption) ?_)
    | (refine known_x (by assumption) ?_)
    | (refine known_y (by assumption) ?_)
    | (refine known_get (by assumption) ?_; cbv)
    | (refine known_and (by assumption) ?_)
    | with_reducible refine And.intro ?_ ?_
    | (intro hh; exact hh)
    | (intro _; assumption)
    | (intro hx; first | exact tf_absurd hx (by assumption) | exact tf_absurd (by assumption) hx)
    | (intro _; clear H h; simp only [ho, stdOps] at *; simp_all)
    | (cbv; with_reducible refine hold_go hJ ?_; cbv))

/-! pontoon/pontoonref15.SameRecords -/
inductive F84R where
  | v0 (y0 : Bool)
def F84R.av : F84R → AV
  | .v0 y0 => .bool y0
def F84R.hp : F84R → List Ent
  | .v0 _ => []
inductive F84L0 where
  | x0 
  | x1 
noncomputable def f84_l0 (o : Ops) (fuel : Nat) (a0 : List AV) (a1 : List AV) : Nat → Int → Option F84L0
  | 0, _ => none
  | n + 1, w6 =>
    ifB (o.cmp .lss w6 (o.len a0))
    (req (o.inb w6 (o.len a0)) <|
     getA (o.get a0 w6) fun e => sh57 e fun v7 v8 =>
     req (o.inb w6 (o.len a1)) <|
     getA (o.get a1 w6) fun e => sh57 e fun v9 v10 =>
     ifB (o.bnot (o.band (o.cmp .eql v7 v9) (o.cmp .eql v8 v10)))
     (some (.x0 ))
     (f84_l0 o fuel a0 a1 n (o.ar .add .i64 w6 1)))
    (some (.x1 ))
theorem f84_l0_go {J : Jd} {n₀ : Nat} (hJ : J = std Try.prog n₀) {o : Ops} (hJo : J.o = o) {fuel : Nat} {a0 : List AV} {a1 : List AV} {w6i : Int} {α : Type} {k : F84L0 → Option α} {r : α} {c : Code} {Q : Ex → St → Prop} {s : St}
    (H : bindR (f84_l0 o fuel a0 a1 fuel w6i) k = some r) (hn : n₀ ≤ 0) (hle : Le s ⟨[(5, .int .i64 w6i), (1, .sl 2 a1 .no), (0, .sl 2 a0 .no)], [], 26⟩)
    (round : ∀ X, k X = some r → ∀ (n : Nat) (w6 : Int), f84_l0 o fuel a0 a1 (n + 1) w6 = some X → ∀ N : St → Prop,
      (∀ (env : List (Nat × AV)) (w6' : Int) (v : List Ent), f84_l0 o fuel a0 a1 n w6' = some X → wkEnv env [(5, .int .i64 w6'), (1, .sl 2 a1 .no), (0, .sl 2 a0 .no)] → N ⟨env, [] ++ v, 26⟩) → awp J tab c (thenQ N Q) ⟨[(5, .int .i64 w6), (1, .sl 2 a1 .no), (0, .sl 2 a0 .no)], [], 26⟩) : J.code (.loop c) Q s := by
  subst hJo
  obtain ⟨X, hX, HX⟩ := bindR_go H
  refine loop_at (β := Nat × Int) hJ tab_ok (fun | (_, w6) => ⟨[(5, .int .i64 w6), (1, .sl 2 a1 .no), (0, .sl 2 a0 .no)], [], 26⟩) (fun | (n, w6) => f84_l0 J.o fuel a0 a1 n w6 = some X) (fun | (n, _) => n) (fuel, w6i) hX hle (by rintro ⟨_, _⟩; exact hn) ?_
  rintro ⟨n, w6⟩ hb N hN
  rcases n with _ | n
  · exact none_go (show (none : Option F84L0) = some X from hb)
  exact round X HX n w6 hb N fun env w6' v h1 h2 => hN _ (n, w6') h1 (Nat.lt_succ_self n) ⟨h2, by first | (cbv; done) | (cbv; repeat' (first | exact trivial | exact rfl | apply And.intro)), rfl, rfl⟩

noncomputable def f84 (o : Ops) (fuel : Nat) (a0 : List AV) (a1 : List AV) : Option F84R :=
  ifB (o.bnot (o.cmp .eql (o.len a0) (o.len a1)))
  (some (.v0 false))
  (bindR (f84_l0 o fuel a0 a1 fuel 0) fun r => match r with
   | .x0  => some (.v0 false)
   | .x1  => some (.v0 true))
set_option maxHeartbeats 4000000 in
set_option maxRecDepth 100000 in
theorem f84_call (o : Ops) (ho : o = stdOps) (fuel : Nat) (a0 : List AV) (a1 : List AV) {R : F84R} (H : f84 o fuel a0 a1 = some R) (K : AV → List Ent → Prop) (E : AV → List Ent → Prop) (h : K R.av R.hp) : CallA Try.prog 84 [.sl 2 a0 .no, .sl 2 a1 .no] [] K E := by
  refine call_wk fun K' hK => ?_
  refine call_keep (n₀ := 0) tab_ok Try.func84 rfl rfl rfl rfl ?_
  intro J hJ
  obtain rfl : o = J.o := by rw [ho, hJ]; rfl
  unfold f84 at H
  cbv
  repeat' (first
    | ((with_reducible first | refine awp_go2 ?_ | refine aops_go2 ?_ | refine strip_go2 ?_ | refine draw_go2 ?_ | refine frames_go2 ?_); cbv)
    | (with_reducible refine hold_go hJ ?_; cbv)
    | with_reducible exact id
    | exact trivial
    | with_reducible exact rfl
    | with_reducible exact ⟨_, rfl⟩
    | exact none_go H
    | (cases H; replace H := HX0; clear HX0; (try dsimp only at H))
    | (refine KeepQ.mk [] (by decide) ?_; cbv; cases H; refine hK _ _ _ _ ?_ ?_ rfl h <;> cbv)
    | (refine hN0 _ _ _ H ?_; with_reducible refine wkEnv_go2 ?_; cbv)
    | (refine ifB_go H ?_ ?_ <;> clear H <;> intro hh H)
    | (refine ifB_og H ?_ ?_ <;> clear H <;> intro hh H)
    | (refine req_go H ?_; clear H; intro hh H)
    | (refine gg_t ho H ?_ ?_ <;> clear H <;> intro hh H)
    | (refine gg_f ho H ?_ ?_ <;> clear H <;> intro hh H)
    | (refine bit_go ho H ?_ ?_ <;> clear H <;> intro hh H; (all_goals cbv))
    | (refine nil_go H ?_; clear H; intro b H; cbv)
    | (refine tok_go ?_; cbv)
    | (refine sh57_get H ?_; clear H; intro _ _ he H; cbv)
    | (refine sh57_find H ?_ ?_ <;> clear H; (intro _ _ H; cbv); rotate_left; (intro H; cbv))
    | (refine getA_go (β := UInt8) H ?_; clear H; intro e H; cbv)
    | (refine f84_l0_go hJ (o := J.o) rfl H (by decide) ⟨?_, ?_, rfl, rfl⟩ ?_
       · cbv
         repeat' (first | exact trivial | exact rfl | apply And.intro)
       · cbv
         repeat' (first | exact trivial | exact rfl | apply And.intro)
       clear H
       intro X0 HX0 n _ H Nx0 hN0
       rw [f84_l0] at H
       cbv)
    | (refine lit_t ?_; cbv)
    | (refine lit_f ?_; cbv)
    | (refine known_t (by assumption) ?_)
    | (refine known_f (by assumption) ?_)
    | (refine known_x (by assumption) ?_)
    | (refine known_y (by assumption) ?_)
    | (refine known_get (by assumption) ?_; cbv)
    | (refine known_and (by assumption) ?_)
    | with_reducible refine And.intro ?_ ?_
    | (intro hh; exact hh)
    | (intro _; assumption)
    | (intro hx; first | exact tf_absurd hx (by assumption) | exact tf_absurd (by assumption) hx)
    | (intro _; clear H h; (try clear hN0); (try clear HX0); simp only [ho, stdOps] at *; simp_all)
    | (cbv; with_reducible refine hold_go hJ ?_; cbv))

/-! pontoon/pontoonref15.SameInts -/
inductive F85R where
  | v0 (y0 : Bool)
def F85R.av : F85R → AV
  | .v0 y0 => .bool y0
def F85R.hp : F85R → List Ent
  | .v0 _ => []
inductive F85L0 where
  | x0 
  | x1 
noncomputable def f85_l0 (o : Ops) (fuel : Nat) (a0 : List AV) (a1 : List AV) : Nat → Int → Option F85L0
  | 0, _ => none
  | n + 1, w4 =>
    ifB (o.cmp .lss w4 (o.len a0))
    (req (o.inb w4 (o.len a0)) <|
     getA (o.get a0 w4) fun e => sh2 e fun v5 =>
     req (o.inb w4 (o.len a1)) <|
     getA (o.get a1 w4) fun e => sh2 e fun v6 =>
     ifB (o.bnot (o.cmp .eql v5 v6))
     (some (.x0 ))
     (f85_l0 o fuel a0 a1 n (o.ar .add .i64 w4 1)))
    (some (.x1 ))
theorem f85_l0_go {J : Jd} {n₀ : Nat} (hJ : J = std Try.prog n₀) {o : Ops} (hJo : J.o = o) {fuel : Nat} {a0 : List AV} {a1 : List AV} {w4i : Int} {α : Type} {k : F85L0 → Option α} {r : α} {c : Code} {Q : Ex → St → Prop} {s : St}
    (H : bindR (f85_l0 o fuel a0 a1 fuel w4i) k = some r) (hn : n₀ ≤ 0) (hle : Le s ⟨[(5, .int .i64 w4i), (1, .sl 1 a1 .no), (0, .sl 1 a0 .no)], [], 26⟩)
    (round : ∀ X, k X = some r → ∀ (n : Nat) (w4 : Int), f85_l0 o fuel a0 a1 (n + 1) w4 = some X → ∀ N : St → Prop,
      (∀ (env : List (Nat × AV)) (w4' : Int) (v : List Ent), f85_l0 o fuel a0 a1 n w4' = some X → wkEnv env [(5, .int .i64 w4'), (1, .sl 1 a1 .no), (0, .sl 1 a0 .no)] → N ⟨env, [] ++ v, 26⟩) → awp J tab c (thenQ N Q) ⟨[(5, .int .i64 w4), (1, .sl 1 a1 .no), (0, .sl 1 a0 .no)], [], 26⟩) : J.code (.loop c) Q s := by
  subst hJo
  obtain ⟨X, hX, HX⟩ := bindR_go H
  refine loop_at (β := Nat × Int) hJ tab_ok (fun | (_, w4) => ⟨[(5, .int .i64 w4), (1, .sl 1 a1 .no), (0, .sl 1 a0 .no)], [], 26⟩) (fun | (n, w4) => f85_l0 J.o fuel a0 a1 n w4 = some X) (fun | (n, _) => n) (fuel, w4i) hX hle (by rintro ⟨_, _⟩; exact hn) ?_
  rintro ⟨n, w4⟩ hb N hN
  rcases n with _ | n
  · exact none_go (show (none : Option F85L0) = some X from hb)
  exact round X HX n w4 hb N fun env w4' v h1 h2 => hN _ (n, w4') h1 (Nat.lt_succ_self n) ⟨h2, by first | (cbv; done) | (cbv; repeat' (first | exact trivial | exact rfl | apply And.intro)), rfl, rfl⟩

noncomputable def f85 (o : Ops) (fuel : Nat) (a0 : List AV) (a1 : List AV) : Option F85R :=
  ifB (o.bnot (o.cmp .eql (o.len a0) (o.len a1)))
  (some (.v0 false))
  (bindR (f85_l0 o fuel a0 a1 fuel 0) fun r => match r with
   | .x0  => some (.v0 false)
   | .x1  => some (.v0 true))
set_option maxHeartbeats 4000000 in
set_option maxRecDepth 100000 in
theorem f85_call (o : Ops) (ho : o = stdOps) (fuel : Nat) (a0 : List AV) (a1 : List AV) {R : F85R} (H : f85 o fuel a0 a1 = some R) (K : AV → List Ent → Prop) (E : AV → List Ent → Prop) (h : K R.av R.hp) : CallA Try.prog 85 [.sl 1 a0 .no, .sl 1 a1 .no] [] K E := by
  refine call_wk fun K' hK => ?_
  refine call_keep (n₀ := 0) tab_ok Try.func85 rfl rfl rfl rfl ?_
  intro J hJ
  obtain rfl : o = J.o := by rw [ho, hJ]; rfl
  unfold f85 at H
  cbv
  repeat' (first
    | ((with_reducible first | refine awp_go2 ?_ | refine aops_go2 ?_ | refine strip_go2 ?_ | refine draw_go2 ?_ | refine frames_go2 ?_); cbv)
    | (with_reducible refine hold_go hJ ?_; cbv)
    | with_reducible exact id
    | exact trivial
    | with_reducible exact rfl
    | with_reducible exact ⟨_, rfl⟩
    | exact none_go H
    | (cases H; replace H := HX0; clear HX0; (try dsimp only at H))
    | (refine KeepQ.mk [] (by decide) ?_; cbv; cases H; refine hK _ _ _ _ ?_ ?_ rfl h <;> cbv)
    | (refine hN0 _ _ _ H ?_; with_reducible refine wkEnv_go2 ?_; cbv)
    | (refine ifB_go H ?_ ?_ <;> clear H <;> intro hh H)
    | (refine ifB_og H ?_ ?_ <;> clear H <;> intro hh H)
    | (refine req_go H ?_; clear H; intro hh H)
    | (refine gg_t ho H ?_ ?_ <;> clear H <;> intro hh H)
    | (refine gg_f ho H ?_ ?_ <;> clear H <;> intro hh H)
    | (refine bit_go ho H ?_ ?_ <;> clear H <;> intro hh H; (all_goals cbv))
    | (refine nil_go H ?_; clear H; intro b H; cbv)
    | (refine tok_go ?_; cbv)
    | (refine sh2_get H ?_; clear H; intro _ he H; cbv)
    | (refine sh2_find H ?_ ?_ <;> clear H; (intro _ H; cbv); rotate_left; (intro H; cbv))
    | (refine getA_go (β := UInt8) H ?_; clear H; intro e H; cbv)
    | (refine f85_l0_go hJ (o := J.o) rfl H (by decide) ⟨?_, ?_, rfl, rfl⟩ ?_
       · cbv
         repeat' (first | exact trivial | exact rfl | apply And.intro)
       · cbv
         repeat' (first | exact trivial | exact rfl | apply And.intro)
       clear H
       intro X0 HX0 n _ H Nx0 hN0
       rw [f85_l0] at H
       cbv)
    | (refine lit_t ?_; cbv)
    | (refine lit_f ?_; cbv)
    | (refine known_t (by assumption) ?_)
    | (refine known_f (by assumption) ?_)
    | (refine known_x (by assumption) ?_)
    | (refine known_y (by assumption) ?_)
    | (refine known_get (by assumption) ?_; cbv)
    | (refine known_and (by assumption) ?_)
    | with_reducible refine And.intro ?_ ?_
    | (intro hh; exact hh)
    | (intro _; assumption)
    | (intro hx; first | exact tf_absurd hx (by assumption) | exact tf_absurd (by assumption) hx)
    | (intro _; clear H h; (try clear hN0); (try clear HX0); simp only [ho, stdOps] at *; simp_all)
    | (cbv; with_reducible refine hold_go hJ ?_; cbv))

/-! pontoon/pontoonref15.SameTxn -/
inductive F61R where
  | v0 (y0 : Bool)
def F61R.av : F61R → AV
  | .v0 y0 => .bool y0
def F61R.hp : F61R → List Ent
  | .v0 _ => []
noncomputable def f61 (o : Ops) (fuel : Nat) (a0 : Int) (a1 : Int) (a2 : Int) (a3 : List AV) (a4 : List AV) (a5 : Int) (a6 : Int) (a7 : Int) (a8 : List AV) (a9 : List AV) : Option F61R :=
  ifB (o.pick (o.pick (o.cmp .eql a0 a5) (o.cmp .eql a1 a6) false) (o.cmp .eql a2 a7) false)
  (bindR (f84 o fuel a3 a8) fun r => match r with
   | .v0 r10 => ifB r10
     (bindR (f85 o fuel a4 a9) fun r => match r with
      | .v0 r11 => some (.v0 r11))
     (some (.v0 false)))
  (some (.v0 false))
set_option maxHeartbeats 4000000 in
set_option maxRecDepth 100000 in
theorem f61_call (o : Ops) (ho : o = stdOps) (fuel : Nat) (a0 : Int) (a1 : Int) (a2 : Int) (a3 : List AV) (a4 : List AV) (a5 : Int) (a6 : Int) (a7 : Int) (a8 : List AV) (a9 : List AV) {R : F61R} (H : f61 o fuel a0 a1 a2 a3 a4 a5 a6 a7 a8 a9 = some R) (K : AV → List Ent → Prop) (E : AV → List Ent → Prop) (h : K R.av R.hp) : CallA Try.prog 61 [.agg [.int .i64 a0, .int .i64 a1, .int .i64 a2, .sl 2 a3 .no, .sl 1 a4 .no], .agg [.int .i64 a5, .int .i64 a6, .int .i64 a7, .sl 2 a8 .no, .sl 1 a9 .no]] [] K E := by
  refine call_wk fun K' hK => ?_
  refine call_keep (n₀ := 0) tab_ok Try.func61 rfl rfl rfl rfl ?_
  intro J hJ
  obtain rfl : o = J.o := by rw [ho, hJ]; rfl
  unfold f61 at H
  cbv
  repeat' (first
    | ((with_reducible first | refine awp_go2 ?_ | refine aops_go2 ?_ | refine strip_go2 ?_ | refine draw_go2 ?_ | refine frames_go2 ?_); cbv)
    | (with_reducible refine hold_go hJ ?_; cbv)
    | with_reducible exact id
    | exact trivial
    | with_reducible exact rfl
    | with_reducible exact ⟨_, rfl⟩
    | exact none_go H
    | (refine KeepQ.mk [] (by decide) ?_; cbv; cases H; refine hK _ _ _ _ ?_ ?_ rfl h <;> cbv)
    | (refine ifB_go H ?_ ?_ <;> clear H <;> intro hh H)
    | (refine ifB_og H ?_ ?_ <;> clear H <;> intro hh H)
    | (refine req_go H ?_; clear H; intro hh H)
    | (refine gg_t ho H ?_ ?_ <;> clear H <;> intro hh H)
    | (refine gg_f ho H ?_ ?_ <;> clear H <;> intro hh H)
    | (refine bit_go ho H ?_ ?_ <;> clear H <;> intro hh H; (all_goals cbv))
    | (refine nil_go H ?_; clear H; intro b H; cbv)
    | (refine tok_go ?_; cbv)
    | (refine getA_go (β := UInt8) H ?_; clear H; intro e H; cbv)
    | (obtain ⟨R, hR, H2⟩ := bindR_go H; refine call_in hJ [] (by decide) rfl rfl rfl (f85_call _ ho _ _ _ hR _ _ ?_); clear H hR; rcases R with ⟨_⟩; all_goals (replace H := H2; clear H2; (try dsimp only at H); cbv))
    | (obtain ⟨R, hR, H2⟩ := bindR_go H; refine call_in hJ [] (by decide) rfl rfl rfl (f84_call _ ho _ _ _ hR _ _ ?_); clear H hR; rcases R with ⟨_⟩; all_goals (replace H := H2; clear H2; (try dsimp only at H); cbv))
    | (refine lit_t ?_; cbv)
    | (refine lit_f ?_; cbv)
    | (refine known_t (by assumption) ?_)
    | (refine known_f (by assumption) ?_)
    | (refine known_x (by assumption) ?_)
    | (refine known_y (by assumption) ?_)
    | (refine known_get (by assumption) ?_; cbv)
    | (refine known_and (by assumption) ?_)
    | with_reducible refine And.intro ?_ ?_
    | (intro hh; exact hh)
    | (intro _; assumption)
    | (intro hx; first | exact tf_absurd hx (by assumption) | exact tf_absurd (by assumption) hx)
    | (intro _; clear H h; simp only [ho, stdOps] at *; simp_all)
    | (cbv; with_reducible refine hold_go hJ ?_; cbv))

end Go.Proofs.Ytjdbmfipciadfaa.A
