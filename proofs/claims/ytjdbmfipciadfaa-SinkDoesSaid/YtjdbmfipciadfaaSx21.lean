/- Functions of the program and of the document's answer, as plain ones. Written by lift.py. -/
import Derived.Test.YtjdbmfipciadfaaSx0
import Derived.Test.YtjdbmfipciadfaaSx20
import Derived.Test.YtjdbmfipciadfaaSx3
import Derived.Test.YtjdbmfipciadfaaSx1

namespace Go.Proofs.Ytjdbmfipciadfaa.A
open Go Go.Pt

/-! pontoon/pontoonlaw15.all -/
inductive F56R where
  | v0 (y0 : List AV) (y1 : Bool)
def F56R.av : F56R → AV
  | .v0 y0 y1 => .tup [.sl 2 y0 .no, .bool y1]
def F56R.hp (a0 : Nat) (a1 : Int) (a2 : Int) (a3 : List AV) (a4 : List AV) (a5 : List (AV × AV)) (a6 : List (AV × AV)) : F56R → List Ent
  | .v0 _ _ => [.var [.int .i64 a1, .int .i64 a2, .sl 2 a3 (.tip 1 a0), .sl 1 a4 .no, .mp 2, .mp 3], .tip a0, .mp a5, .mp a6]
inductive F56L0 where
  | x0 (y0 : List AV) (y1 : Nat) (y2 : Bool)
noncomputable def f56_l0 (o : Ops) (fuel : Nat) (r8 : List AV) (a1 : Int) (a2 : Int) (a3 : List AV) (a0 : Nat) (a4 : List AV) (a5 : List (AV × AV)) (a6 : List (AV × AV)) : Nat → Nat → Int → List AV → Bool → Option F56L0
  | 0, _, _, _, _ => none
  | n + 1, w15, w16, w17, w18 =>
    ifB (o.cmp .lss w16 (o.len r8))
    (req (o.inb w16 (o.len r8)) <|
     getA (o.get r8 w16) fun e => sh57 e fun v19 v20 =>
     req (o.room w17 [.agg [.int .i64 v19, .int .i64 v20]] 16) <|
     f56_l0 o fuel r8 a1 a2 a3 a0 a4 a5 a6 n (o.padd w15 [.agg [.int .i64 v19, .int .i64 v20]]) (o.ar .add .i64 w16 1) (o.apnd w17 [.agg [.int .i64 v19, .int .i64 v20]]) (o.pick w18 (o.cmp .eql w16 (o.len w17)) false))
    (some (.x0 w17 w15 w18))
theorem f56_l0_go {J : Jd} {n₀ : Nat} (hJ : J = std Try.prog n₀) {o : Ops} (hJo : J.o = o) {pL1 : List Nat} {aL1 bL1 : Code} {pL2 : List Nat} {aL2 bL2 : Code} {fuel : Nat} {r8 : List AV} {a1 : Int} {a2 : Int} {a3 : List AV} {a0 : Nat} {a4 : List AV} {a5 : List (AV × AV)} {a6 : List (AV × AV)} {w15i : Nat} {w16i : Int} {w17i : List AV} {w18i : Bool} {α : Type} {k : F56L0 → Option α} {r : α} {c : Code} {Q : Ex → St → Prop} {s : St}
    (H : bindR (f56_l0 o fuel r8 a1 a2 a3 a0 a4 a5 a6 fuel w15i w16i w17i w18i) k = some r) (hn : n₀ ≤ 12) (hle : Turn n₀ s ⟨[(7, .int .i64 w16i), (6, .int .i64 (o.len r8)), (5, .sl 2 r8 .no), (0, .yld 10)], [.var [.int .i64 a1, .int .i64 a2, .sl 2 a3 (.tip 1 a0), .sl 1 a4 .no, .mp 2, .mp 3], .tip a0, .mp a5, .mp a6, .var [.sl 2 w17i (.tip 11 w15i)], .var [.bool w18i], .var [.ptr 0 0], .lp pL1 aL1 bL1 [(4, .ptr 4 0), (5, .ptr 5 0)] 25 .ready none, .var [.yld 7], .var [.sl 2 r8 .no], .lp pL2 aL2 bL2 [(2, .ptr 8 0)] 20 .ready none, .tip w15i], 18⟩)
    (round : ∀ X, k X = some r → ∀ (n : Nat) (w15 : Nat) (w16 : Int) (w17 : List AV) (w18 : Bool), f56_l0 o fuel r8 a1 a2 a3 a0 a4 a5 a6 (n + 1) w15 w16 w17 w18 = some X → ∀ N : St → Prop,
      (∀ (env : List (Nat × AV)) (w15' : Nat) (w16' : Int) (w17' : List AV) (w18' : Bool) (v : List Ent), f56_l0 o fuel r8 a1 a2 a3 a0 a4 a5 a6 n w15' w16' w17' w18' = some X → wkEnv env [(7, .int .i64 w16'), (6, .int .i64 (o.len r8)), (5, .sl 2 r8 .no), (0, .yld 10)] → N ⟨env, [.var [.int .i64 a1, .int .i64 a2, .sl 2 a3 (.tip 1 a0), .sl 1 a4 .no, .mp 2, .mp 3], .tip a0, .mp a5, .mp a6, .var [.sl 2 w17' (.tip 11 w15')], .var [.bool w18'], .var [.ptr 0 0], .lp pL1 aL1 bL1 [(4, .ptr 4 0), (5, .ptr 5 0)] 25 .ready none, .var [.yld 7], .var [.sl 2 r8 .no], .lp pL2 aL2 bL2 [(2, .ptr 8 0)] 20 .ready none, .tip w15'] ++ v, 18⟩) → awp J tab c (thenQ N Q) ⟨[(7, .int .i64 w16), (6, .int .i64 (o.len r8)), (5, .sl 2 r8 .no), (0, .yld 10)], [.var [.int .i64 a1, .int .i64 a2, .sl 2 a3 (.tip 1 a0), .sl 1 a4 .no, .mp 2, .mp 3], .tip a0, .mp a5, .mp a6, .var [.sl 2 w17 (.tip 11 w15)], .var [.bool w18], .var [.ptr 0 0], .lp pL1 aL1 bL1 [(4, .ptr 4 0), (5, .ptr 5 0)] 25 .ready none, .var [.yld 7], .var [.sl 2 r8 .no], .lp pL2 aL2 bL2 [(2, .ptr 8 0)] 20 .ready none, .tip w15], 18⟩) : J.code (.loop c) Q s := by
  subst hJo
  obtain ⟨X, hX, HX⟩ := bindR_go H
  refine loop_turn_at (β := Nat × Nat × Int × List AV × Bool) hJ tab_ok (fun | (_, w15, w16, w17, w18) => ⟨[(7, .int .i64 w16), (6, .int .i64 (J.o.len r8)), (5, .sl 2 r8 .no), (0, .yld 10)], [.var [.int .i64 a1, .int .i64 a2, .sl 2 a3 (.tip 1 a0), .sl 1 a4 .no, .mp 2, .mp 3], .tip a0, .mp a5, .mp a6, .var [.sl 2 w17 (.tip 11 w15)], .var [.bool w18], .var [.ptr 0 0], .lp pL1 aL1 bL1 [(4, .ptr 4 0), (5, .ptr 5 0)] 25 .ready none, .var [.yld 7], .var [.sl 2 r8 .no], .lp pL2 aL2 bL2 [(2, .ptr 8 0)] 20 .ready none, .tip w15], 18⟩) (fun | (n, w15, w16, w17, w18) => f56_l0 J.o fuel r8 a1 a2 a3 a0 a4 a5 a6 n w15 w16 w17 w18 = some X) (fun | (n, _, _, _, _) => n) (fuel, w15i, w16i, w17i, w18i) hX hle (by rintro ⟨_, _, _, _, _⟩; exact hn) ?_
  rintro ⟨n, w15, w16, w17, w18⟩ hb N hN
  rcases n with _ | n
  · exact none_go (show (none : Option F56L0) = some X from hb)
  exact round X HX n w15 w16 w17 w18 hb N fun env w15' w16' w17' w18' v h1 h2 => hN _ (n, w15', w16', w17', w18') h1 (Nat.lt_succ_self n) (Turn.le ⟨h2, by cbv; repeat' (first | exact trivial | exact rfl | apply And.intro), rfl, rfl⟩ (by simp; omega))

noncomputable def f56 (o : Ops) (fuel : Nat) (a0 : Nat) (a1 : Int) (a2 : Int) (a3 : List AV) (a4 : List AV) (a5 : List (AV × AV)) (a6 : List (AV × AV)) : Option F56R :=
  bindR (f124 o fuel a0 a1 a2 a3 a4 a5 a6) fun r => match r with
  | .v0  => bindR (f70 o fuel a0 a1 a2 a3 a4 a5 a6) fun r => match r with
    | .v0 r7 => ifB r7
      (some (.v0 [] true))
      (bindR (f79 o fuel a3) fun r => match r with
       | .v0 r8 => bindR (f149 o fuel r8) fun r => match r with
         | .v0  => bindR (f56_l0 o fuel r8 a1 a2 a3 a0 a4 a5 a6 fuel 0 0 [] true) fun r => match r with
           | .x0 y21 _ y23 => some (.v0 y21 y23))
set_option maxHeartbeats 4000000 in
set_option maxRecDepth 100000 in
theorem f56_call (o : Ops) (ho : o = stdOps) (fuel : Nat) (a0 : Nat) (a1 : Int) (a2 : Int) (a3 : List AV) (a4 : List AV) (a5 : List (AV × AV)) (a6 : List (AV × AV)) {R : F56R} (H : f56 o fuel a0 a1 a2 a3 a4 a5 a6 = some R) (K : AV → List Ent → Prop) (E : AV → List Ent → Prop) (h : K R.av (F56R.hp a0 a1 a2 a3 a4 a5 a6 R)) : CallA Try.prog 56 [.ptr 0 0] [.var [.int .i64 a1, .int .i64 a2, .sl 2 a3 (.tip 1 a0), .sl 1 a4 .no, .mp 2, .mp 3], .tip a0, .mp a5, .mp a6] K E := by
  refine call_wk fun K' hK => ?_
  refine call_keep (n₀ := 4) tab_ok Try.func56 rfl rfl rfl rfl ?_
  intro J hJ
  obtain rfl : o = J.o := by rw [ho, hJ]; rfl
  unfold f56 at H
  cbv
  repeat' (first
    | ((with_reducible first | refine awp_go2 ?_ | refine aops_go2 ?_ | refine strip_go2 ?_ | refine draw_go2 ?_ | refine frames_go2 ?_); cbv)
    | (with_reducible (first | refine hold_go hJ ?_ | refine hold_go hJ1 ?_ | refine hold_go hJ2 ?_ | refine hold_go hJ5 ?_ | refine hold_go hJ6 ?_); cbv)
    | with_reducible exact id
    | exact trivial
    | with_reducible exact rfl
    | with_reducible exact ⟨_, rfl⟩
    | exact none_go H
    | (cases H; replace H := HX0; clear HX0; (try dsimp only at H))
    | (refine KeepQ.mk [] (by decide) ?_; cbv; cases H; refine hK _ _ _ _ ?_ ?_ rfl h <;> cbv)
    | (refine hN0 _ _ _ _ _ _ H ?_; with_reducible refine wkEnv_go2 ?_; cbv)
    | (refine ifB_go H ?_ ?_ <;> clear H <;> intro hh H)
    | (refine ifB_og H ?_ ?_ <;> clear H <;> intro hh H)
    | (refine req_go H ?_; clear H; intro hh H)
    | (refine gg_t ho H ?_ ?_ <;> clear H <;> intro hh H)
    | (refine gg_f ho H ?_ ?_ <;> clear H <;> intro hh H)
    | (refine bit_go ho H ?_ ?_ <;> clear H <;> intro hh H; (all_goals cbv))
    | (refine nil_go H ?_; clear H; intro b H; cbv)
    | (refine tok_go ?_; cbv)
    | (refine sh57_get H ?_; clear H; intro _ _ he H; cbv)
    | (refine sh57_find H ?_ ?_ <;> clear H; (intro _ _ H; cbv); rotate_left; (intro H; cbv))
    | (refine getA_go (β := UInt8) H ?_; clear H; intro e H; cbv)
    | (refine range_in hJ tab_ok 7 [(4, .ptr 4 0), (5, .ptr 5 0)] Try.func148 rfl rfl rfl rfl rfl ?_ ?_
       · cbv
         repeat' (first | exact trivial | exact rfl | apply And.intro)
       intro pL1 aL1 bL1 cL1 cd1 pu1 yl1 ho1 mt1 hp1 ha1 hb1 hJ1
       try dsimp only at hJ1
       cbv)
    | (refine range_in hJ1 tab_ok 10 [(2, .ptr 8 0)] Try.func160 rfl rfl rfl rfl rfl ?_ ?_
       · cbv
         repeat' (first | exact trivial | exact rfl | apply And.intro)
       intro pL2 aL2 bL2 cL2 cd2 pu2 yl2 ho2 mt2 hp2 ha2 hb2 hJ2
       try dsimp only at hJ2
       cbv)
    | (refine yield_in hJ2 tab_ok 13 hp2 ha2 hb2 rfl rfl rfl rfl ?_; intro cL5 cd5 pu5 yl5 ho5 mt5 hJ5; (try dsimp only at hJ5); cbv)
    | (refine yield_in hJ5 tab_ok 14 hp1 ha1 hb1 rfl rfl rfl rfl ?_; intro cL6 cd6 pu6 yl6 ho6 mt6 hJ6; (try dsimp only at hJ6); cbv)
    | (refine InlQ.mk [] (by decide) ?_; cbv)
    | (refine InlQ.mk [11] (by decide) ?_; cbv)
    | (obtain ⟨R, hR, H2⟩ := bindR_go H; refine call_in hJ1 [] (by decide) rfl rfl rfl (f149_call _ ho _ _ hR _ _ ?_); clear H hR; rcases R with ⟨⟩; all_goals (replace H := H2; clear H2; (try dsimp only at H); cbv))
    | (obtain ⟨R, hR, H2⟩ := bindR_go H; refine call_in hJ1 [] (by decide) rfl rfl rfl (f79_call _ ho _ _ hR _ _ ?_); clear H hR; rcases R with ⟨_⟩; all_goals (replace H := H2; clear H2; (try dsimp only at H); cbv))
    | (obtain ⟨R, hR, H2⟩ := bindR_go H; refine call_in hJ1 [0, 1, 2, 3] (by decide) rfl rfl rfl (f70_call _ ho _ _ _ _ _ _ _ _ hR _ _ ?_); clear H hR; rcases R with ⟨_⟩; all_goals (replace H := H2; clear H2; (try dsimp only at H); cbv))
    | (obtain ⟨R, hR, H2⟩ := bindR_go H; refine call_in hJ [0, 1, 2, 3] (by decide) rfl rfl rfl (f124_call _ ho _ _ _ _ _ _ _ _ hR _ _ ?_); clear H hR; rcases R with ⟨⟩; all_goals (replace H := H2; clear H2; (try dsimp only at H); cbv))
    | (refine f56_l0_go hJ2 (o := J.o) rfl (pL1 := pL1) (aL1 := aL1) (bL1 := bL1) (pL2 := pL2) (aL2 := aL2) (bL2 := bL2) H (by decide) (Turn.trans (turn_tip 4 0 2 rfl rfl (leN_t rfl)) (Turn.le ⟨?_, ?_, rfl, rfl⟩ (leN_t rfl))) ?_
       · cbv
         repeat' (first | exact trivial | exact rfl | apply And.intro)
       · cbv
         repeat' (first | exact trivial | exact rfl | apply And.intro)
       clear H
       intro X0 HX0 n _ _ _ _ H Nx0 hN0
       rw [f56_l0] at H
       cbv)
    | (refine lit_t ?_; cbv)
    | (refine lit_f ?_; cbv)
    | (refine known_t (by assumption) ?_)
    | (refine known_f (by assumption) ?_)
    | (refine known_x (by assumption) ?_)
    | (refine known_y (by assumption) ?_)
    | (refine known_get (by assumption) ?_; cbv)
    | (refine known_and (by assumption) ?_)
    | with_reducible refine And.intro ?_ ?_
    | (intro hh; exact hh)
    | (intro _; assumption)
    | (intro hx; first | exact tf_absurd hx (by assumption) | exact tf_absurd (by assumption) hx)
    | (intro _; clear H h; (try clear hN0); (try clear HX0); (try clear hJ6); (try clear hJ5); (try clear hJ2); (try clear hJ1); (try clear hp1); (try clear ha1); (try clear hb1); (try clear hp2); (try clear ha2); (try clear hb2); (try clear hp5); (try clear ha5); (try clear hb5); (try clear hp6); (try clear ha6); (try clear hb6); simp only [ho, stdOps] at *; simp_all)
    | (cbv; with_reducible (first | refine hold_go hJ ?_ | refine hold_go hJ1 ?_ | refine hold_go hJ2 ?_ | refine hold_go hJ5 ?_ | refine hold_go hJ6 ?_); cbv))

end Go.Proofs.Ytjdbmfipciadfaa.A
