/- Functions of the program and of the document's answer, as plain ones. Written by lift.py. -/
import Derived.Test.YtjdbmfipciadfaaSx0
import Derived.Test.YtjdbmfipciadfaaSx3
import Derived.Test.YtjdbmfipciadfaaSx7
import Derived.Test.YtjdbmfipciadfaaSx5
import Derived.Test.YtjdbmfipciadfaaSx6
import Derived.Test.YtjdbmfipciadfaaSx4
import Derived.Test.YtjdbmfipciadfaaSx1

namespace Go.Proofs.Ytjdbmfipciadfaa.A
open Go Go.Pt

/-! pontoon/pontoonlaw15.SinkOnce -/
inductive F3R where
  | v0 (y0 : Bool)
def F3R.av : F3R → AV
  | .v0 y0 => .bool y0
def F3R.hp : F3R → List Ent
  | .v0 _ => []
inductive F3L0 where
  | x0 
  | x1 
noncomputable def f3_l0 (o : Ops) (fuel : Nat) (a0 : List AV) : Nat → Nat → Int → Int → List AV → List AV → List (AV × AV) → List (AV × AV) → Option F3L0
  | 0, _, _, _, _, _, _, _ => none
  | n + 1, w88, w89, w90, w91, w92, w93, w94 =>
    ifB (o.cmp .lss w89 (o.len a0))
    (req (o.inb w89 (o.len a0)) <|
     getA (o.get a0 w89) fun e => sh33 e fun v95 v96 v97 v98 v99 v100 =>
     ifB (o.cmp .eql v95 1)
     (bindR (f15 o fuel w88 v96 v97 v98 v99 v100 2 w90 w91 w92 w93 w94) fun r => match r with
      | .v0 _ r102 r103 r104 => f3_l0 o fuel a0 n w88 (o.ar .add .i64 w89 1) r102 w91 w92 r103 r104)
     (ifB (o.cmp .eql v95 2)
      (bindR (f17 o fuel v95 v96 v97 v98 v99 v100) fun r => match r with
       | .v0 r105 r106 => bindR (f16 o fuel w88 r105 r106 2 w90 w91 w92 w93 w94) fun r => match r with
         | .v0 r107 r108 r109 r110 r111 r112 r113 => ifB (o.bnot (o.cmp .eql r107 0))
           (f3_l0 o fuel a0 n r110 (o.ar .add .i64 w89 1) r108 r109 r111 r112 r113)
           (bindR (f18 o fuel r110 2 r108 r109 r111 r112 r113) fun r => match r with
            | .v0 r114 r115 r116 r117 r118 r119 r120 => bindR (f19 o fuel ) fun r => match r with
              | .v0 _ r122 r123 r124 r125 r126 r127 => bindR (f17 o fuel v95 v96 v97 v98 v99 v100) fun r => match r with
                | .v0 r128 r129 => bindR (f20 o fuel r110 r128 r129 2 r108 r109 r111 r119 r120) fun r => match r with
                  | .v0 r130 => ifB (o.bnot (o.bnot r130))
                    (bindR (f17 o fuel v95 v96 v97 v98 v99 v100) fun r => match r with
                     | .v0 r131 r132 => bindR (f16 o fuel r110 r131 r132 2 r108 r109 r111 r119 r120) fun r => match r with
                       | .v0 r133 r134 r135 r136 r137 r138 r139 => ifB (o.bnot (o.pick (o.bnot r130) true (o.bnot (o.cmp .eql r133 0))))
                         (bindR (f21 o fuel v96 v97 v98 v99 v100 r122 r123 r124 r125 r126 r127) fun r => match r with
                          | .v0 r140 => ifB (o.band (o.bnot (o.pick (o.bnot r130) true (o.bnot (o.cmp .eql r133 0)))) r140)
                            (bindR (f15 o fuel r136 v96 v97 v98 v99 v100 2 r134 r135 r137 r138 r139) fun r => match r with
                             | .v0 r141 r142 r143 r144 => ifB (o.bnot (o.pick (o.pick (o.bnot r130) true (o.bnot (o.cmp .eql r133 0))) true (o.pick r140 (o.bnot (o.cmp .eql r141 0)) false)))
                               (bindR (f17 o fuel v95 v96 v97 v98 v99 v100) fun r => match r with
                                | .v0 r145 r146 => bindR (f22 o fuel r136 r145 r146 2 r142 r135 r137 r143 r144) fun r => match r with
                                  | .v0 r147 r148 r149 r150 => ifB (o.bnot (o.pick (o.pick (o.pick (o.bnot r130) true (o.bnot (o.cmp .eql r133 0))) true (o.pick r140 (o.bnot (o.cmp .eql r141 0)) false)) true (o.bnot (o.cmp .eql r147 5))))
                                    (bindR (f18 o fuel r136 2 r148 r135 r137 r149 r150) fun r => match r with
                                     | .v0 r151 r152 r153 r154 r155 r156 r157 => bindR (f23 o fuel r151 r152 r153 r154 r155 r114 r115 r116 r117 r118) fun r => match r with
                                       | .v0 r158 => ifB (o.pick (o.pick (o.pick (o.pick (o.bnot r130) true (o.bnot (o.cmp .eql r133 0))) true (o.pick r140 (o.bnot (o.cmp .eql r141 0)) false)) true (o.bnot (o.cmp .eql r147 5))) true (o.bnot r158))
                                         (some (.x0 ))
                                         (f3_l0 o fuel a0 n r136 (o.ar .add .i64 w89 1) r148 r135 r137 r156 r157))
                                    (some (.x0 )))
                               (some (.x0 )))
                            (bindR (f17 o fuel v95 v96 v97 v98 v99 v100) fun r => match r with
                             | .v0 r159 r160 => bindR (f22 o fuel r136 r159 r160 2 r134 r135 r137 r138 r139) fun r => match r with
                               | .v0 r161 r162 r163 r164 => ifB (o.bnot (o.pick (o.pick (o.pick (o.bnot r130) true (o.bnot (o.cmp .eql r133 0))) true (o.pick r140 (o.bnot (o.cmp .eql 0 0)) false)) true (o.bnot (o.cmp .eql r161 5))))
                                 (bindR (f18 o fuel r136 2 r162 r135 r137 r163 r164) fun r => match r with
                                  | .v0 r165 r166 r167 r168 r169 r170 r171 => bindR (f23 o fuel r165 r166 r167 r168 r169 r114 r115 r116 r117 r118) fun r => match r with
                                    | .v0 r172 => ifB (o.pick (o.pick (o.pick (o.pick (o.bnot r130) true (o.bnot (o.cmp .eql r133 0))) true (o.pick r140 (o.bnot (o.cmp .eql 0 0)) false)) true (o.bnot (o.cmp .eql r161 5))) true (o.bnot r172))
                                      (some (.x0 ))
                                      (f3_l0 o fuel a0 n r136 (o.ar .add .i64 w89 1) r162 r135 r137 r170 r171))
                                 (some (.x0 ))))
                         (some (.x0 )))
                    (some (.x0 ))))
      (f3_l0 o fuel a0 n w88 (o.ar .add .i64 w89 1) w90 w91 w92 w93 w94)))
    (some (.x1 ))
theorem f3_l0_go {J : Jd} {n₀ : Nat} (hJ : J = std Try.prog n₀) {fuel : Nat} {a0 : List AV} {w88i : Nat} {w89i : Int} {w90i : Int} {w91i : List AV} {w92i : List AV} {w93i : List (AV × AV)} {w94i : List (AV × AV)} {α : Type} {k : F3L0 → Option α} {r : α} {c : Code} {Q : Ex → St → Prop} {s : St}
    (H : bindR (f3_l0 J.o fuel a0 fuel w88i w89i w90i w91i w92i w93i w94i) k = some r) (hn : n₀ ≤ 4) (hle : Le s ⟨[(24, .int .i64 w89i), (23, .int .i64 (J.o.len a0)), (22, .sl 6 a0 .no), (3, .ptr 0 0)], [.var [.int .i64 2, .int .i64 w90i, .sl 2 w91i (.tip 1 w88i), .sl 1 w92i .no, .mp 2, .mp 3], .tip w88i, .mp w93i, .mp w94i], 89⟩)
    (round : ∀ X, k X = some r → ∀ (n : Nat) (w88 : Nat) (w89 : Int) (w90 : Int) (w91 : List AV) (w92 : List AV) (w93 : List (AV × AV)) (w94 : List (AV × AV)), f3_l0 J.o fuel a0 (n + 1) w88 w89 w90 w91 w92 w93 w94 = some X → ∀ N : St → Prop,
      (∀ (env : List (Nat × AV)) (w88' : Nat) (w89' : Int) (w90' : Int) (w91' : List AV) (w92' : List AV) (w93' : List (AV × AV)) (w94' : List (AV × AV)) (v : List Ent), f3_l0 J.o fuel a0 n w88' w89' w90' w91' w92' w93' w94' = some X → wkEnv env [(24, .int .i64 w89'), (23, .int .i64 (J.o.len a0)), (22, .sl 6 a0 .no), (3, .ptr 0 0)] → N ⟨env, [.var [.int .i64 2, .int .i64 w90', .sl 2 w91' (.tip 1 w88'), .sl 1 w92' .no, .mp 2, .mp 3], .tip w88', .mp w93', .mp w94'] ++ v, 89⟩) → awp J tab c (thenQ N Q) ⟨[(24, .int .i64 w89), (23, .int .i64 (J.o.len a0)), (22, .sl 6 a0 .no), (3, .ptr 0 0)], [.var [.int .i64 2, .int .i64 w90, .sl 2 w91 (.tip 1 w88), .sl 1 w92 .no, .mp 2, .mp 3], .tip w88, .mp w93, .mp w94], 89⟩) : J.code (.loop c) Q s := by
  obtain ⟨X, hX, HX⟩ := bindR_go H
  refine loop_at (β := Nat × Nat × Int × Int × List AV × List AV × List (AV × AV) × List (AV × AV)) hJ tab_ok (fun | (_, w88, w89, w90, w91, w92, w93, w94) => ⟨[(24, .int .i64 w89), (23, .int .i64 (J.o.len a0)), (22, .sl 6 a0 .no), (3, .ptr 0 0)], [.var [.int .i64 2, .int .i64 w90, .sl 2 w91 (.tip 1 w88), .sl 1 w92 .no, .mp 2, .mp 3], .tip w88, .mp w93, .mp w94], 89⟩) (fun | (n, w88, w89, w90, w91, w92, w93, w94) => f3_l0 J.o fuel a0 n w88 w89 w90 w91 w92 w93 w94 = some X) (fun | (n, _, _, _, _, _, _, _) => n) (fuel, w88i, w89i, w90i, w91i, w92i, w93i, w94i) hX hle (by rintro ⟨_, _, _, _, _, _, _, _⟩; exact hn) ?_
  rintro ⟨n, w88, w89, w90, w91, w92, w93, w94⟩ hb N hN
  rcases n with _ | n
  · exact none_go (show (none : Option F3L0) = some X from hb)
  exact round X HX n w88 w89 w90 w91 w92 w93 w94 hb N fun env w88' w89' w90' w91' w92' w93' w94' v h1 h2 => hN _ (n, w88', w89', w90', w91', w92', w93', w94') h1 (Nat.lt_succ_self n) ⟨h2, by first | (cbv; done) | (cbv; repeat' (first | exact trivial | exact rfl | apply And.intro)), rfl, rfl⟩

noncomputable def f3 (o : Ops) (fuel : Nat) (a0 : List AV) : Option F3R :=
  bindR (f13 o fuel ) fun r => match r with
  | .v0 r1 => ifB (o.bnot r1)
    (some (.v0 false))
    (bindR (f14 o fuel 2) fun r => match r with
     | .v0 _ => some (.v0 false)
     | .v1 r3 r4 r5 r6 r7 r8 r9 => ifB (o.pick (o.bnot (o.cmp .eql r3 0)) true false)
       (some (.v0 false))
       (bindR (f3_l0 o fuel a0 fuel r6 0 r4 r5 r7 r8 r9) fun r => match r with
        | .x0  => some (.v0 false)
        | .x1  => some (.v0 true)))
set_option maxHeartbeats 4000000 in
set_option maxRecDepth 100000 in
theorem f3_call (o : Ops) (ho : o = stdOps) (fuel : Nat) (a0 : List AV) {R : F3R} (H : f3 o fuel a0 = some R) (K : AV → List Ent → Prop) (E : AV → List Ent → Prop) (h : K R.av R.hp) : CallA Try.prog 3 [.sl 6 a0 .no] [] K E := by
  refine call_wk fun K' hK => ?_
  refine call_keep (n₀ := 0) tab_ok Try.func3 rfl rfl rfl rfl ?_
  intro J hJ
  obtain rfl : o = J.o := by rw [ho, hJ]; rfl
  unfold f3 at H
  cbv
  repeat' (first
    | ((with_reducible first | refine awp_go2 ?_ | refine aops_go2 ?_ | refine strip_go2 ?_ | refine draw_go2 ?_ | refine frames_go2 ?_); cbv)
    | (with_reducible refine hold_go hJ ?_; cbv)
    | with_reducible exact id
    | exact trivial
    | with_reducible exact rfl
    | with_reducible exact ⟨_, rfl⟩
    | exact none_go H
    | (cases H; replace H := HX0; clear HX0; dsimp only at H)
    | (refine KeepQ.mk [] (by decide) ?_; cbv; cases H; refine hK _ _ _ _ ?_ ?_ rfl h <;> cbv)
    | (refine hN0 _ _ _ _ _ _ _ _ _ H ?_; with_reducible refine wkEnv_go2 ?_; cbv)
    | (first | refine known_t (kn_pick_s ho rfl rfl) ?_ | refine known_y (kn_pick_s ho rfl rfl) ?_)
    | (first | refine known_t (by assumption) ?_ | refine known_y (by assumption) ?_)
    | (first | refine known_f (by assumption) ?_ | refine known_x (by assumption) ?_)
    | (first | refine known_t (kn_pick_t ho (ku_bnot_f ho (by assumption)) rfl) ?_ | refine known_y (kn_pick_t ho (ku_bnot_f ho (by assumption)) rfl) ?_)
    | (first | refine known_f (kn_bnot_f ho (kn_pick_t ho (ku_bnot_f ho (by assumption)) rfl)) ?_ | refine known_x (kn_bnot_f ho (kn_pick_t ho (ku_bnot_f ho (by assumption)) rfl)) ?_)
    | (first | refine known_t (kn_pick_t ho (kn_pick_t ho (ku_bnot_f ho (by assumption)) rfl) rfl) ?_ | refine known_y (kn_pick_t ho (kn_pick_t ho (ku_bnot_f ho (by assumption)) rfl) rfl) ?_)
    | (first | refine known_t (kn_bnot_t ho (kn_pick_f ho (ku_bnot_t ho (by assumption)) (kn_pick_s ho (kn_bnot_f ho (kn_cmp ho (by decide))) rfl))) ?_ | refine known_y (kn_bnot_t ho (kn_pick_f ho (ku_bnot_t ho (by assumption)) (kn_pick_s ho (kn_bnot_f ho (kn_cmp ho (by decide))) rfl))) ?_)
    | (first | refine known_f (kn_bnot_f ho (kn_pick_t ho (kn_pick_t ho (ku_bnot_f ho (by assumption)) rfl) rfl)) ?_ | refine known_x (kn_bnot_f ho (kn_pick_t ho (kn_pick_t ho (ku_bnot_f ho (by assumption)) rfl) rfl)) ?_)
    | (first | refine known_t (kn_pick_t ho (kn_pick_t ho (kn_pick_t ho (ku_bnot_f ho (by assumption)) rfl) rfl) rfl) ?_ | refine known_y (kn_pick_t ho (kn_pick_t ho (kn_pick_t ho (ku_bnot_f ho (by assumption)) rfl) rfl) rfl) ?_)
    | (first | refine known_f (kn_bnot_f ho (kn_pick_t ho (kn_pick_t ho (kn_pick_t ho (ku_bnot_f ho (by assumption)) rfl) rfl) rfl)) ?_ | refine known_x (kn_bnot_f ho (kn_pick_t ho (kn_pick_t ho (kn_pick_t ho (ku_bnot_f ho (by assumption)) rfl) rfl) rfl)) ?_)
    | (first | refine known_t (kn_pick_t ho (kn_pick_t ho (kn_pick_t ho (kn_pick_t ho (ku_bnot_f ho (by assumption)) rfl) rfl) rfl) rfl) ?_ | refine known_y (kn_pick_t ho (kn_pick_t ho (kn_pick_t ho (kn_pick_t ho (ku_bnot_f ho (by assumption)) rfl) rfl) rfl) rfl) ?_)
    | (refine ifB_go H ?_ ?_ <;> clear H <;> intro hh H)
    | (refine ifB_og H ?_ ?_ <;> clear H <;> intro hh H)
    | (refine req_go H ?_; clear H; intro hh H)
    | (refine gg_t ho H ?_ ?_ <;> clear H <;> intro hh H)
    | (refine gg_f ho H ?_ ?_ <;> clear H <;> intro hh H)
    | (refine bit_go ho H ?_ ?_ <;> clear H <;> intro hh H; (all_goals cbv))
    | (refine nil_go H ?_; clear H; intro b H; cbv)
    | (refine tok_go ?_; cbv)
    | (refine sh33_get H ?_; clear H; intro _ _ _ _ _ _ he H; cbv)
    | (refine sh33_find H ?_ ?_ <;> clear H; (intro _ _ _ _ _ _ H; cbv); rotate_left; (intro H; cbv))
    | (refine getA_go (β := UInt8) H ?_; clear H; intro e H; cbv)
    | (obtain ⟨R, hR, H2⟩ := bindR_go H; refine call_in hJ [0, 1, 2, 3] (by decide) rfl rfl rfl (f15_call _ ho _ _ _ _ _ _ _ _ _ _ _ _ _ hR _ _ ?_); clear H hR; rcases R with ⟨_, _, _, _⟩; all_goals (replace H := H2; clear H2; dsimp only at H; cbv))
    | (obtain ⟨R, hR, H2⟩ := bindR_go H; refine call_in hJ [] (by decide) rfl rfl rfl (f23_call _ ho _ _ _ _ _ _ _ _ _ _ _ hR _ _ ?_); clear H hR; rcases R with ⟨_⟩; all_goals (replace H := H2; clear H2; dsimp only at H; cbv))
    | (obtain ⟨R, hR, H2⟩ := bindR_go H; refine call_in hJ [0, 1, 2, 3] (by decide) rfl rfl rfl (f18_call _ ho _ _ _ _ _ _ _ _ hR _ _ ?_); clear H hR; rcases R with ⟨_, _, _, _, _, _, _⟩; all_goals (replace H := H2; clear H2; dsimp only at H; cbv))
    | (obtain ⟨R, hR, H2⟩ := bindR_go H; refine call_in hJ [0, 1, 2, 3] (by decide) rfl rfl rfl (f22_call _ ho _ _ _ _ _ _ _ _ _ _ hR _ _ ?_); clear H hR; rcases R with ⟨_, _, _, _⟩; all_goals (replace H := H2; clear H2; dsimp only at H; cbv))
    | (obtain ⟨R, hR, H2⟩ := bindR_go H; refine call_in hJ [] (by decide) rfl rfl rfl (f17_call _ ho _ _ _ _ _ _ _ hR _ _ ?_); clear H hR; rcases R with ⟨_, _⟩; all_goals (replace H := H2; clear H2; dsimp only at H; cbv))
    | (obtain ⟨R, hR, H2⟩ := bindR_go H; refine call_in hJ [6] (by decide) rfl rfl rfl (f21_call _ ho _ _ _ _ _ _ _ _ _ _ _ _ hR _ _ ?_); clear H hR; rcases R with ⟨_⟩; all_goals (replace H := H2; clear H2; dsimp only at H; cbv))
    | (obtain ⟨R, hR, H2⟩ := bindR_go H; refine call_in hJ [0, 1, 2, 3] (by decide) rfl rfl rfl (f16_call _ ho _ _ _ _ _ _ _ _ _ _ hR _ _ ?_); clear H hR; rcases R with ⟨_, _, _, _, _, _, _⟩; all_goals (replace H := H2; clear H2; dsimp only at H; cbv))
    | (obtain ⟨R, hR, H2⟩ := bindR_go H; refine call_in hJ [0, 1, 2, 3] (by decide) rfl rfl rfl (f20_call _ ho _ _ _ _ _ _ _ _ _ _ hR _ _ ?_); clear H hR; rcases R with ⟨_⟩; all_goals (replace H := H2; clear H2; dsimp only at H; cbv))
    | (obtain ⟨R, hR, H2⟩ := bindR_go H; refine call_in hJ [] (by decide) rfl rfl rfl (f19_call _ ho _  hR _ _ ?_); clear H hR; rcases R with ⟨_, _, _, _, _, _, _⟩; all_goals (replace H := H2; clear H2; dsimp only at H; cbv))
    | (obtain ⟨R, hR, H2⟩ := bindR_go H; refine call_in hJ [] (by decide) rfl rfl rfl (f14_call _ ho _ _ hR _ _ ?_); clear H hR; rcases R with ⟨_⟩ | ⟨_, _, _, _, _, _, _⟩; all_goals (replace H := H2; clear H2; dsimp only at H; cbv))
    | (obtain ⟨R, hR, H2⟩ := bindR_go H; refine call_in hJ [] (by decide) rfl rfl rfl (f13_call _ ho _  hR _ _ ?_); clear H hR; rcases R with ⟨_⟩; all_goals (replace H := H2; clear H2; dsimp only at H; cbv))
    | (refine f3_l0_go hJ H (by decide) ⟨?_, ?_, rfl, rfl⟩ ?_
       · cbv
         repeat' (first | exact trivial | exact rfl | apply And.intro)
       · cbv
         repeat' (first | exact trivial | exact rfl | apply And.intro)
       clear H
       intro X0 HX0 n _ _ _ _ _ _ _ H Nx0 hN0
       rw [f3_l0] at H
       cbv)
    | (refine lit_t ?_; cbv)
    | (refine lit_f ?_; cbv)
    | (refine known_t (by assumption) ?_)
    | (refine known_f (by assumption) ?_)
    | (refine known_x (by assumption) ?_)
    | (refine known_y (by assumption) ?_)
    | (refine known_get (by assumption) ?_; cbv)
    | (refine known_and (by assumption) ?_)
    | with_reducible refine And.intro ?_ ?_
    | (intro hh; exact hh)
    | (intro _; assumption)
    | (intro hx; first | exact tf_absurd hx (by assumption) | exact tf_absurd (by assumption) hx)
    | (intro _; clear H h; (try clear hN0); (try clear HX0); simp only [ho, stdOps] at *; simp_all)
    | (cbv; with_reducible refine hold_go hJ ?_; cbv))

end Go.Proofs.Ytjdbmfipciadfaa.A
