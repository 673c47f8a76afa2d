/- Functions of the program and of the document's answer, as plain ones. Written by lift.py. -/
import Derived.Test.YtjdbmfipciadfaaSx0
import Derived.Test.YtjdbmfipciadfaaSx18
import Derived.Test.YtjdbmfipciadfaaSx9
import Derived.Test.YtjdbmfipciadfaaSx25
import Derived.Test.YtjdbmfipciadfaaSx23
import Derived.Test.YtjdbmfipciadfaaSx14
import Derived.Test.YtjdbmfipciadfaaSx1
import Derived.Test.YtjdbmfipciadfaaSx4

namespace Go.Proofs.Ytjdbmfipciadfaa.A
open Go Go.Pt

/-! pontoon/pontoonlaw15.SinkDoes -/
inductive F10R where
  | v0 (y0 : Bool)
def F10R.av : F10R → AV
  | .v0 y0 => .bool y0
def F10R.hp : F10R → List Ent
  | .v0 _ => []
inductive F10L0 where
  | x0 
  | x1 (y0 : Int) (y1 : List AV) (y2 : Nat) (y3 : List AV) (y4 : Int) (y5 : List AV) (y6 : List AV) (y7 : List AV) (y8 : List AV) (y9 : List (AV × AV)) (y10 : List (AV × AV))
noncomputable def f10_l0 (o : Ops) (fuel : Nat) (a1 : List AV) (a0 : Int) : Nat → Nat → Int → Int → List AV → List AV → Int → List AV → List AV → List AV → List AV → List (AV × AV) → List (AV × AV) → Option F10L0
  | 0, _, _, _, _, _, _, _, _, _, _, _, _ => none
  | n + 1, w86, w87, w88, w89, w90, w91, w92, w93, w94, w95, w96, w97 =>
    ifB (o.cmp .lss w87 (o.len a1))
    (req (o.inb w87 (o.len a1)) <|
     getA (o.get a1 w87) fun e => sh33 e fun v98 v99 v100 v101 v102 v103 =>
     bindR (f27 o fuel w86 v98 v99 v100 v101 v102 v103 a0 w88 w89 w90 a0 w91 w92 w93 w94 w95 w96 w97) fun r => match r with
     | .v0 r104 r105 r106 r107 r108 r109 r110 r111 r112 r113 r114 r115 => ifB (o.bnot r104)
       (some (.x0 ))
       (bindR (f47 o fuel r107 v98 v99 v100 v101 v102 v103 a0 r105 r106 r108 a0 r109 r110 r111 r112 r113 r114 r115) fun r => match r with
        | .v0 r116 r117 r118 => ifB (o.bnot r116)
          (some (.x0 ))
          (ifB (o.cmp .eql v98 4)
           (bindR (f55 o fuel r107 a0 r105 r106 r108 r117 r118) fun r => match r with
            | .v0 _ _ => some (.x0 )
            | .v1 r121 r122 r123 r124 r125 r126 r127 r128 => bindR (f24 o fuel r107 9007199254740992 a0 r105 r106 r108 r121 r122) fun r => match r with
              | .v0 _ _ _ _ => f10_l0 o fuel a1 a0 n r125 (o.ar .add .i64 w87 1) r123 r124 r126 r109 r110 r111 r112 r113 r127 r128)
           (f10_l0 o fuel a1 a0 n r107 (o.ar .add .i64 w87 1) r105 r106 r108 r109 r110 r111 r112 r113 r117 r118))))
    (some (.x1 w88 w89 w86 w90 w91 w92 w93 w94 w95 w96 w97))
theorem f10_l0_go {J : Jd} {n₀ : Nat} (hJ : J = std Try.prog n₀) {o : Ops} (hJo : J.o = o) {fuel : Nat} {a1 : List AV} {a0 : Int} {w86i : Nat} {w87i : Int} {w88i : Int} {w89i : List AV} {w90i : List AV} {w91i : Int} {w92i : List AV} {w93i : List AV} {w94i : List AV} {w95i : List AV} {w96i : List (AV × AV)} {w97i : List (AV × AV)} {α : Type} {k : F10L0 → Option α} {r : α} {c : Code} {Q : Ex → St → Prop} {s : St}
    (H : bindR (f10_l0 o fuel a1 a0 fuel w86i w87i w88i w89i w90i w91i w92i w93i w94i w95i w96i w97i) k = some r) (hn : n₀ ≤ 5) (hle : Turn n₀ s ⟨[(38, .int .i64 w87i), (37, .int .i64 (o.len a1)), (36, .sl 6 a1 .no), (7, .ptr 1 0), (5, .ptr 0 0)], [.var [.int .i64 a0, .int .i64 w88i, .sl 2 w89i (.tip 2 w86i), .sl 1 w90i .no, .mp 3, .mp 4], .var [.int .i64 a0, .int .i64 w91i, .sl 2 w92i .no, .sl 1 w93i .no, .sl 1 w94i .no, .sl 5 w95i .no], .tip w86i, .mp w96i, .mp w97i], 69⟩)
    (round : ∀ X, k X = some r → ∀ (n : Nat) (w86 : Nat) (w87 : Int) (w88 : Int) (w89 : List AV) (w90 : List AV) (w91 : Int) (w92 : List AV) (w93 : List AV) (w94 : List AV) (w95 : List AV) (w96 : List (AV × AV)) (w97 : List (AV × AV)), f10_l0 o fuel a1 a0 (n + 1) w86 w87 w88 w89 w90 w91 w92 w93 w94 w95 w96 w97 = some X → ∀ N : St → Prop,
      (∀ (s' : St) (w86' : Nat) (w87' : Int) (w88' : Int) (w89' : List AV) (w90' : List AV) (w91' : Int) (w92' : List AV) (w93' : List AV) (w94' : List AV) (w95' : List AV) (w96' : List (AV × AV)) (w97' : List (AV × AV)), f10_l0 o fuel a1 a0 n w86' w87' w88' w89' w90' w91' w92' w93' w94' w95' w96' w97' = some X → Turn n₀ s' ⟨[(38, .int .i64 w87'), (37, .int .i64 (o.len a1)), (36, .sl 6 a1 .no), (7, .ptr 1 0), (5, .ptr 0 0)], [.var [.int .i64 a0, .int .i64 w88', .sl 2 w89' (.tip 2 w86'), .sl 1 w90' .no, .mp 3, .mp 4], .var [.int .i64 a0, .int .i64 w91', .sl 2 w92' .no, .sl 1 w93' .no, .sl 1 w94' .no, .sl 5 w95' .no], .tip w86', .mp w96', .mp w97'], 69⟩ → N s') → awp J tab c (thenQ N Q) ⟨[(38, .int .i64 w87), (37, .int .i64 (o.len a1)), (36, .sl 6 a1 .no), (7, .ptr 1 0), (5, .ptr 0 0)], [.var [.int .i64 a0, .int .i64 w88, .sl 2 w89 (.tip 2 w86), .sl 1 w90 .no, .mp 3, .mp 4], .var [.int .i64 a0, .int .i64 w91, .sl 2 w92 .no, .sl 1 w93 .no, .sl 1 w94 .no, .sl 5 w95 .no], .tip w86, .mp w96, .mp w97], 69⟩) : J.code (.loop c) Q s := by
  subst hJo
  obtain ⟨X, hX, HX⟩ := bindR_go H
  refine loop_turn_at (β := Nat × Nat × Int × Int × List AV × List AV × Int × List AV × List AV × List AV × List AV × List (AV × AV) × List (AV × AV)) hJ tab_ok (fun | (_, w86, w87, w88, w89, w90, w91, w92, w93, w94, w95, w96, w97) => ⟨[(38, .int .i64 w87), (37, .int .i64 (J.o.len a1)), (36, .sl 6 a1 .no), (7, .ptr 1 0), (5, .ptr 0 0)], [.var [.int .i64 a0, .int .i64 w88, .sl 2 w89 (.tip 2 w86), .sl 1 w90 .no, .mp 3, .mp 4], .var [.int .i64 a0, .int .i64 w91, .sl 2 w92 .no, .sl 1 w93 .no, .sl 1 w94 .no, .sl 5 w95 .no], .tip w86, .mp w96, .mp w97], 69⟩) (fun | (n, w86, w87, w88, w89, w90, w91, w92, w93, w94, w95, w96, w97) => f10_l0 J.o fuel a1 a0 n w86 w87 w88 w89 w90 w91 w92 w93 w94 w95 w96 w97 = some X) (fun | (n, _, _, _, _, _, _, _, _, _, _, _, _) => n) (fuel, w86i, w87i, w88i, w89i, w90i, w91i, w92i, w93i, w94i, w95i, w96i, w97i) hX hle (by rintro ⟨_, _, _, _, _, _, _, _, _, _, _, _, _⟩; exact hn) ?_
  rintro ⟨n, w86, w87, w88, w89, w90, w91, w92, w93, w94, w95, w96, w97⟩ hb N hN
  rcases n with _ | n
  · exact none_go (show (none : Option F10L0) = some X from hb)
  exact round X HX n w86 w87 w88 w89 w90 w91 w92 w93 w94 w95 w96 w97 hb N fun s' w86' w87' w88' w89' w90' w91' w92' w93' w94' w95' w96' w97' h1 h2 => hN s' (n, w86', w87', w88', w89', w90', w91', w92', w93', w94', w95', w96', w97') h1 (Nat.lt_succ_self n) h2

noncomputable def f10 (o : Ops) (fuel : Nat) (a0 : Int) (a1 : List AV) : Option F10R :=
  bindR (f13 o fuel ) fun r => match r with
  | .v0 r2 => ifB (o.bnot r2)
    (some (.v0 false))
    (bindR (f14 o fuel a0) fun r => match r with
     | .v0  => bindR (f19_1 o fuel a0) fun r => match r with
       | .v0  => some (.v0 true)
       | .v1 _ _ _ _ => some (.v0 false)
     | .v1 r7 r8 r9 r10 r11 => bindR (f19_1 o fuel a0) fun r => match r with
       | .v0  => some (.v0 false)
       | .v1 r12 r13 r14 r15 => bindR (f10_l0 o fuel a1 a0 fuel r8 0 0 r7 r9 0 r12 r13 r14 r15 r10 r11) fun r => match r with
         | .x0  => some (.v0 false)
         | .x1 y133 y134 y135 y136 y137 y138 y139 y140 y141 y142 y143 => bindR (f47 o fuel y135 0 0 0 0 [] [] a0 y133 y134 y136 a0 y137 y138 y139 y140 y141 y142 y143) fun r => match r with
           | .v0 r144 _ _ => some (.v0 r144))
set_option maxHeartbeats 4000000 in
set_option maxRecDepth 100000 in
theorem f10_call (o : Ops) (ho : o = stdOps) (fuel : Nat) (a0 : Int) (a1 : List AV) {R : F10R} (H : f10 o fuel a0 a1 = some R) (K : AV → List Ent → Prop) (E : AV → List Ent → Prop) (h : K R.av R.hp) : CallA Try.prog 10 [.int .i64 a0, .sl 6 a1 .no] [] K E := by
  refine call_wk fun K' hK => ?_
  refine call_keep (n₀ := 0) tab_ok Try.func10 rfl rfl rfl rfl ?_
  intro J hJ
  obtain rfl : o = J.o := by rw [ho, hJ]; rfl
  unfold f10 at H
  cbv
  repeat' (first
    | ((with_reducible first | refine awp_go2 ?_ | refine aops_go2 ?_ | refine strip_go2 ?_ | refine draw_go2 ?_ | refine frames_go2 ?_); cbv)
    | (with_reducible refine hold_go hJ ?_; cbv)
    | with_reducible exact id
    | exact trivial
    | with_reducible exact rfl
    | with_reducible exact ⟨_, rfl⟩
    | exact none_go H
    | (cases H; replace H := HX0; clear HX0; (try dsimp only at H))
    | (refine KeepQ.mk [] (by decide) ?_; cbv; cases H; refine hK _ _ _ _ ?_ ?_ rfl h <;> cbv)
    | (refine hN0 _ _ _ _ _ _ _ _ _ _ _ _ _ H (Turn.trans (Turn.pack [0, 1, 2, 3, 4] (by decide) (leN_t rfl)) (Turn.le ⟨?_, ?_, rfl, rfl⟩ (leN_t rfl))) <;> (cbv; (repeat' (first | exact trivial | exact rfl | apply And.intro)); done))
    | (refine hN0 _ _ _ _ _ _ _ _ _ _ _ _ _ H (Turn.trans (Turn.pack [6, 1, 7, 8, 9] (by decide) (leN_t rfl)) (Turn.le ⟨?_, ?_, rfl, rfl⟩ (leN_t rfl))) <;> (cbv; (repeat' (first | exact trivial | exact rfl | apply And.intro)); done))
    | (first | refine known_f (kn_pick_f ho (kn_bnot_f ho (kn_cmp ho (by decide))) (kn_bnot_f ho (kn_same_t ho (kn_bnot_f ho rfl) (kn_cmp ho (by decide))))) ?_ | refine known_x (kn_pick_f ho (kn_bnot_f ho (kn_cmp ho (by decide))) (kn_bnot_f ho (kn_same_t ho (kn_bnot_f ho rfl) (kn_cmp ho (by decide))))) ?_)
    | (first | refine known_t (kn_bnot_t ho (kn_cmp ho (by decide))) ?_ | refine known_y (kn_bnot_t ho (kn_cmp ho (by decide))) ?_)
    | (first | refine known_t (kn_pick_t ho (kn_bnot_t ho (kn_cmp ho (by decide))) rfl) ?_ | refine known_y (kn_pick_t ho (kn_bnot_t ho (kn_cmp ho (by decide))) rfl) ?_)
    | (first | refine known_f (kn_pick_f ho (kn_bnot_f ho (kn_cmp ho (by decide))) (kn_bnot_f ho (kn_same_t ho (kn_bnot_t ho rfl) (kn_cmp ho (by decide))))) ?_ | refine known_x (kn_pick_f ho (kn_bnot_f ho (kn_cmp ho (by decide))) (kn_bnot_f ho (kn_same_t ho (kn_bnot_t ho rfl) (kn_cmp ho (by decide))))) ?_)
    | (first | refine known_f (kn_bnot_f ho (kn_cmp ho (by decide))) ?_ | refine known_x (kn_bnot_f ho (kn_cmp ho (by decide))) ?_)
    | (first | refine known_t rfl ?_ | refine known_y rfl ?_)
    | (first | refine known_f rfl ?_ | refine known_x rfl ?_)
    | (refine ifB_go H ?_ ?_ <;> clear H <;> intro hh H)
    | (refine ifB_og H ?_ ?_ <;> clear H <;> intro hh H)
    | (refine req_go H ?_; clear H; intro hh H)
    | (refine gg_t ho H ?_ ?_ <;> clear H <;> intro hh H)
    | (refine gg_f ho H ?_ ?_ <;> clear H <;> intro hh H)
    | (refine bit_go ho H ?_ ?_ <;> clear H <;> intro hh H; (all_goals cbv))
    | (refine nil_go H ?_; clear H; intro b H; cbv)
    | (refine tok_go ?_; cbv)
    | (refine sh33_get H ?_; clear H; intro _ _ _ _ _ _ he H; cbv)
    | (refine sh33_find H ?_ ?_ <;> clear H; (intro _ _ _ _ _ _ H; cbv); rotate_left; (intro H; cbv))
    | (refine getA_go (β := UInt8) H ?_; clear H; intro e H; cbv)
    | (obtain ⟨R, hR, H2⟩ := bindR_go H; refine call_in hJ [] (by decide) rfl rfl rfl (f19_1_call _ ho _ _ hR _ _ ?_); clear H hR; rcases R with ⟨⟩ | ⟨_, _, _, _⟩; all_goals (replace H := H2; clear H2; (try dsimp only at H); cbv))
    | (obtain ⟨R, hR, H2⟩ := bindR_go H; refine call_in hJ [0, 2, 3, 4] (by decide) rfl rfl rfl (f24_call _ ho _ _ _ _ _ _ _ _ _ hR _ _ ?_); clear H hR; rcases R with ⟨_, _, _, _⟩; all_goals (replace H := H2; clear H2; (try dsimp only at H); cbv))
    | (obtain ⟨R, hR, H2⟩ := bindR_go H; refine call_in hJ [0, 2, 3, 4] (by decide) rfl rfl rfl (f55_call _ ho _ _ _ _ _ _ _ _ hR _ _ ?_); clear H hR; rcases R with ⟨_, _⟩ | ⟨_, _, _, _, _, _, _, _⟩; all_goals (replace H := H2; clear H2; (try dsimp only at H); cbv))
    | (obtain ⟨R, hR, H2⟩ := bindR_go H; refine call_in hJ [0, 1, 2, 3, 4] (by decide) rfl rfl rfl (f47_call _ ho _ _ _ _ _ _ _ _ _ _ _ _ _ _ _ _ _ _ _ _ hR _ _ ?_); clear H hR; rcases R with ⟨_, _, _⟩; all_goals (replace H := H2; clear H2; (try dsimp only at H); cbv))
    | (obtain ⟨R, hR, H2⟩ := bindR_go H; refine call_in hJ [0, 1, 2, 3, 4] (by decide) rfl rfl rfl (f27_call _ ho _ _ _ _ _ _ _ _ _ _ _ _ _ _ _ _ _ _ _ _ hR _ _ ?_); clear H hR; rcases R with ⟨_, _, _, _, _, _, _, _, _, _, _, _⟩; all_goals (replace H := H2; clear H2; (try dsimp only at H); cbv))
    | (obtain ⟨R, hR, H2⟩ := bindR_go H; refine call_weakF hJ [.junk, .junk, .agg [.junk, .junk, .junk, .junk, .sl 2 [] .no, .sl 1 [] .no]] ?_; cbv; refine call_in hJ [0, 1, 2, 3, 4] (by decide) rfl rfl rfl (f47_call _ ho _ _ _ _ _ _ _ _ _ _ _ _ _ _ _ _ _ _ _ _ hR _ _ ?_); clear H hR; rcases R with ⟨_, _, _⟩; all_goals (replace H := H2; clear H2; (try dsimp only at H); cbv))
    | (obtain ⟨R, hR, H2⟩ := bindR_go H; refine call_in hJ [] (by decide) rfl rfl rfl (f14_call _ ho _ _ hR _ _ ?_); clear H hR; rcases R with ⟨⟩ | ⟨_, _, _, _, _⟩; all_goals (replace H := H2; clear H2; (try dsimp only at H); cbv))
    | (obtain ⟨R, hR, H2⟩ := bindR_go H; refine call_in hJ [] (by decide) rfl rfl rfl (f13_call _ ho _  hR _ _ ?_); clear H hR; rcases R with ⟨_⟩; all_goals (replace H := H2; clear H2; (try dsimp only at H); cbv))
    | (refine f10_l0_go hJ (o := J.o) rfl H (by decide) (Turn.trans (Turn.pack [0, 4, 1, 2, 3] (by decide) (leN_t rfl)) (Turn.le ⟨?_, ?_, rfl, rfl⟩ (leN_t rfl))) ?_
       · cbv
         repeat' (first | exact trivial | exact rfl | apply And.intro)
       · cbv
         repeat' (first | exact trivial | exact rfl | apply And.intro)
       clear H
       intro X0 HX0 n _ _ _ _ _ _ _ _ _ _ _ _ H Nx0 hN0
       rw [f10_l0] at H
       cbv)
    | (refine lit_t ?_; cbv)
    | (refine lit_f ?_; cbv)
    | (refine known_t (by assumption) ?_)
    | (refine known_f (by assumption) ?_)
    | (refine known_x (by assumption) ?_)
    | (refine known_y (by assumption) ?_)
    | (refine known_get (by assumption) ?_; cbv)
    | (refine known_and (by assumption) ?_)
    | with_reducible refine And.intro ?_ ?_
    | (intro hh; exact hh)
    | (intro _; assumption)
    | (intro hx; first | exact tf_absurd hx (by assumption) | exact tf_absurd (by assumption) hx)
    | (intro _; clear H h; (try clear hN0); (try clear HX0); simp only [ho, stdOps] at *; simp_all)
    | (cbv; with_reducible refine hold_go hJ ?_; cbv))

end Go.Proofs.Ytjdbmfipciadfaa.A
