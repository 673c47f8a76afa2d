/- Functions of the program and of the document's answer, as plain ones. Written by lift.py. -/
import Derived.Test.YtjdbmfipciadfaaSx0
import Derived.Test.YtjdbmfipciadfaaSx4
import Derived.Test.YtjdbmfipciadfaaSx12
import Derived.Test.YtjdbmfipciadfaaSx11
import Derived.Test.YtjdbmfipciadfaaSx2
import Derived.Test.YtjdbmfipciadfaaSx5
import Derived.Test.YtjdbmfipciadfaaSx14
import Derived.Test.YtjdbmfipciadfaaSx1

namespace Go.Proofs.Ytjdbmfipciadfaa.A
open Go Go.Pt

/-! pontoon/pontoonlaw15.SinkGrows -/
inductive F5R where
  | v0 (y0 : Bool)
def F5R.av : F5R → AV
  | .v0 y0 => .bool y0
def F5R.hp : F5R → List Ent
  | .v0 _ => []
inductive F5L0 where
  | x0 
  | x1 
noncomputable def f5_l0 (o : Ops) (fuel : Nat) (a0 : List AV) (r11 : Int) : Nat → Nat → Int → Int → List AV → List AV → List (AV × AV) → List (AV × AV) → Int → List AV → List AV → List AV → List AV → Option F5L0
  | 0, _, _, _, _, _, _, _, _, _, _, _, _ => none
  | n + 1, w55, w56, w57, w58, w59, w60, w61, w62, w63, w64, w65, w66 =>
    ifB (o.cmp .lss w56 (o.len a0))
    (req (o.inb w56 (o.len a0)) <|
     getA (o.get a0 w56) fun e => sh33 e fun v67 v68 v69 v70 v71 v72 =>
     bindR (f18 o fuel w55 2 w57 w58 w59 w60 w61) fun r => match r with
     | .v0 _ r74 _ _ _ r78 r79 => bindR (f26 o fuel w55 2 w57 w58 w59 r78 r79) fun r => match r with
       | .v0 r80 => bindR (f25 o fuel w55 2 w57 w58 w59 r78 r79) fun r => match r with
         | .v0 r81 => bindR (f27 o fuel w55 v67 v68 v69 v70 v71 v72 2 w57 w58 w59 r11 w62 w63 w64 w65 w66 r78 r79) fun r => match r with
           | .v0 r82 r83 r84 r85 r86 r87 r88 r89 r90 r91 r92 r93 => ifB (o.bnot r82)
             (some (.x0 ))
             (bindR (f18 o fuel r85 2 r83 r84 r86 r92 r93) fun r => match r with
              | .v0 _ r95 _ _ _ r99 r100 => ifB (o.cmp .lss (o.len r95) (o.len r74))
                (some (.x0 ))
                (req (o.le 0 (o.len r74)) <|
                 req (o.le (o.len r74) (o.len r95)) <|
                 bindR (f28 o fuel (o.sub r95 0 (o.len r74)) r74) fun r => match r with
                 | .v0 r101 => ifB (o.bnot r101)
                   (some (.x0 ))
                   (bindR (f26 o fuel r85 2 r83 r84 r86 r99 r100) fun r => match r with
                    | .v0 r102 => bindR (f29 o fuel r102 r80) fun r => match r with
                      | .v0 r103 => ifB (o.bnot r103)
                        (some (.x0 ))
                        (bindR (f25 o fuel r85 2 r83 r84 r86 r99 r100) fun r => match r with
                         | .v0 r104 => ifB (o.cmp .lss r104 r81)
                           (some (.x0 ))
                           (f5_l0 o fuel a0 r11 n r85 (o.ar .add .i64 w56 1) r83 r84 r86 r99 r100 r87 r88 r89 r90 r91))))))
    (some (.x1 ))
theorem f5_l0_go {J : Jd} {n₀ : Nat} (hJ : J = std Try.prog n₀) {fuel : Nat} {a0 : List AV} {r11 : Int} {w55i : Nat} {w56i : Int} {w57i : Int} {w58i : List AV} {w59i : List AV} {w60i : List (AV × AV)} {w61i : List (AV × AV)} {w62i : Int} {w63i : List AV} {w64i : List AV} {w65i : List AV} {w66i : List AV} {α : Type} {k : F5L0 → Option α} {r : α} {c : Code} {Q : Ex → St → Prop} {s : St}
    (H : bindR (f5_l0 J.o fuel a0 r11 fuel w55i w56i w57i w58i w59i w60i w61i w62i w63i w64i w65i w66i) k = some r) (hn : n₀ ≤ 5) (hle : Le s ⟨[(31, .int .i64 w56i), (30, .int .i64 (J.o.len a0)), (29, .sl 6 a0 .no), (5, .ptr 4 0), (3, .ptr 0 0)], [.var [.int .i64 2, .int .i64 w57i, .sl 2 w58i (.tip 1 w55i), .sl 1 w59i .no, .mp 2, .mp 3], .tip w55i, .mp w60i, .mp w61i, .var [.int .i64 r11, .int .i64 w62i, .sl 2 w63i .no, .sl 1 w64i .no, .sl 1 w65i .no, .sl 5 w66i .no]], 78⟩)
    (round : ∀ X, k X = some r → ∀ (n : Nat) (w55 : Nat) (w56 : Int) (w57 : Int) (w58 : List AV) (w59 : List AV) (w60 : List (AV × AV)) (w61 : List (AV × AV)) (w62 : Int) (w63 : List AV) (w64 : List AV) (w65 : List AV) (w66 : List AV), f5_l0 J.o fuel a0 r11 (n + 1) w55 w56 w57 w58 w59 w60 w61 w62 w63 w64 w65 w66 = some X → ∀ N : St → Prop,
      (∀ (env : List (Nat × AV)) (w55' : Nat) (w56' : Int) (w57' : Int) (w58' : List AV) (w59' : List AV) (w60' : List (AV × AV)) (w61' : List (AV × AV)) (w62' : Int) (w63' : List AV) (w64' : List AV) (w65' : List AV) (w66' : List AV) (v : List Ent), f5_l0 J.o fuel a0 r11 n w55' w56' w57' w58' w59' w60' w61' w62' w63' w64' w65' w66' = some X → wkEnv env [(31, .int .i64 w56'), (30, .int .i64 (J.o.len a0)), (29, .sl 6 a0 .no), (5, .ptr 4 0), (3, .ptr 0 0)] → N ⟨env, [.var [.int .i64 2, .int .i64 w57', .sl 2 w58' (.tip 1 w55'), .sl 1 w59' .no, .mp 2, .mp 3], .tip w55', .mp w60', .mp w61', .var [.int .i64 r11, .int .i64 w62', .sl 2 w63' .no, .sl 1 w64' .no, .sl 1 w65' .no, .sl 5 w66' .no]] ++ v, 78⟩) → awp J tab c (thenQ N Q) ⟨[(31, .int .i64 w56), (30, .int .i64 (J.o.len a0)), (29, .sl 6 a0 .no), (5, .ptr 4 0), (3, .ptr 0 0)], [.var [.int .i64 2, .int .i64 w57, .sl 2 w58 (.tip 1 w55), .sl 1 w59 .no, .mp 2, .mp 3], .tip w55, .mp w60, .mp w61, .var [.int .i64 r11, .int .i64 w62, .sl 2 w63 .no, .sl 1 w64 .no, .sl 1 w65 .no, .sl 5 w66 .no]], 78⟩) : J.code (.loop c) Q s := by
  obtain ⟨X, hX, HX⟩ := bindR_go H
  refine loop_at (β := Nat × Nat × Int × Int × List AV × List AV × List (AV × AV) × List (AV × AV) × Int × List AV × List AV × List AV × List AV) hJ tab_ok (fun | (_, w55, w56, w57, w58, w59, w60, w61, w62, w63, w64, w65, w66) => ⟨[(31, .int .i64 w56), (30, .int .i64 (J.o.len a0)), (29, .sl 6 a0 .no), (5, .ptr 4 0), (3, .ptr 0 0)], [.var [.int .i64 2, .int .i64 w57, .sl 2 w58 (.tip 1 w55), .sl 1 w59 .no, .mp 2, .mp 3], .tip w55, .mp w60, .mp w61, .var [.int .i64 r11, .int .i64 w62, .sl 2 w63 .no, .sl 1 w64 .no, .sl 1 w65 .no, .sl 5 w66 .no]], 78⟩) (fun | (n, w55, w56, w57, w58, w59, w60, w61, w62, w63, w64, w65, w66) => f5_l0 J.o fuel a0 r11 n w55 w56 w57 w58 w59 w60 w61 w62 w63 w64 w65 w66 = some X) (fun | (n, _, _, _, _, _, _, _, _, _, _, _, _) => n) (fuel, w55i, w56i, w57i, w58i, w59i, w60i, w61i, w62i, w63i, w64i, w65i, w66i) hX hle (by rintro ⟨_, _, _, _, _, _, _, _, _, _, _, _, _⟩; exact hn) ?_
  rintro ⟨n, w55, w56, w57, w58, w59, w60, w61, w62, w63, w64, w65, w66⟩ hb N hN
  rcases n with _ | n
  · exact none_go (show (none : Option F5L0) = some X from hb)
  exact round X HX n w55 w56 w57 w58 w59 w60 w61 w62 w63 w64 w65 w66 hb N fun env w55' w56' w57' w58' w59' w60' w61' w62' w63' w64' w65' w66' v h1 h2 => hN _ (n, w55', w56', w57', w58', w59', w60', w61', w62', w63', w64', w65', w66') h1 (Nat.lt_succ_self n) ⟨h2, by first | (cbv; done) | (cbv; repeat' (first | exact trivial | exact rfl | apply And.intro)), rfl, rfl⟩

noncomputable def f5 (o : Ops) (fuel : Nat) (a0 : List AV) : Option F5R :=
  bindR (f13 o fuel ) fun r => match r with
  | .v0 r1 => ifB (o.bnot r1)
    (some (.v0 false))
    (bindR (f14 o fuel 2) fun r => match r with
     | .v0 _ => some (.v0 false)
     | .v1 r3 r4 r5 r6 r7 r8 r9 => ifB (o.pick (o.bnot (o.cmp .eql r3 0)) true false)
       (some (.v0 false))
       (bindR (f19 o fuel ) fun r => match r with
        | .v0 _ r11 r12 r13 r14 r15 r16 => bindR (f5_l0 o fuel a0 r11 fuel r6 0 r4 r5 r7 r8 r9 r12 r13 r14 r15 r16) fun r => match r with
          | .x0  => some (.v0 false)
          | .x1  => some (.v0 true)))
set_option maxHeartbeats 4000000 in
set_option maxRecDepth 100000 in
theorem f5_call (o : Ops) (ho : o = stdOps) (fuel : Nat) (a0 : List AV) {R : F5R} (H : f5 o fuel a0 = some R) (K : AV → List Ent → Prop) (E : AV → List Ent → Prop) (h : K R.av R.hp) : CallA Try.prog 5 [.sl 6 a0 .no] [] K E := by
  refine call_wk fun K' hK => ?_
  refine call_keep (n₀ := 0) tab_ok Try.func5 rfl rfl rfl rfl ?_
  intro J hJ
  obtain rfl : o = J.o := by rw [ho, hJ]; rfl
  unfold f5 at H
  cbv
  repeat' (first
    | ((with_reducible first | refine awp_go2 ?_ | refine aops_go2 ?_ | refine strip_go2 ?_ | refine draw_go2 ?_ | refine frames_go2 ?_); cbv)
    | (with_reducible refine hold_go hJ ?_; cbv)
    | with_reducible exact id
    | exact trivial
    | with_reducible exact rfl
    | with_reducible exact ⟨_, rfl⟩
    | exact none_go H
    | (cases H; replace H := HX0; clear HX0; dsimp only at H)
    | (refine KeepQ.mk [] (by decide) ?_; cbv; cases H; refine hK _ _ _ _ ?_ ?_ rfl h <;> cbv)
    | (refine hN0 _ _ _ _ _ _ _ _ _ _ _ _ _ _ H ?_; with_reducible refine wkEnv_go2 ?_; cbv)
    | (first | refine known_t (kn_pick_s ho rfl rfl) ?_ | refine known_y (kn_pick_s ho rfl rfl) ?_)
    | (refine ifB_go H ?_ ?_ <;> clear H <;> intro hh H)
    | (refine ifB_og H ?_ ?_ <;> clear H <;> intro hh H)
    | (refine req_go H ?_; clear H; intro hh H)
    | (refine gg_t ho H ?_ ?_ <;> clear H <;> intro hh H)
    | (refine gg_f ho H ?_ ?_ <;> clear H <;> intro hh H)
    | (refine bit_go ho H ?_ ?_ <;> clear H <;> intro hh H; (all_goals cbv))
    | (refine nil_go H ?_; clear H; intro b H; cbv)
    | (refine tok_go ?_; cbv)
    | (refine sh33_get H ?_; clear H; intro _ _ _ _ _ _ he H; cbv)
    | (refine sh33_find H ?_ ?_ <;> clear H; (intro _ _ _ _ _ _ H; cbv); rotate_left; (intro H; cbv))
    | (refine getA_go (β := UInt8) H ?_; clear H; intro e H; cbv)
    | (obtain ⟨R, hR, H2⟩ := bindR_go H; refine call_in hJ [0, 1, 2, 3] (by decide) rfl rfl rfl (f25_call _ ho _ _ _ _ _ _ _ _ hR _ _ ?_); clear H hR; rcases R with ⟨_⟩; all_goals (replace H := H2; clear H2; dsimp only at H; cbv))
    | (obtain ⟨R, hR, H2⟩ := bindR_go H; refine call_in hJ [] (by decide) rfl rfl rfl (f29_call _ ho _ _ _ hR _ _ ?_); clear H hR; rcases R with ⟨_⟩; all_goals (replace H := H2; clear H2; dsimp only at H; cbv))
    | (obtain ⟨R, hR, H2⟩ := bindR_go H; refine call_in hJ [0, 1, 2, 3] (by decide) rfl rfl rfl (f26_call _ ho _ _ _ _ _ _ _ _ hR _ _ ?_); clear H hR; rcases R with ⟨_⟩; all_goals (replace H := H2; clear H2; dsimp only at H; cbv))
    | (obtain ⟨R, hR, H2⟩ := bindR_go H; refine call_in hJ [] (by decide) rfl rfl rfl (f28_call _ ho _ _ _ hR _ _ ?_); clear H hR; rcases R with ⟨_⟩; all_goals (replace H := H2; clear H2; dsimp only at H; cbv))
    | (obtain ⟨R, hR, H2⟩ := bindR_go H; refine call_in hJ [0, 1, 2, 3] (by decide) rfl rfl rfl (f18_call _ ho _ _ _ _ _ _ _ _ hR _ _ ?_); clear H hR; rcases R with ⟨_, _, _, _, _, _, _⟩; all_goals (replace H := H2; clear H2; dsimp only at H; cbv))
    | (obtain ⟨R, hR, H2⟩ := bindR_go H; refine call_in hJ [0, 4, 1, 2, 3] (by decide) rfl rfl rfl (f27_call _ ho _ _ _ _ _ _ _ _ _ _ _ _ _ _ _ _ _ _ _ _ hR _ _ ?_); clear H hR; rcases R with ⟨_, _, _, _, _, _, _, _, _, _, _, _⟩; all_goals (replace H := H2; clear H2; dsimp only at H; cbv))
    | (obtain ⟨R, hR, H2⟩ := bindR_go H; refine call_in hJ [] (by decide) rfl rfl rfl (f19_call _ ho _  hR _ _ ?_); clear H hR; rcases R with ⟨_, _, _, _, _, _, _⟩; all_goals (replace H := H2; clear H2; dsimp only at H; cbv))
    | (obtain ⟨R, hR, H2⟩ := bindR_go H; refine call_in hJ [] (by decide) rfl rfl rfl (f14_call _ ho _ _ hR _ _ ?_); clear H hR; rcases R with ⟨_⟩ | ⟨_, _, _, _, _, _, _⟩; all_goals (replace H := H2; clear H2; dsimp only at H; cbv))
    | (obtain ⟨R, hR, H2⟩ := bindR_go H; refine call_in hJ [] (by decide) rfl rfl rfl (f13_call _ ho _  hR _ _ ?_); clear H hR; rcases R with ⟨_⟩; all_goals (replace H := H2; clear H2; dsimp only at H; cbv))
    | (refine f5_l0_go hJ H (by decide) ⟨?_, ?_, rfl, rfl⟩ ?_
       · cbv
         repeat' (first | exact trivial | exact rfl | apply And.intro)
       · cbv
         repeat' (first | exact trivial | exact rfl | apply And.intro)
       clear H
       intro X0 HX0 n _ _ _ _ _ _ _ _ _ _ _ _ H Nx0 hN0
       rw [f5_l0] at H
       cbv)
    | (refine lit_t ?_; cbv)
    | (refine lit_f ?_; cbv)
    | (refine known_t (by assumption) ?_)
    | (refine known_f (by assumption) ?_)
    | (refine known_x (by assumption) ?_)
    | (refine known_y (by assumption) ?_)
    | (refine known_get (by assumption) ?_; cbv)
    | (refine known_and (by assumption) ?_)
    | with_reducible refine And.intro ?_ ?_
    | (intro hh; exact hh)
    | (intro _; assumption)
    | (intro hx; first | exact tf_absurd hx (by assumption) | exact tf_absurd (by assumption) hx)
    | (intro _; clear H h; (try clear hN0); (try clear HX0); simp only [ho, stdOps] at *; simp_all)
    | (cbv; with_reducible refine hold_go hJ ?_; cbv))

end Go.Proofs.Ytjdbmfipciadfaa.A
