/- Functions of the program and of the document's answer, as plain ones. Written by lift.py. -/import Derived.Test.YtjdbmfipciadfaaSy0
import Derived.Test.YtjdbmfipciadfaaSy7
import Derived.Test.YtjdbmfipciadfaaSy26
import Derived.Test.YtjdbmfipciadfaaSy23
import Derived.Test.YtjdbmfipciadfaaSy25
import Derived.Test.YtjdbmfipciadfaaSy6
import Derived.Test.YtjdbmfipciadfaaSy11
import Derived.Test.YtjdbmfipciadfaaSy3
import Derived.Test.YtjdbmfipciadfaaSy5
import Derived.Test.YtjdbmfipciadfaaSy22
namespace Go.Proofs.Ytjdbmfipciadfaa.A
open Go Go.Pt
set_option maxHeartbeats 4000000
set_option maxRecDepth 100000
inductive F54R where
  | v0 (y0 : Bool) (y1 : List (AV × AV))
def F54R.av : F54R → AV
  | .v0 y0 _ => .bool y0
def F54R.hp (a6 : List AV) (a7 a8 a9 a10 : Int) (a11 : Bool) (a12 a13 a14 a15 a16 a17 a18 : Int) (a19 : Bool) (a21 a22 a23 : List AV) : F54R → List Ent
  | .v0 _ y1 => [.fam 0 a6, .var [.int .i64 a7, .mp 3, .vs 4 3 a8 a9 a10, .bool a11], .var [.vs 5 2 a12 a13 a14, .vs 6 3 a15 a16 a17, .int .i64 a18, .bool a19], .mp y1, .vec 3 a21, .vec 2 a22, .vec 3 a23]
inductive F54L0 where
  | x0
  | x1
noncomputable def f54_l0 (o : Ops) (fuel : Nat) (a1 : ByteArray) (r33 a6 : List AV) (a7 a8 a9 a10 : Int) (a11 : Bool) (r30 : List (AV × AV)) (a21 : List AV) (a12 a13 a14 a15 a16 a17 a18 : Int) (a19 : Bool) (a22 a23 : List AV) (a3 a4 a0 : Int) (a2 : ByteArray) (a5 : List AV) : Nat → Int → Option F54L0
  | 0, _ => none
  | n + 1, w54 =>
    ifB (o.cmp .lss w54 (o.len (o.apnd [.str a1] r33)))
    (req (o.inb w54 (o.len (o.apnd [.str a1] r33))) <|
     getA (o.get (o.apnd [.str a1] r33) w54) fun e => sh9 e fun v55 =>
     bindR (f38 o fuel v55 a6 a7 a8 a9 a10 a11 r30 a21) fun r => match r with
     | .v0 r56 r57 => bindR (f121 o fuel v55 a6 a12 a13 a14 a15 a16 a17 a18 a19 a22 a23) fun r => match r with
       | .v0 r58 r59 => bindR (f39 o fuel v55 0 r58 a6 a7 a8 a9 a10 a11 r30 a21) fun r => match r with
         | .v0 r60 r61 => bindR (f122 o fuel v55 0 r58 a6 a12 a13 a14 a15 a16 a17 a18 a19 a22 a23) fun r => match r with
           | .v0 r62 r63 => bindR (f41 o fuel v55 a6 a7 a8 a9 a10 a11 r30 a21) fun r => match r with
             | .v0 r64 r65 => bindR (f123 o fuel v55 a6 a12 a13 a14 a15 a16 a17 a18 a19 a22 a23) fun r => match r with
               | .v0 r66 r67 => bindR (f39 o fuel v55 a3 a4 a6 a7 a8 a9 a10 a11 r30 a21) fun r => match r with
                 | .v0 r68 r69 => bindR (f122 o fuel v55 a3 a4 a6 a12 a13 a14 a15 a16 a17 a18 a19 a22 a23) fun r => match r with
                   | .v0 r70 r71 => ifB (o.pick (o.bnot (o.cmp .eql r56 r58)) true (o.bnot (o.cmp .eql r57 r59)))
                     (some (.x0 ))
                     (bindR (f40 o fuel r60 r62 a6) fun r => match r with
                      | .v0 r72 => ifB (o.pick (o.bnot r72) true (o.bnot (o.cmp .eql r61 r63)))
                        (some (.x0 ))
                        (bindR (f40 o fuel r64 r66 a6) fun r => match r with
                         | .v0 r73 => ifB (o.pick (o.bnot r73) true (o.bnot (o.cmp .eql r65 r67)))
                           (some (.x0 ))
                           (bindR (f40 o fuel r68 r70 a6) fun r => match r with
                            | .v0 r74 => ifB (o.pick (o.bnot r74) true (o.bnot (o.cmp .eql r69 r71)))
                              (some (.x0 ))
                              (f54_l0 o fuel a1 r33 a6 a7 a8 a9 a10 a11 r30 a21 a12 a13 a14 a15 a16 a17 a18 a19 a22 a23 a3 a4 a0 a2 a5 n (o.ar .add .i64 w54 1))))))
    (some (.x1 ))
theorem f54_l0_go {J : Jd} {n₀ : Nat} (hJ : J = std Try.prog n₀) {o : Ops} (hJo : J.o = o) {fuel : Nat} {a1 : ByteArray} {r33 a6 : List AV} {a7 a8 a9 a10 : Int} {a11 : Bool} {r30 : List (AV × AV)} {a21 : List AV} {a12 a13 a14 a15 a16 a17 a18 : Int} {a19 : Bool} {a22 a23 : List AV} {a3 a4 a0 : Int} {a2 : ByteArray} {a5 : List AV} {w54i : Int} {α : Type} {k : F54L0 → Option α} {r : α} {c : Code} {Q : Ex → St → Prop} {s : St}
    (H : bindR (f54_l0 o fuel a1 r33 a6 a7 a8 a9 a10 a11 r30 a21 a12 a13 a14 a15 a16 a17 a18 a19 a22 a23 a3 a4 a0 a2 a5 fuel w54i) k = some r) (hn : n₀ ≤ 9) (hle : Le s ⟨[(64, .int .i64 w54i), (63, .int .i64 (o.len (o.apnd [.str a1] r33))), (62, .sl 1 (o.apnd [.str a1] r33) (.tip 8 (o.pos [.str a1] r33))), (5, .ptr 7 0), (1, .ptr 2 0), (0, .ptr 1 0)], [.fam 0 a6, .var [.int .i64 a7, .mp 3, .vs 4 3 a8 a9 a10, .bool a11], .var [.vs 5 2 a12 a13 a14, .vs 6 3 a15 a16 a17, .int .i64 a18, .bool a19], .mp r30, .vec 3 a21, .vec 2 a22, .vec 3 a23, .var [.int .i64 a0, .str a1, .str a2, .int .i64 a3, .int .i64 a4, .sl 1 a5 .no], .tip (o.pos [.str a1] r33)], 168⟩)
    (round : ∀ X, k X = some r → ∀ (n : Nat) (w54 : Int), f54_l0 o fuel a1 r33 a6 a7 a8 a9 a10 a11 r30 a21 a12 a13 a14 a15 a16 a17 a18 a19 a22 a23 a3 a4 a0 a2 a5 (n + 1) w54 = some X → ∀ N : St → Prop,
      (∀ (env : List (Nat × AV)) (w54' : Int) (v : List Ent), f54_l0 o fuel a1 r33 a6 a7 a8 a9 a10 a11 r30 a21 a12 a13 a14 a15 a16 a17 a18 a19 a22 a23 a3 a4 a0 a2 a5 n w54' = some X → wkEnv env [(64, .int .i64 w54'), (63, .int .i64 (o.len (o.apnd [.str a1] r33))), (62, .sl 1 (o.apnd [.str a1] r33) (.tip 8 (o.pos [.str a1] r33))), (5, .ptr 7 0), (1, .ptr 2 0), (0, .ptr 1 0)] → N ⟨env, [.fam 0 a6, .var [.int .i64 a7, .mp 3, .vs 4 3 a8 a9 a10, .bool a11], .var [.vs 5 2 a12 a13 a14, .vs 6 3 a15 a16 a17, .int .i64 a18, .bool a19], .mp r30, .vec 3 a21, .vec 2 a22, .vec 3 a23, .var [.int .i64 a0, .str a1, .str a2, .int .i64 a3, .int .i64 a4, .sl 1 a5 .no], .tip (o.pos [.str a1] r33)] ++ v, 168⟩) → awp J tab c (thenQ N Q) ⟨[(64, .int .i64 w54), (63, .int .i64 (o.len (o.apnd [.str a1] r33))), (62, .sl 1 (o.apnd [.str a1] r33) (.tip 8 (o.pos [.str a1] r33))), (5, .ptr 7 0), (1, .ptr 2 0), (0, .ptr 1 0)], [.fam 0 a6, .var [.int .i64 a7, .mp 3, .vs 4 3 a8 a9 a10, .bool a11], .var [.vs 5 2 a12 a13 a14, .vs 6 3 a15 a16 a17, .int .i64 a18, .bool a19], .mp r30, .vec 3 a21, .vec 2 a22, .vec 3 a23, .var [.int .i64 a0, .str a1, .str a2, .int .i64 a3, .int .i64 a4, .sl 1 a5 .no], .tip (o.pos [.str a1] r33)], 168⟩) : J.code (.loop c) Q s := by
  subst hJo
  obtain ⟨X, hX, HX⟩ := bindR_go H
  refine loop_at (β := Nat × Int) hJ tab_ok (fun | (_, w54) => ⟨[(64, .int .i64 w54), (63, .int .i64 (J.o.len (J.o.apnd [.str a1] r33))), (62, .sl 1 (J.o.apnd [.str a1] r33) (.tip 8 (J.o.pos [.str a1] r33))), (5, .ptr 7 0), (1, .ptr 2 0), (0, .ptr 1 0)], [.fam 0 a6, .var [.int .i64 a7, .mp 3, .vs 4 3 a8 a9 a10, .bool a11], .var [.vs 5 2 a12 a13 a14, .vs 6 3 a15 a16 a17, .int .i64 a18, .bool a19], .mp r30, .vec 3 a21, .vec 2 a22, .vec 3 a23, .var [.int .i64 a0, .str a1, .str a2, .int .i64 a3, .int .i64 a4, .sl 1 a5 .no], .tip (J.o.pos [.str a1] r33)], 168⟩) (fun | (n, w54) => f54_l0 J.o fuel a1 r33 a6 a7 a8 a9 a10 a11 r30 a21 a12 a13 a14 a15 a16 a17 a18 a19 a22 a23 a3 a4 a0 a2 a5 n w54 = some X) (fun | (n, _) => n) (fuel, w54i) hX hle (by rintro ⟨_, _⟩; exact hn) ?_
  rintro ⟨n, w54⟩ hb N hN
  rcases n with _ | n
  · exact none_go (show (none : Option F54L0) = some X from hb)
  exact round X HX n w54 hb N fun env w54' v h1 h2 => hN _ (n, w54') h1 (Nat.lt_succ_self n) ⟨h2, by first | (cbv; done) | (cbv; repeat' (first | exact trivial | exact rfl | apply And.intro)), rfl, rfl⟩
noncomputable def f54 (o : Ops) (fuel : Nat) (a0 : Int) (a1 a2 : ByteArray) (a3 a4 : Int) (a5 a6 : List AV) (a7 a8 a9 a10 : Int) (a11 : Bool) (a12 a13 a14 a15 a16 a17 a18 : Int) (a19 : Bool) (a20 : List (AV × AV)) (a21 a22 a23 : List AV) : Option F54R :=
  bindR (f32 o fuel a6 a7 a8 a9 a10 a11 a20 a21) fun r => match r with
  | .v0 r24 r25 => bindR (f119 o fuel a6 a12 a13 a14 a15 a16 a17 a18 a19 a22 a23) fun r => match r with
    | .v0 r26 => bindR (f118 o fuel r24 r26 a6) fun r => match r with
      | .v0 r27 => ifB (o.bnot (o.bnot r27))
        (bindR (f35 o fuel a6 a7 a8 a9 a10 a11 r25 a21) fun r => match r with
         | .v0 r28 => ifB (o.bnot (o.pick (o.bnot r27) true (o.bnot (o.cmp .eql r28 a16))))
           (bindR (f52 o fuel a6 a7 a8 a9 a10 a11 r25 a21) fun r => match r with
            | .v0 r29 r30 => bindR (f120 o fuel a6 a12 a13 a14 a15 a16 a17 a18 a19 a22 a23) fun r => match r with
              | .v0 r31 => ifB (o.bnot (o.pick (o.pick (o.bnot r27) true (o.bnot (o.cmp .eql r28 a16))) true (o.bnot (o.cmp .eql r29 r31))))
                (bindR (f67 o fuel a6 a7 a8 a9 a10 a11 r30 a21) fun r => match r with
                 | .v0 r32 => ifB (o.pick (o.pick (o.pick (o.bnot r27) true (o.bnot (o.cmp .eql r28 a16))) true (o.bnot (o.cmp .eql r29 r31))) true (o.same r32 a19))
                   (some (.v0 false r30))
                   (bindR (f119 o fuel a6 a12 a13 a14 a15 a16 a17 a18 a19 a22 a23) fun r => match r with
                    | .v0 r33 => req (o.room [.str a1] r33 16) <|
                      bindR (f54_l0 o fuel a1 r33 a6 a7 a8 a9 a10 a11 r30 a21 a12 a13 a14 a15 a16 a17 a18 a19 a22 a23 a3 a4 a0 a2 a5 fuel 0) fun r => match r with
                      | .x0  => some (.v0 false r30)
                      | .x1  => some (.v0 true r30)))
                (some (.v0 false r30)))
           (some (.v0 false r25)))
        (some (.v0 false r25))
theorem f54_call (o : Ops) (ho : o = stdOps) (fuel : Nat) (a0 : Int) (a1 a2 : ByteArray) (a3 a4 : Int) (a5 a6 : List AV) (a7 a8 a9 a10 : Int) (a11 : Bool) (a12 a13 a14 a15 a16 a17 a18 : Int) (a19 : Bool) (a20 : List (AV × AV)) (a21 a22 a23 : List AV) {R : F54R} (H : f54 o fuel a0 a1 a2 a3 a4 a5 a6 a7 a8 a9 a10 a11 a12 a13 a14 a15 a16 a17 a18 a19 a20 a21 a22 a23 = some R) (K : AV → List Ent → Prop) (E : AV → List Ent → Prop) (h : K R.av (F54R.hp a6 a7 a8 a9 a10 a11 a12 a13 a14 a15 a16 a17 a18 a19 a21 a22 a23 R)) : CallA Try.prog 54 [.ptr 1 0, .ptr 2 0, .agg [.int .i64 a0, .str a1, .str a2, .int .i64 a3, .int .i64 a4, .sl 1 a5 .no]] [.fam 0 a6, .var [.int .i64 a7, .mp 3, .vs 4 3 a8 a9 a10, .bool a11], .var [.vs 5 2 a12 a13 a14, .vs 6 3 a15 a16 a17, .int .i64 a18, .bool a19], .mp a20, .vec 3 a21, .vec 2 a22, .vec 3 a23] K E := by
  refine call_wk fun K' hK => ?_
  refine call_keep (n₀ := 7) tab_ok Try.func54 rfl rfl rfl rfl ?_
  intro J hJ
  obtain rfl : o = J.o := by rw [ho, hJ]; rfl
  unfold f54 at H
  cbv
  repeat' (first
    | ((with_reducible first | refine awp_go2 ?_ | refine aops_go2 ?_ | refine strip_go2 ?_); cbv)
    | (with_reducible refine hold_go hJ ?_; cbv)
    | with_reducible exact id
    | exact trivial
    | with_reducible exact rfl
    | (cases H; replace H := HX0; clear HX0; (try dsimp only at H))
    | (refine KeepQ.mk [] (by decide) ?_; cbv; cases H; refine hK _ _ _ _ ?_ ?_ rfl h <;> cbv)
    | (refine hN0 _ _ _ H ?_; with_reducible refine wkEnv_go2 ?_; cbv)
    | (first | refine known_t (by assumption) ?_ | refine known_y (by assumption) ?_)
    | (first | refine known_t (kn_pick_t ho (ku_bnot_f ho (by assumption)) rfl) ?_ | refine known_y (kn_pick_t ho (ku_bnot_f ho (by assumption)) rfl) ?_)
    | (first | refine known_f (by assumption) ?_ | refine known_x (by assumption) ?_)
    | (first | refine known_f (kn_bnot_f ho (kn_pick_t ho (ku_bnot_f ho (by assumption)) rfl)) ?_ | refine known_x (kn_bnot_f ho (kn_pick_t ho (ku_bnot_f ho (by assumption)) rfl)) ?_)
    | (first | refine known_t (kn_pick_t ho (kn_pick_t ho (ku_bnot_f ho (by assumption)) rfl) rfl) ?_ | refine known_y (kn_pick_t ho (kn_pick_t ho (ku_bnot_f ho (by assumption)) rfl) rfl) ?_)
    | (first | refine known_f (kn_bnot_f ho (kn_pick_t ho (kn_pick_t ho (ku_bnot_f ho (by assumption)) rfl) rfl)) ?_ | refine known_x (kn_bnot_f ho (kn_pick_t ho (kn_pick_t ho (ku_bnot_f ho (by assumption)) rfl) rfl)) ?_)
    | (first | refine known_t (kn_pick_t ho (kn_pick_t ho (kn_pick_t ho (ku_bnot_f ho (by assumption)) rfl) rfl) rfl) ?_ | refine known_y (kn_pick_t ho (kn_pick_t ho (kn_pick_t ho (ku_bnot_f ho (by assumption)) rfl) rfl) rfl) ?_)
    | (refine ifB_go H ?_ ?_ <;> clear H <;> intro hh H)
    | (refine ifB_og H ?_ ?_ <;> clear H <;> intro hh H)
    | (refine req_go H ?_; clear H; intro hh H)
    | (refine sh9_get H ?_; clear H; intro _ he H; cbv)
    | (obtain ⟨R, hR, H2⟩ := bindR_go H; refine call_in hJ [0] (by decide) rfl rfl rfl (f40_call _ ho _ _ _ _ hR _ _ ?_); clear H hR; rcases R with ⟨_⟩; all_goals (replace H := H2; clear H2; (try dsimp only at H); cbv))
    | (obtain ⟨R, hR, H2⟩ := bindR_go H; refine call_in hJ [0, 2, 5, 6] (by decide) rfl rfl rfl (f122_call _ ho _ _ _ _ _ _ _ _ _ _ _ _ _ _ _ hR _ _ ?_); clear H hR; rcases R with ⟨_, _⟩; all_goals (replace H := H2; clear H2; (try dsimp only at H); cbv))
    | (obtain ⟨R, hR, H2⟩ := bindR_go H; refine call_in hJ [0, 1, 3, 4] (by decide) rfl rfl rfl (f39_call _ ho _ _ _ _ _ _ _ _ _ _ _ _ hR _ _ ?_); clear H hR; rcases R with ⟨_, _⟩; all_goals (replace H := H2; clear H2; (try dsimp only at H); cbv))
    | (obtain ⟨R, hR, H2⟩ := bindR_go H; refine call_in hJ [0, 2, 5, 6] (by decide) rfl rfl rfl (f123_call _ ho _ _ _ _ _ _ _ _ _ _ _ _ _ hR _ _ ?_); clear H hR; rcases R with ⟨_, _⟩; all_goals (replace H := H2; clear H2; (try dsimp only at H); cbv))
    | (obtain ⟨R, hR, H2⟩ := bindR_go H; refine call_in hJ [0, 1, 3, 4] (by decide) rfl rfl rfl (f41_call _ ho _ _ _ _ _ _ _ _ _ _ hR _ _ ?_); clear H hR; rcases R with ⟨_, _⟩; all_goals (replace H := H2; clear H2; (try dsimp only at H); cbv))
    | (obtain ⟨R, hR, H2⟩ := bindR_go H; refine call_in hJ [0, 2, 5, 6] (by decide) rfl rfl rfl (f121_call _ ho _ _ _ _ _ _ _ _ _ _ _ _ _ hR _ _ ?_); clear H hR; rcases R with ⟨_, _⟩; all_goals (replace H := H2; clear H2; (try dsimp only at H); cbv))
    | (obtain ⟨R, hR, H2⟩ := bindR_go H; refine call_in hJ [0, 1, 3, 4] (by decide) rfl rfl rfl (f38_call _ ho _ _ _ _ _ _ _ _ _ _ hR _ _ ?_); clear H hR; rcases R with ⟨_, _⟩; all_goals (replace H := H2; clear H2; (try dsimp only at H); cbv))
    | (obtain ⟨R, hR, H2⟩ := bindR_go H; refine call_in hJ [0, 2, 5, 6] (by decide) rfl rfl rfl (f119_call _ ho _ _ _ _ _ _ _ _ _ _ _ _ hR _ _ ?_); clear H hR; rcases R with ⟨_⟩; all_goals (replace H := H2; clear H2; (try dsimp only at H); cbv))
    | (obtain ⟨R, hR, H2⟩ := bindR_go H; refine call_in hJ [0, 1, 3, 4] (by decide) rfl rfl rfl (f67_call _ ho _ _ _ _ _ _ _ _ _ hR _ _ ?_); clear H hR; rcases R with ⟨_⟩; all_goals (replace H := H2; clear H2; (try dsimp only at H); cbv))
    | (obtain ⟨R, hR, H2⟩ := bindR_go H; refine call_in hJ [0, 2, 5, 6] (by decide) rfl rfl rfl (f120_call _ ho _ _ _ _ _ _ _ _ _ _ _ _ hR _ _ ?_); clear H hR; rcases R with ⟨_⟩; all_goals (replace H := H2; clear H2; (try dsimp only at H); cbv))
    | (obtain ⟨R, hR, H2⟩ := bindR_go H; refine call_in hJ [0, 1, 3, 4] (by decide) rfl rfl rfl (f52_call _ ho _ _ _ _ _ _ _ _ _ hR _ _ ?_); clear H hR; rcases R with ⟨_, _⟩; all_goals (replace H := H2; clear H2; (try dsimp only at H); cbv))
    | (obtain ⟨R, hR, H2⟩ := bindR_go H; refine call_in hJ [0, 1, 3, 4] (by decide) rfl rfl rfl (f35_call _ ho _ _ _ _ _ _ _ _ _ hR _ _ ?_); clear H hR; rcases R with ⟨_⟩; all_goals (replace H := H2; clear H2; (try dsimp only at H); cbv))
    | (obtain ⟨R, hR, H2⟩ := bindR_go H; refine call_in hJ [0] (by decide) rfl rfl rfl (f118_call _ ho _ _ _ _ hR _ _ ?_); clear H hR; rcases R with ⟨_⟩; all_goals (replace H := H2; clear H2; (try dsimp only at H); cbv))
    | (obtain ⟨R, hR, H2⟩ := bindR_go H; refine call_in hJ [0, 1, 3, 4] (by decide) rfl rfl rfl (f32_call _ ho _ _ _ _ _ _ _ _ _ hR _ _ ?_); clear H hR; rcases R with ⟨_, _⟩; all_goals (replace H := H2; clear H2; (try dsimp only at H); cbv))
    | (refine f54_l0_go hJ (o := J.o) rfl H (by decide) ⟨?_, ?_, rfl, rfl⟩ ?_
       · cbv; (repeat' (first | exact trivial | exact rfl | apply And.intro))
       · cbv; (repeat' (first | exact trivial | exact rfl | apply And.intro))
       clear H
       intro X0 HX0 n _ H Nx0 hN0
       rw [f54_l0] at H
       cbv)
    | with_reducible refine And.intro ?_ ?_
    | (intro _; assumption)
    | (intro hx; first | exact tf_absurd hx (by assumption) | exact tf_absurd (by assumption) hx)
    | (intro _; clear H h; (try clear hN0); (try clear HX0); simp only [ho, stdOps] at *; simp_all))
end Go.Proofs.Ytjdbmfipciadfaa.A
