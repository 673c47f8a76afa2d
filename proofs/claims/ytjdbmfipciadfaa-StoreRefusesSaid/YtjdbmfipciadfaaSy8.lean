/- Functions of the program and of the document's answer, as plain ones. Written by lift.py. -/import Derived.Test.YtjdbmfipciadfaaSy0
import Derived.Test.YtjdbmfipciadfaaSy7
import Derived.Test.YtjdbmfipciadfaaSy6
import Derived.Test.YtjdbmfipciadfaaSy5
import Derived.Test.YtjdbmfipciadfaaSy3
import Derived.Test.YtjdbmfipciadfaaSy1
namespace Go.Proofs.Ytjdbmfipciadfaa.A
open Go Go.Pt
set_option maxHeartbeats 4000000
set_option maxRecDepth 100000
inductive F30R where
  | v0 (y0 : Bool) (y1 : List AV)
def F30R.av : F30R → AV
  | .v0 y0 _ => .bool y0
def F30R.hp : F30R → List Ent
  | .v0 _ y1 => [.fam 0 y1]
inductive F30L0 where
  | x0 (y0 : List AV)
  | x1 (y0 : List AV)
  | x2 (y0 : List AV)
  | x3 (y0 : List AV)
  | x4 (y0 : List AV)
  | x5 (y0 : List AV)
  | x6 (y0 : List AV)
noncomputable def f30_l0 (o : Ops) (fuel : Nat)  : Nat → Int → List AV → Option F30L0
  | 0, _, _ => none
  | n + 1, w49, w50 =>
    ifB (o.cmp .lss w49 (o.len [.sl 1 [.int .u8 1, .int .u8 9, .int .u8 9] .no, .sl 1 [.int .u8 1, .int .u8 9, .int .u8 3] .no, .sl 1 [.int .u8 1, .int .u8 9, .int .u8 9, .int .u8 4] .no]))
    (req (o.inb w49 (o.len [.sl 1 [.int .u8 1, .int .u8 9, .int .u8 9] .no, .sl 1 [.int .u8 1, .int .u8 9, .int .u8 3] .no, .sl 1 [.int .u8 1, .int .u8 9, .int .u8 9, .int .u8 4] .no])) <|
     getA (o.get [.sl 1 [.int .u8 1, .int .u8 9, .int .u8 9] .no, .sl 1 [.int .u8 1, .int .u8 9, .int .u8 3] .no, .sl 1 [.int .u8 1, .int .u8 9, .int .u8 9, .int .u8 4] .no] w49) fun e => sh69 e fun v51 =>
     bindR (f48 o fuel 10 w50) fun r => match r with
     | .v0  => some (.x0 w50)
     | .v1 r52 r53 => ifB (o.pick (o.bnot (o.cmp .eql 0 0)) true false)
       (some (.x1 w50))
       (bindR (f63 o fuel ⟨#[97]⟩ w50 10 0 0 0 false r52 r53) fun r => match r with
        | .v0 r54 r55 r56 => ifB (o.bnot (o.cmp .eql r54 0))
          (some (.x1 r55))
          (bindR (f34 o fuel ⟨#[97]⟩ 0 [.int .u8 1, .int .u8 2, .int .u8 3] r55 10 0 0 0 false r56 r53) fun r => match r with
           | .v0 r57 r58 r59 r60 r61 r62 => ifB (o.bnot (o.cmp .eql r57 0))
             (some (.x2 r55))
             (bindR (f33 o fuel ⟨#[97]⟩ r55 10 r58 r59 r60 false r61 r62) fun r => match r with
              | .v0 r63 r64 r65 r66 r67 r68 => ifB (o.bnot (o.cmp .eql r63 0))
                (some (.x2 r64))
                (bindR (f34 o fuel ⟨#[97]⟩ 1 [.int .u8 9, .int .u8 9] r64 10 r65 r66 r67 false r61 r68) fun r => match r with
                 | .v0 r69 r70 r71 r72 r73 r74 => ifB (o.bnot (o.cmp .eql r69 0))
                   (some (.x3 r64))
                   (bindR (f34 o fuel ⟨#[97]⟩ 3 [.int .u8 4] r64 10 r70 r71 r72 false r73 r74) fun r => match r with
                    | .v0 r75 r76 r77 r78 r79 r80 => ifB (o.bnot (o.cmp .eql r75 0))
                      (some (.x4 r64))
                      (bindR (f35 o fuel r64 10 r76 r77 r78 false r79 r80) fun r => match r with
                       | .v0 r81 => ifB (o.bnot (o.cmp .eql r81 2))
                         (some (.x4 r64))
                         (req (o.inb w49 (o.len [.int .i64 1, .int .i64 0, .int .i64 2])) <|
                          getA (o.get [.int .i64 1, .int .i64 0, .int .i64 2] w49) fun e => sh3 e fun v82 =>
                          req (o.inb w49 (o.len [.int .i64 0, .int .i64 1, .int .i64 0])) <|
                          getA (o.get [.int .i64 0, .int .i64 1, .int .i64 0] w49) fun e => sh3 e fun v83 =>
                          bindR (f36 o fuel v82 v83 r64 10 r76 r77 r78 false r79 r80) fun r => match r with
                          | .v0 r84 r85 r86 r87 r88 r89 r90 => ifB (o.bnot (o.cmp .eql r84 0))
                            (some (.x5 r85))
                            (bindR (f67 o fuel r85 10 r86 r87 r88 r89 r79 r90) fun r => match r with
                             | .v0 r91 => ifB r91
                               (some (.x5 r85))
                               (bindR (f37 o fuel r85 10 r86 r87 r88 r89 r79 r90) fun r => match r with
                                | .v0 r92 r93 => ifB (o.bnot (o.cmp .eql r92 0))
                                  (some (.x5 r85))
                                  (bindR (f39 o fuel ⟨#[97]⟩ 0 (o.len v51) r85 10 r86 r87 r88 r93 r79 r90) fun r => match r with
                                   | .v0 r94 r95 => bindR (f38 o fuel ⟨#[97]⟩ r85 10 r86 r87 r88 r93 r79 r90) fun r => match r with
                                     | .v0 r96 _ => ifB (o.bnot (o.cmp .eql r95 0))
                                       (some (.x5 r85))
                                       (bindR (f40 o fuel r94 v51 r85) fun r => match r with
                                        | .v0 r98 => ifB (o.pick (o.bnot r98) true (o.bnot (o.cmp .eql r96 (o.len v51))))
                                          (some (.x5 r85))
                                          (f30_l0 o fuel  n (o.ar .add .i64 w49 1) r85)))))))))))))
    (some (.x6 w50))
theorem f30_l0_go {J : Jd} {n₀ : Nat} (hJ : J = std Try.prog n₀) {o : Ops} (hJo : J.o = o) {fuel : Nat}  {w49i : Int} {w50i : List AV} {α : Type} {k : F30L0 → Option α} {r : α} {c : Code} {Q : Ex → St → Prop} {s : St}
    (H : bindR (f30_l0 o fuel  fuel w49i w50i) k = some r) (hn : n₀ ≤ 1) (hle : Le s ⟨[(15, .int .i64 w49i), (14, .int .i64 (o.len [.sl 1 [.int .u8 1, .int .u8 9, .int .u8 9] .no, .sl 1 [.int .u8 1, .int .u8 9, .int .u8 3] .no, .sl 1 [.int .u8 1, .int .u8 9, .int .u8 9, .int .u8 4] .no])), (13, .sl 1 [.sl 1 [.int .u8 1, .int .u8 9, .int .u8 9] .no, .sl 1 [.int .u8 1, .int .u8 9, .int .u8 3] .no, .sl 1 [.int .u8 1, .int .u8 9, .int .u8 9, .int .u8 4] .no] .full)], [.fam 0 w50i], 112⟩)
    (round : ∀ X, k X = some r → ∀ (n : Nat) (w49 : Int) (w50 : List AV), f30_l0 o fuel  (n + 1) w49 w50 = some X → ∀ N : St → Prop,
      (∀ (env : List (Nat × AV)) (w49' : Int) (w50' : List AV) (v : List Ent), f30_l0 o fuel  n w49' w50' = some X → wkEnv env [(15, .int .i64 w49'), (14, .int .i64 (o.len [.sl 1 [.int .u8 1, .int .u8 9, .int .u8 9] .no, .sl 1 [.int .u8 1, .int .u8 9, .int .u8 3] .no, .sl 1 [.int .u8 1, .int .u8 9, .int .u8 9, .int .u8 4] .no])), (13, .sl 1 [.sl 1 [.int .u8 1, .int .u8 9, .int .u8 9] .no, .sl 1 [.int .u8 1, .int .u8 9, .int .u8 3] .no, .sl 1 [.int .u8 1, .int .u8 9, .int .u8 9, .int .u8 4] .no] .full)] → N ⟨env, [.fam 0 w50'] ++ v, 112⟩) → awp J tab c (thenQ N Q) ⟨[(15, .int .i64 w49), (14, .int .i64 (o.len [.sl 1 [.int .u8 1, .int .u8 9, .int .u8 9] .no, .sl 1 [.int .u8 1, .int .u8 9, .int .u8 3] .no, .sl 1 [.int .u8 1, .int .u8 9, .int .u8 9, .int .u8 4] .no])), (13, .sl 1 [.sl 1 [.int .u8 1, .int .u8 9, .int .u8 9] .no, .sl 1 [.int .u8 1, .int .u8 9, .int .u8 3] .no, .sl 1 [.int .u8 1, .int .u8 9, .int .u8 9, .int .u8 4] .no] .full)], [.fam 0 w50], 112⟩) : J.code (.loop c) Q s := by
  subst hJo
  obtain ⟨X, hX, HX⟩ := bindR_go H
  refine loop_at (β := Nat × Int × List AV) hJ tab_ok (fun | (_, w49, w50) => ⟨[(15, .int .i64 w49), (14, .int .i64 (J.o.len [.sl 1 [.int .u8 1, .int .u8 9, .int .u8 9] .no, .sl 1 [.int .u8 1, .int .u8 9, .int .u8 3] .no, .sl 1 [.int .u8 1, .int .u8 9, .int .u8 9, .int .u8 4] .no])), (13, .sl 1 [.sl 1 [.int .u8 1, .int .u8 9, .int .u8 9] .no, .sl 1 [.int .u8 1, .int .u8 9, .int .u8 3] .no, .sl 1 [.int .u8 1, .int .u8 9, .int .u8 9, .int .u8 4] .no] .full)], [.fam 0 w50], 112⟩) (fun | (n, w49, w50) => f30_l0 J.o fuel  n w49 w50 = some X) (fun | (n, _, _) => n) (fuel, w49i, w50i) hX hle (by rintro ⟨_, _, _⟩; exact hn) ?_
  rintro ⟨n, w49, w50⟩ hb N hN
  rcases n with _ | n
  · exact none_go (show (none : Option F30L0) = some X from hb)
  exact round X HX n w49 w50 hb N fun env w49' w50' v h1 h2 => hN _ (n, w49', w50') h1 (Nat.lt_succ_self n) ⟨h2, by first | (cbv; done) | (cbv; repeat' (first | exact trivial | exact rfl | apply And.intro)), rfl, rfl⟩
noncomputable def f30 (o : Ops) (fuel : Nat) (a0 : List AV) : Option F30R :=
  bindR (f30_l0 o fuel  fuel 0 a0) fun r => match r with
  | .x0 y99 => some (.v0 false y99)
  | .x1 y100 => some (.v0 false y100)
  | .x2 y101 => some (.v0 false y101)
  | .x3 y102 => some (.v0 false y102)
  | .x4 y103 => some (.v0 false y103)
  | .x5 y104 => some (.v0 false y104)
  | .x6 y105 => some (.v0 true y105)
theorem f30_call (o : Ops) (ho : o = stdOps) (fuel : Nat) (a0 : List AV) {R : F30R} (H : f30 o fuel a0 = some R) (K : AV → List Ent → Prop) (E : AV → List Ent → Prop) (h : K R.av R.hp) : CallA Try.prog 30 [] [.fam 0 a0] K E := by
  refine call_wk fun K' hK => ?_
  refine call_keep (n₀ := 1) tab_ok Try.func30 rfl rfl rfl rfl ?_
  intro J hJ
  obtain rfl : o = J.o := by rw [ho, hJ]; rfl
  unfold f30 at H
  cbv
  repeat' (first
    | ((with_reducible first | refine awp_go2 ?_ | refine aops_go2 ?_ | refine strip_go2 ?_); cbv)
    | with_reducible exact id
    | (cases H; replace H := HX0; clear HX0; (try dsimp only at H))
    | (refine KeepQ.mk [] (by decide) ?_; cbv; cases H; refine hK _ _ _ _ ?_ ?_ rfl h <;> cbv)
    | (refine hN0 _ _ _ _ H ?_; with_reducible refine wkEnv_go2 ?_; cbv)
    | (first | refine known_t (kn_pick_s ho rfl rfl) ?_ | refine known_y (kn_pick_s ho rfl rfl) ?_)
    | (refine ifB_go H ?_ ?_ <;> clear H <;> intro hh H)
    | (refine ifB_og H ?_ ?_ <;> clear H <;> intro hh H)
    | (refine req_go H ?_; clear H; intro hh H)
    | (refine sh3_get H ?_; clear H; intro _ he H; cbv)
    | (refine sh69_get H ?_; clear H; intro _ he H; cbv)
    | (obtain ⟨R, hR, H2⟩ := bindR_go H; refine call_in hJ [0] (by decide) rfl rfl rfl (f40_call _ ho _ _ _ _ hR _ _ ?_); clear H hR; rcases R with ⟨_⟩; all_goals (replace H := H2; clear H2; (try dsimp only at H); cbv))
    | (obtain ⟨R, hR, H2⟩ := bindR_go H; refine call_in hJ [0, 1, 2, 7] (by decide) rfl rfl rfl (f38_call _ ho _ _ _ _ _ _ _ _ _ _ hR _ _ ?_); clear H hR; rcases R with ⟨_, _⟩; all_goals (replace H := H2; clear H2; (try dsimp only at H); cbv))
    | (obtain ⟨R, hR, H2⟩ := bindR_go H; refine call_in hJ [0, 1, 2, 7] (by decide) rfl rfl rfl (f39_call _ ho _ _ _ _ _ _ _ _ _ _ _ _ hR _ _ ?_); clear H hR; rcases R with ⟨_, _⟩; all_goals (replace H := H2; clear H2; (try dsimp only at H); cbv))
    | (obtain ⟨R, hR, H2⟩ := bindR_go H; refine call_in hJ [0, 1, 2, 7] (by decide) rfl rfl rfl (f37_call _ ho _ _ _ _ _ _ _ _ _ hR _ _ ?_); clear H hR; rcases R with ⟨_, _⟩; all_goals (replace H := H2; clear H2; (try dsimp only at H); cbv))
    | (obtain ⟨R, hR, H2⟩ := bindR_go H; refine call_in hJ [0, 1, 2, 7] (by decide) rfl rfl rfl (f67_call _ ho _ _ _ _ _ _ _ _ _ hR _ _ ?_); clear H hR; rcases R with ⟨_⟩; all_goals (replace H := H2; clear H2; (try dsimp only at H); cbv))
    | (obtain ⟨R, hR, H2⟩ := bindR_go H; refine call_in hJ [0, 1, 2, 6] (by decide) rfl rfl rfl (f36_call _ ho _ _ _ _ _ _ _ _ _ _ _ hR _ _ ?_); clear H hR; rcases R with ⟨_, _, _, _, _, _, _⟩; all_goals (replace H := H2; clear H2; (try dsimp only at H); cbv))
    | (obtain ⟨R, hR, H2⟩ := bindR_go H; refine call_in hJ [0, 1, 2, 6] (by decide) rfl rfl rfl (f35_call _ ho _ _ _ _ _ _ _ _ _ hR _ _ ?_); clear H hR; rcases R with ⟨_⟩; all_goals (replace H := H2; clear H2; (try dsimp only at H); cbv))
    | (obtain ⟨R, hR, H2⟩ := bindR_go H; refine call_weakF hJ [.junk, .junk, .junk, .sl 1 [] .no] ?_; cbv; refine call_in hJ [0, 1, 2, 5] (by decide) rfl rfl rfl (f34_call _ ho _ _ _ _ _ _ _ _ _ _ _ _ hR _ _ ?_); clear H hR; rcases R with ⟨_, _, _, _, _, _⟩; all_goals (replace H := H2; clear H2; (try dsimp only at H); cbv))
    | (obtain ⟨R, hR, H2⟩ := bindR_go H; refine call_weakF hJ [.junk, .junk, .junk, .sl 1 [] .no] ?_; cbv; refine call_in hJ [0, 1, 2, 4] (by decide) rfl rfl rfl (f34_call _ ho _ _ _ _ _ _ _ _ _ _ _ _ hR _ _ ?_); clear H hR; rcases R with ⟨_, _, _, _, _, _⟩; all_goals (replace H := H2; clear H2; (try dsimp only at H); cbv))
    | (obtain ⟨R, hR, H2⟩ := bindR_go H; refine call_in hJ [0, 1, 2, 4] (by decide) rfl rfl rfl (f33_call _ ho _ _ _ _ _ _ _ _ _ _ hR _ _ ?_); clear H hR; rcases R with ⟨_, _, _, _, _, _⟩; all_goals (replace H := H2; clear H2; (try dsimp only at H); cbv))
    | (obtain ⟨R, hR, H2⟩ := bindR_go H; refine call_weakF hJ [.junk, .junk, .junk, .sl 1 [] .no] ?_; cbv; refine call_in hJ [0, 1, 2, 3] (by decide) rfl rfl rfl (f34_call _ ho _ _ _ _ _ _ _ _ _ _ _ _ hR _ _ ?_); clear H hR; rcases R with ⟨_, _, _, _, _, _⟩; all_goals (replace H := H2; clear H2; (try dsimp only at H); cbv))
    | (obtain ⟨R, hR, H2⟩ := bindR_go H; refine call_in hJ [0, 1, 2, 3] (by decide) rfl rfl rfl (f63_call _ ho _ _ _ _ _ _ _ _ _ _ hR _ _ ?_); clear H hR; rcases R with ⟨_, _, _⟩; all_goals (replace H := H2; clear H2; (try dsimp only at H); cbv))
    | (obtain ⟨R, hR, H2⟩ := bindR_go H; refine call_in hJ [0] (by decide) rfl rfl rfl (f48_call _ ho _ _ _ hR _ _ ?_); clear H hR; rcases R with ⟨⟩ | ⟨_, _⟩; all_goals (replace H := H2; clear H2; (try dsimp only at H); cbv))
    | (refine f30_l0_go hJ (o := J.o) rfl H (by decide) ⟨?_, ?_, rfl, rfl⟩ ?_
       · cbv; (repeat' (first | exact trivial | exact rfl | apply And.intro))
       · cbv; (repeat' (first | exact trivial | exact rfl | apply And.intro))
       clear H
       intro X0 HX0 n _ _ H Nx0 hN0
       rw [f30_l0] at H
       cbv)
    | with_reducible refine And.intro ?_ ?_
    | (intro _; clear H h; (try clear hN0); (try clear HX0); simp only [ho, stdOps] at *; simp_all))
end Go.Proofs.Ytjdbmfipciadfaa.A
