/- Functions of the program and of the document's answer, as plain ones. Written by lift.py. -/import Derived.Test.YtjdbmfipciadfaaSy0
import Derived.Test.YtjdbmfipciadfaaSy2
import Derived.Test.YtjdbmfipciadfaaStMan
import Derived.Test.YtjdbmfipciadfaaSy1
namespace Go.Proofs.Ytjdbmfipciadfaa.A
open Go Go.Pt
set_option maxHeartbeats 4000000
set_option maxRecDepth 100000
inductive F52R where
  | v0 (y0 : Int) (y1 : List (AV × AV))
def F52R.av : F52R → AV
  | .v0 y0 _ => .int .i64 y0
def F52R.hp (a0 : List AV) (a1 a2 a3 a4 : Int) (a5 : Bool) (a7 : List AV) : F52R → List Ent
  | .v0 _ y1 => [.fam 0 a0, .var [.int .i64 a1, .mp 2, .vs 3 3 a2 a3 a4, .bool a5], .mp y1, .vec 3 a7]
inductive F52L0 where
  | x0 (y0 : Int)
noncomputable def f52_l0 (o : Ops) (fuel : Nat) (r10 : List AV) (r11 : List (AV × AV)) (a0 : List AV) (a1 a2 a3 a4 : Int) (a5 : Bool) (a7 : List AV) : Nat → Int → Int → Option F52L0
  | 0, _, _ => none
  | n + 1, w15, w16 =>
    ifB (o.cmp .lss w15 (o.len r10))
    (req (o.inb w15 (o.len r10)) <|
     getA (o.get r10 w15) fun e => sh9 e fun v17 =>
     req (o.mok false [.str] r11) <|
     findA (o.mfind r11 (.str v17)) (fun e => sh142 e fun v18 =>
     bindR (f93_1 o fuel v18 a0 a1 a2 a3 a4 a5 r11 a7) fun r => match r with
      | .v0 r19 => f52_l0 o fuel r10 r11 a0 a1 a2 a3 a4 a5 a7 n (o.ar .add .i64 w15 1) (o.ar .sub .i64 w16 (o.len r19)))
     (none))
    (some (.x0 w16))
theorem f52_l0_go {J : Jd} {n₀ : Nat} (hJ : J = std Try.prog n₀) {o : Ops} (hJo : J.o = o) {pL1 : List Nat} {aL1 bL1 : Code} {fuel : Nat} {r10 : List AV} {r11 : List (AV × AV)} {a0 : List AV} {a1 a2 a3 a4 : Int} {a5 : Bool} {a7 : List AV} {w15i : Int} {w16i : Int} {α : Type} {k : F52L0 → Option α} {r : α} {c : Code} {Q : Ex → St → Prop} {s : St}
    (H : bindR (f52_l0 o fuel r10 r11 a0 a1 a2 a3 a4 a5 a7 fuel w15i w16i) k = some r) (hn : n₀ ≤ 10) (hle : Le s ⟨[(14, .int .i64 w15i), (13, .int .i64 (o.len r10)), (12, .sl 1 r10 .no), (0, .yld 7)], [.fam 0 a0, .var [.int .i64 a1, .mp 2, .vs 3 3 a2 a3 a4, .bool a5], .mp r11, .vec 3 a7, .var [.ptr 1 0], .var [.int .i64 w16i], .var [.ptr 1 0], .lp pL1 aL1 bL1 [(1, .ptr 4 0), (3, .ptr 5 0)] 26 .ready none, .dead, .dead], 23⟩)
    (round : ∀ X, k X = some r → ∀ (n : Nat) (w15 : Int) (w16 : Int), f52_l0 o fuel r10 r11 a0 a1 a2 a3 a4 a5 a7 (n + 1) w15 w16 = some X → ∀ N : St → Prop,
      (∀ (env : List (Nat × AV)) (w15' : Int) (w16' : Int) (v : List Ent), f52_l0 o fuel r10 r11 a0 a1 a2 a3 a4 a5 a7 n w15' w16' = some X → wkEnv env [(14, .int .i64 w15'), (13, .int .i64 (o.len r10)), (12, .sl 1 r10 .no), (0, .yld 7)] → N ⟨env, [.fam 0 a0, .var [.int .i64 a1, .mp 2, .vs 3 3 a2 a3 a4, .bool a5], .mp r11, .vec 3 a7, .var [.ptr 1 0], .var [.int .i64 w16'], .var [.ptr 1 0], .lp pL1 aL1 bL1 [(1, .ptr 4 0), (3, .ptr 5 0)] 26 .ready none, .dead, .dead] ++ v, 23⟩) → awp J tab c (thenQ N Q) ⟨[(14, .int .i64 w15), (13, .int .i64 (o.len r10)), (12, .sl 1 r10 .no), (0, .yld 7)], [.fam 0 a0, .var [.int .i64 a1, .mp 2, .vs 3 3 a2 a3 a4, .bool a5], .mp r11, .vec 3 a7, .var [.ptr 1 0], .var [.int .i64 w16], .var [.ptr 1 0], .lp pL1 aL1 bL1 [(1, .ptr 4 0), (3, .ptr 5 0)] 26 .ready none, .dead, .dead], 23⟩) : J.code (.loop c) Q s := by
  subst hJo
  obtain ⟨X, hX, HX⟩ := bindR_go H
  refine loop_at (β := Nat × Int × Int) hJ tab_ok (fun | (_, w15, w16) => ⟨[(14, .int .i64 w15), (13, .int .i64 (J.o.len r10)), (12, .sl 1 r10 .no), (0, .yld 7)], [.fam 0 a0, .var [.int .i64 a1, .mp 2, .vs 3 3 a2 a3 a4, .bool a5], .mp r11, .vec 3 a7, .var [.ptr 1 0], .var [.int .i64 w16], .var [.ptr 1 0], .lp pL1 aL1 bL1 [(1, .ptr 4 0), (3, .ptr 5 0)] 26 .ready none, .dead, .dead], 23⟩) (fun | (n, w15, w16) => f52_l0 J.o fuel r10 r11 a0 a1 a2 a3 a4 a5 a7 n w15 w16 = some X) (fun | (n, _, _) => n) (fuel, w15i, w16i) hX hle (by rintro ⟨_, _, _⟩; exact hn) ?_
  rintro ⟨n, w15, w16⟩ hb N hN
  rcases n with _ | n
  · exact none_go (show (none : Option F52L0) = some X from hb)
  exact round X HX n w15 w16 hb N fun env w15' w16' v h1 h2 => hN _ (n, w15', w16') h1 (Nat.lt_succ_self n) ⟨h2, by first | (cbv; done) | (cbv; repeat' (first | exact trivial | exact rfl | apply And.intro)), rfl, rfl⟩
noncomputable def f52 (o : Ops) (fuel : Nat) (a0 : List AV) (a1 a2 a3 a4 : Int) (a5 : Bool) (a6 : List (AV × AV)) (a7 : List AV) : Option F52R :=
  bindR (f96 o fuel a0 a1 a2 a3 a4 a5 a6 a7) fun r => match r with
  | .v0 r8 => ifB r8
    (some (.v0 0 a6))
    (bindR (f91 o fuel a0 a1 a2 a3 a4 a5 a6 a7) fun r => match r with
     | .v0  => bindR (f96 o fuel a0 a1 a2 a3 a4 a5 a6 a7) fun r => match r with
       | .v0 r9 => ifB r9
         (some (.v0 a1 a6))
         (bindR (f136 o fuel a0 a6) fun r => match r with
          | .v0  => bindR (f135 o fuel a6) fun r => match r with
            | .v0 r10 r11 => bindR (f52_l0 o fuel r10 r11 a0 a1 a2 a3 a4 a5 a7 fuel 0 a1) fun r => match r with
              | .x0 y20 => some (.v0 y20 r11)))
theorem f52_call (o : Ops) (ho : o = stdOps) (fuel : Nat) (a0 : List AV) (a1 a2 a3 a4 : Int) (a5 : Bool) (a6 : List (AV × AV)) (a7 : List AV) {R : F52R} (H : f52 o fuel a0 a1 a2 a3 a4 a5 a6 a7 = some R) (K : AV → List Ent → Prop) (E : AV → List Ent → Prop) (h : K R.av (F52R.hp a0 a1 a2 a3 a4 a5 a7 R)) : CallA Try.prog 52 [.ptr 1 0] [.fam 0 a0, .var [.int .i64 a1, .mp 2, .vs 3 3 a2 a3 a4, .bool a5], .mp a6, .vec 3 a7] K E := by
  refine call_wk fun K' hK => ?_
  refine call_keep (n₀ := 4) tab_ok Try.func52 rfl rfl rfl rfl ?_
  intro J hJ
  obtain rfl : o = J.o := by rw [ho, hJ]; rfl
  unfold f52 at H
  cbv
  repeat' (first
    | ((with_reducible refine awp_go2 ?_); cbv)
    | exact none_go H
    | (cases H; replace H := HX0; clear HX0; (try dsimp only at H))
    | (refine KeepQ.mk [] (by decide) ?_; cbv; cases H; refine hK _ _ _ _ ?_ ?_ rfl h <;> cbv)
    | (refine hN0 _ _ _ _ H ?_; with_reducible refine wkEnv_go2 ?_; cbv)
    | (refine ifB_go H ?_ ?_ <;> clear H <;> intro hh H)
    | (refine req_go H ?_; clear H; intro hh H)
    | (refine sh9_get H ?_; clear H; intro _ he H; cbv)
    | (refine sh142_find H ?_ ?_ <;> clear H; (intro _ H; cbv); rotate_left; (intro H; cbv))
    | (refine range_in hJ tab_ok 7 [(1, .ptr 4 0), (3, .ptr 5 0)] Try.func134 rfl rfl rfl rfl rfl ?_ ?_
       · cbv; (repeat' (first | exact trivial | exact rfl | apply And.intro))
       intro pL1 aL1 bL1 cL1 cd1 pu1 yl1 ho1 mt1 hp1 ha1 hb1 hJ1
       try dsimp only at hJ1
       cbv)
    | (refine yield_in hJ1 tab_ok 10 hp1 ha1 hb1 rfl rfl rfl rfl ?_; intro cL2 cd2 pu2 yl2 ho2 mt2 hJ2; (try dsimp only at hJ2); cbv)
    | (refine InlQ.mk [] (by decide) ?_; cbv)
    | (obtain ⟨R, hR, H2⟩ := bindR_go H; refine call_in hJ2 [0, 1, 2, 3] (by decide) rfl rfl rfl (f93_1_call _ ho _ _ _ _ _ _ _ _ _ _ hR _ _ ?_); clear H hR; rcases R with ⟨_⟩; all_goals (replace H := H2; clear H2; (try dsimp only at H); cbv))
    | (obtain ⟨R, hR, H2⟩ := bindR_go H; refine call_in hJ1 [8, 2] (by decide) rfl rfl rfl (f135_call _ ho _ _ hR _ _ ?_); clear H hR; rcases R with ⟨_, _⟩; all_goals (replace H := H2; clear H2; (try dsimp only at H); cbv))
    | (obtain ⟨R, hR, H2⟩ := bindR_go H; refine call_in hJ1 [0, 2] (by decide) rfl rfl rfl (f136_call _ ho _ _ _ hR _ _ ?_); clear H hR; rcases R with ⟨⟩; all_goals (replace H := H2; clear H2; (try dsimp only at H); cbv))
    | (obtain ⟨R, hR, H2⟩ := bindR_go H; refine call_in hJ1 [0, 1, 2, 3] (by decide) rfl rfl rfl (f96_call _ ho _ _ _ _ _ _ _ _ _ hR _ _ ?_); clear H hR; rcases R with ⟨_⟩; all_goals (replace H := H2; clear H2; (try dsimp only at H); cbv))
    | (obtain ⟨R, hR, H2⟩ := bindR_go H; refine call_in hJ [0, 1, 2, 3] (by decide) rfl rfl rfl (f91_call _ ho _ _ _ _ _ _ _ _ _ hR _ _ ?_); clear H hR; rcases R with ⟨⟩; all_goals (replace H := H2; clear H2; (try dsimp only at H); cbv))
    | (obtain ⟨R, hR, H2⟩ := bindR_go H; refine call_in hJ [0, 1, 2, 3] (by decide) rfl rfl rfl (f96_call _ ho _ _ _ _ _ _ _ _ _ hR _ _ ?_); clear H hR; rcases R with ⟨_⟩; all_goals (replace H := H2; clear H2; (try dsimp only at H); cbv))
    | (refine f52_l0_go hJ1 (o := J.o) rfl (pL1 := pL1) (aL1 := aL1) (bL1 := bL1) H (by decide) ⟨?_, ?_, rfl, rfl⟩ ?_
       · cbv; (repeat' (first | exact trivial | exact rfl | apply And.intro))
       · cbv; (repeat' (first | exact trivial | exact rfl | apply And.intro))
       clear H
       intro X0 HX0 n _ _ H Nx0 hN0
       rw [f52_l0] at H
       cbv))
inductive F34R where
  | v0 (y0 y1 y2 y3 : Int) (y4 : List (AV × AV)) (y5 : List AV)
def F34R.av : F34R → AV
  | .v0 y0 _ _ _ _ _ => .int .i64 y0
def F34R.hp (a3 : List AV) (a4 : Int) (a8 : Bool) : F34R → List Ent
  | .v0 _ y1 y2 y3 y4 y5 => [.fam 0 a3, .var [.int .i64 a4, .mp 2, .vs 4 3 y1 y2 y3, .bool a8], .mp y4, .dead, .vec 3 y5]
noncomputable def f34 (o : Ops) (fuel : Nat) (a0 : ByteArray) (a1 : Int) (a2 a3 : List AV) (a4 a5 a6 a7 : Int) (a8 : Bool) (a9 : List (AV × AV)) (a10 : List AV) : Option F34R :=
  bindR (f92 o fuel a0 a3 a4 a5 a6 a7 a8 a9 a10) fun r => match r with
  | .v0 r11 => ifB (o.bnot (o.cmp .eql r11 0))
    (some (.v0 r11 a5 a6 a7 a9 a10))
    (none)
  | .v1 r12 => ifB (o.bnot (o.cmp .eql 0 0))
    (some (.v0 0 a5 a6 a7 a9 a10))
    (bindR (f93_1 o fuel r12 a3 a4 a5 a6 a7 a8 a9 a10) fun r => match r with
     | .v0 r13 => ifB (o.pick (o.cmp .lss a1 0) true (o.cmp .gtr a1 (o.len r13)))
       (some (.v0 33 a5 a6 a7 a9 a10))
       (bindR (f52 o fuel a3 a4 a5 a6 a7 a8 a9 a10) fun r => match r with
        | .v0 r14 r15 => ifB (o.cmp .gtr (o.ar .sub .i64 (o.len a2) (o.ar .sub .i64 (o.len r13) a1)) r14)
          (some (.v0 30 a5 a6 a7 r15 a10))
          (ifB (o.cmp .gtr (o.len a2) 0)
           (bindR (f95 o fuel a2 a3) fun r => match r with
            | .v0 r16 => req (o.is a5 0) <|
              req (o.le 0 a6) <|
              req (o.le a6 (o.len a10)) <|
              req (o.room (o.sub a10 0 a6) [.agg [.fp 0 r12 0, .int .i64 a1, .sl 1 r16 .no]] 40) <|
              some (.v0 0 0 (o.len (o.apnd (o.sub a10 0 a6) [.agg [.fp 0 r12 0, .int .i64 a1, .sl 1 r16 .no]])) (o.len (o.apnd (o.sub a10 0 a6) [.agg [.fp 0 r12 0, .int .i64 a1, .sl 1 r16 .no]])) r15 (o.apnd (o.sub a10 0 a6) [.agg [.fp 0 r12 0, .int .i64 a1, .sl 1 r16 .no]])))
           (some (.v0 0 a5 a6 a7 r15 a10)))))
theorem f34_call (o : Ops) (ho : o = stdOps) (fuel : Nat) (a0 : ByteArray) (a1 : Int) (a2 a3 : List AV) (a4 a5 a6 a7 : Int) (a8 : Bool) (a9 : List (AV × AV)) (a10 : List AV) {R : F34R} (H : f34 o fuel a0 a1 a2 a3 a4 a5 a6 a7 a8 a9 a10 = some R) (K : AV → List Ent → Prop) (E : AV → List Ent → Prop) (h : K R.av (F34R.hp a3 a4 a8 R)) : CallA Try.prog 34 [.ptr 1 0, .str a0, .int .i64 a1, .sl 1 a2 .no] [.fam 0 a3, .var [.int .i64 a4, .mp 2, .vs 3 3 a5 a6 a7, .bool a8], .mp a9, .vec 3 a10] K E := by
  refine call_wk fun K' hK => ?_
  refine call_keep (n₀ := 4) tab_ok Try.func34 rfl rfl rfl rfl ?_
  intro J hJ
  obtain rfl : o = J.o := by rw [ho, hJ]; rfl
  unfold f34 at H
  cbv
  repeat' (first
    | ((with_reducible refine awp_go2 ?_); cbv)
    | with_reducible exact id
    | exact none_go H
    | (refine KeepQ.tn _ (by first | exact .inl rfl | exact .inr rfl) (Turn.at 4 (turn_mv 1 2 3 3 rfl rfl rfl rfl (leN_t rfl)) rfl) [4] (by decide) ?_; cbv; cases H; refine hK _ _ _ _ ?_ ?_ rfl h <;> cbv)
    | (refine KeepQ.mk [4] (by decide) ?_; cbv; cases H; refine hK _ _ _ _ ?_ ?_ rfl h <;> cbv)
    | (refine ifB_go H ?_ ?_ <;> clear H <;> intro hh H)
    | (refine req_go H ?_; clear H; intro hh H)
    | (obtain ⟨R, hR, H2⟩ := bindR_go H; refine call_in hJ [0] (by decide) rfl rfl rfl (f95_call _ ho _ _ _ hR _ _ ?_); clear H hR; rcases R with ⟨_⟩; all_goals (replace H := H2; clear H2; (try dsimp only at H); cbv))
    | (obtain ⟨R, hR, H2⟩ := bindR_go H; refine call_in hJ [0, 1, 2, 3] (by decide) rfl rfl rfl (f52_call _ ho _ _ _ _ _ _ _ _ _ hR _ _ ?_); clear H hR; rcases R with ⟨_, _⟩; all_goals (replace H := H2; clear H2; (try dsimp only at H); cbv))
    | (obtain ⟨R, hR, H2⟩ := bindR_go H; refine call_in hJ [0, 1, 2, 3] (by decide) rfl rfl rfl (f93_1_call _ ho _ _ _ _ _ _ _ _ _ _ hR _ _ ?_); clear H hR; rcases R with ⟨_⟩; all_goals (replace H := H2; clear H2; (try dsimp only at H); cbv))
    | (obtain ⟨R, hR, H2⟩ := bindR_go H; refine call_in hJ [0, 1, 2, 3] (by decide) rfl rfl rfl (f92_call _ ho _ _ _ _ _ _ _ _ _ _ hR _ _ ?_); clear H hR; rcases R with ⟨_⟩ | ⟨_⟩; all_goals (replace H := H2; clear H2; (try dsimp only at H); cbv))
    | with_reducible refine And.intro ?_ ?_)
end Go.Proofs.Ytjdbmfipciadfaa.A
