/- Functions of the program and of the document's answer, as plain ones. Written by lift.py. -/import Derived.Test.YtjdbmfipciadfaaSy0
import Derived.Test.YtjdbmfipciadfaaStMan
import Derived.Test.YtjdbmfipciadfaaSy2
import Derived.Test.YtjdbmfipciadfaaSy1
namespace Go.Proofs.Ytjdbmfipciadfaa.A
open Go Go.Pt
set_option maxHeartbeats 4000000
set_option maxRecDepth 100000
inductive F32R where
  | v0 (y0 : List AV) (y1 : List (AV × AV))
def F32R.av : F32R → AV
  | .v0 y0 _ => .sl 1 y0 .no
def F32R.hp (a0 : List AV) (a1 a2 a3 a4 : Int) (a5 : Bool) (a7 : List AV) : F32R → List Ent
  | .v0 _ y1 => [.fam 0 a0, .var [.int .i64 a1, .mp 2, .vs 3 3 a2 a3 a4, .bool a5], .mp y1, .vec 3 a7]
inductive F32L0 where
  | x0 (y0 : List AV) (y1 : Nat)
noncomputable def f32_l0 (o : Ops) (fuel : Nat) (r9 a0 : List AV) (a1 a2 a3 a4 : Int) (a5 : Bool) (r10 : List (AV × AV)) (a7 : List AV) : Nat → Nat → Int → List AV → Option F32L0
  | 0, _, _, _ => none
  | n + 1, w13, w14, w15 =>
    ifB (o.cmp .lss w14 (o.len r9))
    (req (o.inb w14 (o.len r9)) <|
     getA (o.get r9 w14) fun e => sh9 e fun v16 =>
     req (o.room w15 [.str v16] 16) <|
     f32_l0 o fuel r9 a0 a1 a2 a3 a4 a5 r10 a7 n (o.padd w13 [.str v16]) (o.ar .add .i64 w14 1) (o.apnd w15 [.str v16]))
    (some (.x0 w15 w13))
theorem f32_l0_go {J : Jd} {n₀ : Nat} (hJ : J = std Try.prog n₀) {o : Ops} (hJo : J.o = o) {pL1 : List Nat} {aL1 bL1 : Code} {fuel : Nat} {r9 a0 : List AV} {a1 a2 a3 a4 : Int} {a5 : Bool} {r10 : List (AV × AV)} {a7 : List AV} {w13i : Nat} {w14i : Int} {w15i : List AV} {α : Type} {k : F32L0 → Option α} {r : α} {c : Code} {Q : Ex → St → Prop} {s : St}
    (H : bindR (f32_l0 o fuel r9 a0 a1 a2 a3 a4 a5 r10 a7 fuel w13i w14i w15i) k = some r) (hn : n₀ ≤ 10) (hle : Turn n₀ s ⟨[(14, .int .i64 w14i), (13, .int .i64 (o.len r9)), (12, .sl 1 r9 .no), (0, .yld 6)], [.fam 0 a0, .var [.int .i64 a1, .mp 2, .vs 3 3 a2 a3 a4, .bool a5], .mp r10, .vec 3 a7, .var [.sl 1 w15i (.tip 9 w13i)], .var [.ptr 1 0], .lp pL1 aL1 bL1 [(3, .ptr 4 0)] 13 .ready none, .dead, .dead, .tip w13i], 23⟩)
    (round : ∀ X, k X = some r → ∀ (n : Nat) (w13 : Nat) (w14 : Int) (w15 : List AV), f32_l0 o fuel r9 a0 a1 a2 a3 a4 a5 r10 a7 (n + 1) w13 w14 w15 = some X → ∀ N : St → Prop,
      (∀ (env : List (Nat × AV)) (w13' : Nat) (w14' : Int) (w15' : List AV) (v : List Ent), f32_l0 o fuel r9 a0 a1 a2 a3 a4 a5 r10 a7 n w13' w14' w15' = some X → wkEnv env [(14, .int .i64 w14'), (13, .int .i64 (o.len r9)), (12, .sl 1 r9 .no), (0, .yld 6)] → N ⟨env, [.fam 0 a0, .var [.int .i64 a1, .mp 2, .vs 3 3 a2 a3 a4, .bool a5], .mp r10, .vec 3 a7, .var [.sl 1 w15' (.tip 9 w13')], .var [.ptr 1 0], .lp pL1 aL1 bL1 [(3, .ptr 4 0)] 13 .ready none, .dead, .dead, .tip w13'] ++ v, 23⟩) → awp J tab c (thenQ N Q) ⟨[(14, .int .i64 w14), (13, .int .i64 (o.len r9)), (12, .sl 1 r9 .no), (0, .yld 6)], [.fam 0 a0, .var [.int .i64 a1, .mp 2, .vs 3 3 a2 a3 a4, .bool a5], .mp r10, .vec 3 a7, .var [.sl 1 w15 (.tip 9 w13)], .var [.ptr 1 0], .lp pL1 aL1 bL1 [(3, .ptr 4 0)] 13 .ready none, .dead, .dead, .tip w13], 23⟩) : J.code (.loop c) Q s := by
  subst hJo
  obtain ⟨X, hX, HX⟩ := bindR_go H
  refine loop_turn_at (β := Nat × Nat × Int × List AV) hJ tab_ok (fun | (_, w13, w14, w15) => ⟨[(14, .int .i64 w14), (13, .int .i64 (J.o.len r9)), (12, .sl 1 r9 .no), (0, .yld 6)], [.fam 0 a0, .var [.int .i64 a1, .mp 2, .vs 3 3 a2 a3 a4, .bool a5], .mp r10, .vec 3 a7, .var [.sl 1 w15 (.tip 9 w13)], .var [.ptr 1 0], .lp pL1 aL1 bL1 [(3, .ptr 4 0)] 13 .ready none, .dead, .dead, .tip w13], 23⟩) (fun | (n, w13, w14, w15) => f32_l0 J.o fuel r9 a0 a1 a2 a3 a4 a5 r10 a7 n w13 w14 w15 = some X) (fun | (n, _, _, _) => n) (fuel, w13i, w14i, w15i) hX hle (by rintro ⟨_, _, _, _⟩; exact hn) ?_
  rintro ⟨n, w13, w14, w15⟩ hb N hN
  rcases n with _ | n
  · exact none_go (show (none : Option F32L0) = some X from hb)
  exact round X HX n w13 w14 w15 hb N fun env w13' w14' w15' v h1 h2 => hN _ (n, w13', w14', w15') h1 (Nat.lt_succ_self n) (Turn.le ⟨h2, by cbv; repeat' (first | exact trivial | exact rfl | apply And.intro), rfl, rfl⟩ (by simp; omega))
noncomputable def f32 (o : Ops) (fuel : Nat) (a0 : List AV) (a1 a2 a3 a4 : Int) (a5 : Bool) (a6 : List (AV × AV)) (a7 : List AV) : Option F32R :=
  bindR (f91 o fuel a0 a1 a2 a3 a4 a5 a6 a7) fun r => match r with
  | .v0  => bindR (f96 o fuel a0 a1 a2 a3 a4 a5 a6 a7) fun r => match r with
    | .v0 r8 => ifB r8
      (some (.v0 [] a6))
      (bindR (f136 o fuel a0 a6) fun r => match r with
       | .v0  => bindR (f135 o fuel a6) fun r => match r with
         | .v0 r9 r10 => bindR (f32_l0 o fuel r9 a0 a1 a2 a3 a4 a5 r10 a7 fuel 0 0 []) fun r => match r with
           | .x0 y17 _ => some (.v0 y17 r10))
theorem f32_call (o : Ops) (ho : o = stdOps) (fuel : Nat) (a0 : List AV) (a1 a2 a3 a4 : Int) (a5 : Bool) (a6 : List (AV × AV)) (a7 : List AV) {R : F32R} (H : f32 o fuel a0 a1 a2 a3 a4 a5 a6 a7 = some R) (K : AV → List Ent → Prop) (E : AV → List Ent → Prop) (h : K R.av (F32R.hp a0 a1 a2 a3 a4 a5 a7 R)) : CallA Try.prog 32 [.ptr 1 0] [.fam 0 a0, .var [.int .i64 a1, .mp 2, .vs 3 3 a2 a3 a4, .bool a5], .mp a6, .vec 3 a7] K E := by
  refine call_wk fun K' hK => ?_
  refine call_keep (n₀ := 4) tab_ok Try.func32 rfl rfl rfl rfl ?_
  intro J hJ
  obtain rfl : o = J.o := by rw [ho, hJ]; rfl
  unfold f32 at H
  cbv
  repeat' (first
    | ((with_reducible refine awp_go2 ?_); cbv)
    | (cases H; replace H := HX0; clear HX0; (try dsimp only at H))
    | (refine KeepQ.mk [] (by decide) ?_; cbv; cases H; refine hK _ _ _ _ ?_ ?_ rfl h <;> cbv)
    | (refine hN0 _ _ _ _ _ H ?_; with_reducible refine wkEnv_go2 ?_; cbv)
    | (refine ifB_go H ?_ ?_ <;> clear H <;> intro hh H)
    | (refine req_go H ?_; clear H; intro hh H)
    | (refine sh9_get H ?_; clear H; intro _ he H; cbv)
    | (refine range_in hJ tab_ok 6 [(3, .ptr 4 0)] Try.func134 rfl rfl rfl rfl rfl ?_ ?_
       · cbv; (repeat' (first | exact trivial | exact rfl | apply And.intro))
       intro pL1 aL1 bL1 cL1 cd1 pu1 yl1 ho1 mt1 hp1 ha1 hb1 hJ1
       try dsimp only at hJ1
       cbv)
    | (refine yield_in hJ1 tab_ok 10 hp1 ha1 hb1 rfl rfl rfl rfl ?_; intro cL3 cd3 pu3 yl3 ho3 mt3 hJ3; (try dsimp only at hJ3); cbv)
    | (refine InlQ.mk [] (by decide) ?_; cbv)
    | (obtain ⟨R, hR, H2⟩ := bindR_go H; refine call_in hJ1 [7, 2] (by decide) rfl rfl rfl (f135_call _ ho _ _ hR _ _ ?_); clear H hR; rcases R with ⟨_, _⟩; all_goals (replace H := H2; clear H2; (try dsimp only at H); cbv))
    | (obtain ⟨R, hR, H2⟩ := bindR_go H; refine call_in hJ1 [0, 2] (by decide) rfl rfl rfl (f136_call _ ho _ _ _ hR _ _ ?_); clear H hR; rcases R with ⟨⟩; all_goals (replace H := H2; clear H2; (try dsimp only at H); cbv))
    | (obtain ⟨R, hR, H2⟩ := bindR_go H; refine call_in hJ1 [0, 1, 2, 3] (by decide) rfl rfl rfl (f96_call _ ho _ _ _ _ _ _ _ _ _ hR _ _ ?_); clear H hR; rcases R with ⟨_⟩; all_goals (replace H := H2; clear H2; (try dsimp only at H); cbv))
    | (obtain ⟨R, hR, H2⟩ := bindR_go H; refine call_in hJ [0, 1, 2, 3] (by decide) rfl rfl rfl (f91_call _ ho _ _ _ _ _ _ _ _ _ hR _ _ ?_); clear H hR; rcases R with ⟨⟩; all_goals (replace H := H2; clear H2; (try dsimp only at H); cbv))
    | (refine f32_l0_go hJ1 (o := J.o) rfl (pL1 := pL1) (aL1 := aL1) (bL1 := bL1) H (by decide) (Turn.trans (turn_tip 4 0 1 rfl rfl (leN_t rfl)) (Turn.le ⟨?_, ?_, rfl, rfl⟩ (leN_t rfl))) ?_
       · cbv; (repeat' (first | exact trivial | exact rfl | apply And.intro))
       · cbv; (repeat' (first | exact trivial | exact rfl | apply And.intro))
       clear H
       intro X0 HX0 n _ _ _ H Nx0 hN0
       rw [f32_l0] at H
       cbv))
end Go.Proofs.Ytjdbmfipciadfaa.A
