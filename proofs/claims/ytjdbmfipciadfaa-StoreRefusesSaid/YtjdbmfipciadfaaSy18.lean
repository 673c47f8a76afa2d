/- Functions of the program and of the document's answer, as plain ones. Written by lift.py. -/import Derived.Test.YtjdbmfipciadfaaSy0
import Derived.Test.YtjdbmfipciadfaaSy17
import Derived.Test.YtjdbmfipciadfaaSy4
import Derived.Test.YtjdbmfipciadfaaSy1
import Derived.Test.YtjdbmfipciadfaaSy11
import Derived.Test.YtjdbmfipciadfaaSy9
namespace Go.Proofs.Ytjdbmfipciadfaa.A
open Go Go.Pt
set_option maxHeartbeats 4000000
set_option maxRecDepth 100000
inductive F66R where
  | v0 (y0 y1 y2 y3 : Int) (y4 : List (AV × AV)) (y5 : List AV)
def F66R.av : F66R → AV
  | .v0 y0 _ _ _ _ _ => .int .i64 y0
def F66R.hp (a1 : List AV) (a2 : Int) (a6 : Bool) : F66R → List Ent
  | .v0 _ y1 y2 y3 y4 y5 => [.fam 0 a1, .var [.int .i64 a2, .mp 2, .vs 3 3 y1 y2 y3, .bool a6], .mp y4, .vec 3 y5]
noncomputable def f66 (o : Ops) (fuel : Nat) (a0 : ByteArray) (a1 : List AV) (a2 a3 a4 a5 : Int) (a6 : Bool) (a7 : List (AV × AV)) (a8 : List AV) : Option F66R :=
  bindR (f92 o fuel a0 a1 a2 a3 a4 a5 a6 a7 a8) fun r => match r with
  | .v0 r9 => ifB (o.bnot (o.cmp .eql r9 0))
    (some (.v0 r9 a3 a4 a5 a7 a8))
    (bindR (f94_1 o fuel a1 a2 a3 a4 a5 a6 a7 a8) fun r => match r with
     | .v0 r10 r11 r12 r13 => req (o.mok false [.str] a7) <|
       some (.v0 0 r10 r11 r12 (o.mdel a7 (.str a0)) r13))
  | .v1 r14 => ifB (o.bnot (o.cmp .eql 0 0))
    (some (.v0 0 a3 a4 a5 a7 a8))
    (bindR (f94 o fuel r14 a1 a2 a3 a4 a5 a6 a7 a8) fun r => match r with
     | .v0 r15 r16 r17 r18 => req (o.mok false [.str] a7) <|
       some (.v0 0 r15 r16 r17 (o.mdel a7 (.str a0)) r18))
theorem f66_call (o : Ops) (ho : o = stdOps) (fuel : Nat) (a0 : ByteArray) (a1 : List AV) (a2 a3 a4 a5 : Int) (a6 : Bool) (a7 : List (AV × AV)) (a8 : List AV) {R : F66R} (H : f66 o fuel a0 a1 a2 a3 a4 a5 a6 a7 a8 = some R) (K : AV → List Ent → Prop) (E : AV → List Ent → Prop) (h : K R.av (F66R.hp a1 a2 a6 R)) : CallA Try.prog 66 [.ptr 1 0, .str a0] [.fam 0 a1, .var [.int .i64 a2, .mp 2, .vs 3 3 a3 a4 a5, .bool a6], .mp a7, .vec 3 a8] K E := by
  refine call_wk fun K' hK => ?_
  refine call_keep (n₀ := 4) tab_ok Try.func66 rfl rfl rfl rfl ?_
  intro J hJ
  obtain rfl : o = J.o := by rw [ho, hJ]; rfl
  unfold f66 at H
  cbv
  repeat' (first
    | ((with_reducible refine awp_go2 ?_); cbv)
    | (refine KeepQ.mk [] (by decide) ?_; cbv; cases H; refine hK _ _ _ _ ?_ ?_ rfl h <;> cbv)
    | (refine ifB_go H ?_ ?_ <;> clear H <;> intro hh H)
    | (refine req_go H ?_; clear H; intro hh H)
    | (obtain ⟨R, hR, H2⟩ := bindR_go H; refine call_in hJ [0, 1, 2, 3] (by decide) rfl rfl rfl (f94_1_call _ ho _ _ _ _ _ _ _ _ _ hR _ _ ?_); clear H hR; rcases R with ⟨_, _, _, _⟩; all_goals (replace H := H2; clear H2; (try dsimp only at H); cbv))
    | (obtain ⟨R, hR, H2⟩ := bindR_go H; refine call_in hJ [0, 1, 2, 3] (by decide) rfl rfl rfl (f94_call _ ho _ _ _ _ _ _ _ _ _ _ hR _ _ ?_); clear H hR; rcases R with ⟨_, _, _, _⟩; all_goals (replace H := H2; clear H2; (try dsimp only at H); cbv))
    | (obtain ⟨R, hR, H2⟩ := bindR_go H; refine call_in hJ [0, 1, 2, 3] (by decide) rfl rfl rfl (f92_call _ ho _ _ _ _ _ _ _ _ _ _ hR _ _ ?_); clear H hR; rcases R with ⟨_⟩ | ⟨_⟩; all_goals (replace H := H2; clear H2; (try dsimp only at H); cbv)))
inductive F116R where
  | v0 (y0 y1 y2 y3 : Int) (y4 : Bool) (y5 y6 : List AV)
def F116R.av : F116R → AV
  | .v0 y0 _ _ _ _ _ _ => .int .i64 y0
def F116R.hp (a2 : List AV) (a3 a4 a5 a9 : Int) : F116R → List Ent
  | .v0 _ y1 y2 y3 y4 y5 y6 => [.fam 0 a2, .var [.vs 2 2 a3 a4 a5, .vs 4 3 y1 y2 y3, .int .i64 a9, .bool y4], .vec 2 y5, .dead, .vec 3 y6]
inductive F116L0 where
  | x0 (y0 : List AV)
noncomputable def f116_l0 (o : Ops) (fuel : Nat) (a7 a6 : Int) (a12 : List AV) (a0 a1 : Int) (a2 : List AV) (a3 a4 a5 a8 a9 : Int) (a10 : Bool) : Nat → Int → List AV → Option F116L0
  | 0, _, _ => none
  | n + 1, w40, w41 =>
    ifB (o.cmp .lss w40 a7)
    (req (o.inb w40 a7) <|
     req (o.inb (o.sum a6 w40) (o.len a12)) <|
     getA (o.get a12 (o.sum a6 w40)) fun e => sh158 e fun _ _ v44 =>
     ifB (o.cmp .eql w40 (o.ar .rem .i64 (o.mx (o.mx a0 (o.neg .i64 a0)) 0) (o.ar .add .i64 a7 1)))
     (req (o.nz (o.ar .add .i64 (o.len v44) 1)) <|
      req (o.le 0 (o.ar .rem .i64 (o.mx (o.mx a1 (o.neg .i64 a1)) 0) (o.ar .add .i64 (o.len v44) 1))) <|
      req (o.le (o.ar .rem .i64 (o.mx (o.mx a1 (o.neg .i64 a1)) 0) (o.ar .add .i64 (o.len v44) 1)) (o.len v44)) <|
      ifB (o.cmp .leq w40 (o.ar .rem .i64 (o.mx (o.mx a0 (o.neg .i64 a0)) 0) (o.ar .add .i64 a7 1)))
      (req (o.inb w40 a7) <|
       req (o.inb (o.sum a6 w40) (o.len a12)) <|
       getA (o.get a12 (o.sum a6 w40)) fun e => sh158 e fun v45 _ _ =>
       bindR (f142 o fuel v45 a2 a3 a4 a5 a6 a7 a8 a9 a10 w41 a12) fun r => match r with
       | .v0 r48 => req (o.inb r48 a4) <|
         req (o.inb (o.sum a3 r48) (o.len w41)) <|
         getA (o.get w41 (o.sum a3 r48)) fun e => sh164 e fun _ v50 =>
         req (o.inb w40 a7) <|
         req (o.inb (o.sum a6 w40) (o.len a12)) <|
         getA (o.get a12 (o.sum a6 w40)) fun e => sh158 e fun _ v52 _ =>
         bindR (f147 o fuel v50 v52 (o.sub v44 0 (o.ar .rem .i64 (o.mx (o.mx a1 (o.neg .i64 a1)) 0) (o.ar .add .i64 (o.len v44) 1))) a2) fun r => match r with
         | .v0 r54 => req (o.inb r48 a4) <|
           req (o.inb (o.sum a3 r48) (o.len w41)) <|
           getA (o.get w41 (o.sum a3 r48)) fun e => sh164 e fun v55 _ =>
           f116_l0 o fuel a7 a6 a12 a0 a1 a2 a3 a4 a5 a8 a9 a10 n (o.ar .add .i64 w40 1) (o.upd w41 (o.sum a3 r48) (.agg [.str v55, .sl 1 r54 .no])))
      (f116_l0 o fuel a7 a6 a12 a0 a1 a2 a3 a4 a5 a8 a9 a10 n (o.ar .add .i64 w40 1) w41))
     (ifB (o.cmp .leq w40 (o.ar .rem .i64 (o.mx (o.mx a0 (o.neg .i64 a0)) 0) (o.ar .add .i64 a7 1)))
      (req (o.inb w40 a7) <|
       req (o.inb (o.sum a6 w40) (o.len a12)) <|
       getA (o.get a12 (o.sum a6 w40)) fun e => sh158 e fun v57 _ _ =>
       bindR (f142 o fuel v57 a2 a3 a4 a5 a6 a7 a8 a9 a10 w41 a12) fun r => match r with
       | .v0 r60 => req (o.inb r60 a4) <|
         req (o.inb (o.sum a3 r60) (o.len w41)) <|
         getA (o.get w41 (o.sum a3 r60)) fun e => sh164 e fun _ v62 =>
         req (o.inb w40 a7) <|
         req (o.inb (o.sum a6 w40) (o.len a12)) <|
         getA (o.get a12 (o.sum a6 w40)) fun e => sh158 e fun _ v64 _ =>
         bindR (f147 o fuel v62 v64 v44 a2) fun r => match r with
         | .v0 r66 => req (o.inb r60 a4) <|
           req (o.inb (o.sum a3 r60) (o.len w41)) <|
           getA (o.get w41 (o.sum a3 r60)) fun e => sh164 e fun v67 _ =>
           f116_l0 o fuel a7 a6 a12 a0 a1 a2 a3 a4 a5 a8 a9 a10 n (o.ar .add .i64 w40 1) (o.upd w41 (o.sum a3 r60) (.agg [.str v67, .sl 1 r66 .no])))
      (f116_l0 o fuel a7 a6 a12 a0 a1 a2 a3 a4 a5 a8 a9 a10 n (o.ar .add .i64 w40 1) w41)))
    (some (.x0 w41))
theorem f116_l0_go {J : Jd} {n₀ : Nat} (hJ : J = std Try.prog n₀) {o : Ops} (hJo : J.o = o) {fuel : Nat} {a7 a6 : Int} {a12 : List AV} {a0 a1 : Int} {a2 : List AV} {a3 a4 a5 a8 a9 : Int} {a10 : Bool} {w40i : Int} {w41i : List AV} {α : Type} {k : F116L0 → Option α} {r : α} {c : Code} {Q : Ex → St → Prop} {s : St}
    (H : bindR (f116_l0 o fuel a7 a6 a12 a0 a1 a2 a3 a4 a5 a8 a9 a10 fuel w40i w41i) k = some r) (hn : n₀ ≤ 4) (hle : Le s ⟨[(8, .int .i64 w40i), (7, .int .i64 (o.ar .rem .i64 (o.mx (o.mx a0 (o.neg .i64 a0)) 0) (o.ar .add .i64 a7 1))), (2, .int .i64 a1), (0, .ptr 1 0)], [.fam 0 a2, .var [.vs 2 2 a3 a4 a5, .vs 3 3 a6 a7 a8, .int .i64 a9, .bool a10], .vec 2 w41i, .vec 3 a12], 100⟩)
    (round : ∀ X, k X = some r → ∀ (n : Nat) (w40 : Int) (w41 : List AV), f116_l0 o fuel a7 a6 a12 a0 a1 a2 a3 a4 a5 a8 a9 a10 (n + 1) w40 w41 = some X → ∀ N : St → Prop,
      (∀ (env : List (Nat × AV)) (w40' : Int) (w41' : List AV) (v : List Ent), f116_l0 o fuel a7 a6 a12 a0 a1 a2 a3 a4 a5 a8 a9 a10 n w40' w41' = some X → wkEnv env [(8, .int .i64 w40'), (7, .int .i64 (o.ar .rem .i64 (o.mx (o.mx a0 (o.neg .i64 a0)) 0) (o.ar .add .i64 a7 1))), (2, .int .i64 a1), (0, .ptr 1 0)] → N ⟨env, [.fam 0 a2, .var [.vs 2 2 a3 a4 a5, .vs 3 3 a6 a7 a8, .int .i64 a9, .bool a10], .vec 2 w41', .vec 3 a12] ++ v, 100⟩) → awp J tab c (thenQ N Q) ⟨[(8, .int .i64 w40), (7, .int .i64 (o.ar .rem .i64 (o.mx (o.mx a0 (o.neg .i64 a0)) 0) (o.ar .add .i64 a7 1))), (2, .int .i64 a1), (0, .ptr 1 0)], [.fam 0 a2, .var [.vs 2 2 a3 a4 a5, .vs 3 3 a6 a7 a8, .int .i64 a9, .bool a10], .vec 2 w41, .vec 3 a12], 100⟩) : J.code (.loop c) Q s := by
  subst hJo
  obtain ⟨X, hX, HX⟩ := bindR_go H
  refine loop_at (β := Nat × Int × List AV) hJ tab_ok (fun | (_, w40, w41) => ⟨[(8, .int .i64 w40), (7, .int .i64 (J.o.ar .rem .i64 (J.o.mx (J.o.mx a0 (J.o.neg .i64 a0)) 0) (J.o.ar .add .i64 a7 1))), (2, .int .i64 a1), (0, .ptr 1 0)], [.fam 0 a2, .var [.vs 2 2 a3 a4 a5, .vs 3 3 a6 a7 a8, .int .i64 a9, .bool a10], .vec 2 w41, .vec 3 a12], 100⟩) (fun | (n, w40, w41) => f116_l0 J.o fuel a7 a6 a12 a0 a1 a2 a3 a4 a5 a8 a9 a10 n w40 w41 = some X) (fun | (n, _, _) => n) (fuel, w40i, w41i) hX hle (by rintro ⟨_, _, _⟩; exact hn) ?_
  rintro ⟨n, w40, w41⟩ hb N hN
  rcases n with _ | n
  · exact none_go (show (none : Option F116L0) = some X from hb)
  exact round X HX n w40 w41 hb N fun env w40' w41' v h1 h2 => hN _ (n, w40', w41') h1 (Nat.lt_succ_self n) ⟨h2, by first | (cbv; done) | (cbv; repeat' (first | exact trivial | exact rfl | apply And.intro)), rfl, rfl⟩
noncomputable def f116 (o : Ops) (fuel : Nat) (a0 a1 : Int) (a2 : List AV) (a3 a4 a5 a6 a7 a8 a9 : Int) (a10 : Bool) (a11 a12 : List AV) : Option F116R :=
  ifB a10
  (some (.v0 32 a6 a7 a8 a10 a11 a12))
  (req (o.nz (o.ar .add .i64 a7 1)) <|
   bindR (f116_l0 o fuel a7 a6 a12 a0 a1 a2 a3 a4 a5 a8 a9 a10 fuel 0 a11) fun r => match r with
   | .x0 y69 => some (.v0 0 0 0 0 true y69 []))
theorem f116_call (o : Ops) (ho : o = stdOps) (fuel : Nat) (a0 a1 : Int) (a2 : List AV) (a3 a4 a5 a6 a7 a8 a9 : Int) (a10 : Bool) (a11 a12 : List AV) {R : F116R} (H : f116 o fuel a0 a1 a2 a3 a4 a5 a6 a7 a8 a9 a10 a11 a12 = some R) (K : AV → List Ent → Prop) (E : AV → List Ent → Prop) (h : K R.av (F116R.hp a2 a3 a4 a5 a9 R)) : CallA Try.prog 116 [.ptr 1 0, .int .i64 a0, .int .i64 a1] [.fam 0 a2, .var [.vs 2 2 a3 a4 a5, .vs 3 3 a6 a7 a8, .int .i64 a9, .bool a10], .vec 2 a11, .vec 3 a12] K E := by
  refine call_wk fun K' hK => ?_
  refine call_keep (n₀ := 4) tab_ok Try.func116 rfl rfl rfl rfl ?_
  intro J hJ
  obtain rfl : o = J.o := by rw [ho, hJ]; rfl
  unfold f116 at H
  cbv
  repeat' (first
    | ((with_reducible refine awp_go2 ?_); cbv)
    | (cases H; replace H := HX0; clear HX0; (try dsimp only at H))
    | (refine KeepQ.tn _ (by first | exact .inl rfl | exact .inr rfl) (Turn.trans (Turn.at 4 (turn_nilrh 1 1 3 rfl rfl (leN_t rfl)) rfl) (Turn.at 5 (turn_mvg 3 3 rfl (leN_t rfl)) rfl)) [4] (by decide) ?_; cbv; cases H; refine hK _ _ _ _ ?_ ?_ rfl h <;> cbv)
    | (refine KeepQ.tn _ (by first | exact .inl rfl | exact .inr rfl) (Turn.at 4 (turn_mv 1 1 3 3 rfl rfl rfl rfl (leN_t rfl)) rfl) [4] (by decide) ?_; cbv; cases H; refine hK _ _ _ _ ?_ ?_ rfl h <;> cbv)
    | (refine hN0 _ _ _ _ H ?_; with_reducible refine wkEnv_go2 ?_; cbv)
    | (refine ifB_go H ?_ ?_ <;> clear H <;> intro hh H)
    | (refine req_go H ?_; clear H; intro hh H)
    | (refine sh158_get H ?_; clear H; intro _ _ _ he H; cbv)
    | (refine sh164_get H ?_; clear H; intro _ _ he H; cbv)
    | (obtain ⟨R, hR, H2⟩ := bindR_go H; refine call_in hJ [0] (by decide) rfl rfl rfl (f147_call _ ho _ _ _ _ _ hR _ _ ?_); clear H hR; rcases R with ⟨_⟩; all_goals (replace H := H2; clear H2; (try dsimp only at H); cbv))
    | (obtain ⟨R, hR, H2⟩ := bindR_go H; refine call_in hJ [0, 1, 2, 3] (by decide) rfl rfl rfl (f142_call _ ho _ _ _ _ _ _ _ _ _ _ _ _ _ hR _ _ ?_); clear H hR; rcases R with ⟨_⟩; all_goals (replace H := H2; clear H2; (try dsimp only at H); cbv))
    | (refine f116_l0_go hJ (o := J.o) rfl H (by decide) ⟨?_, ?_, rfl, rfl⟩ ?_
       · cbv; (repeat' (first | exact trivial | exact rfl | apply And.intro))
       · cbv; (repeat' (first | exact trivial | exact rfl | apply And.intro))
       clear H
       intro X0 HX0 n _ _ H Nx0 hN0
       rw [f116_l0] at H
       cbv))
end Go.Proofs.Ytjdbmfipciadfaa.A
