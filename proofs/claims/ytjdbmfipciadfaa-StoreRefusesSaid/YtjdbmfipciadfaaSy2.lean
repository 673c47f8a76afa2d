/- Functions of the program and of the document's answer, as plain ones. Written by lift.py. -/import Derived.Test.YtjdbmfipciadfaaSy0
import Derived.Test.YtjdbmfipciadfaaSy1
namespace Go.Proofs.Ytjdbmfipciadfaa.A
open Go Go.Pt
set_option maxHeartbeats 4000000
set_option maxRecDepth 100000
inductive F93_1R where
  | v0 (y0 : List AV)
def F93_1R.av : F93_1R → AV
  | .v0 y0 => .sl 1 y0 .no
def F93_1R.hp (a1 : List AV) (a2 a3 a4 a5 : Int) (a6 : Bool) (a7 : List (AV × AV)) (a8 : List AV) : F93_1R → List Ent
  | .v0 _ => [.fam 0 a1, .var [.int .i64 a2, .mp 2, .vs 3 3 a3 a4 a5, .bool a6], .mp a7, .vec 3 a8]
inductive F93_1L0 where
  | x0 (y0 : List AV)
noncomputable def f93_1_l0 (o : Ops) (fuel : Nat) (a4 a3 : Int) (a8 : List AV) (a0 : Int) (a1 : List AV) (a5 a2 : Int) (a6 : Bool) (a7 : List (AV × AV)) : Nat → List AV → Int → Option F93_1L0
  | 0, _, _ => none
  | n + 1, w14, w15 =>
    ifB (o.cmp .lss w15 a4)
    (req (o.inb w15 a4) <|
     req (o.inb (o.sum a3 w15) (o.len a8)) <|
     getA (o.get a8 (o.sum a3 w15)) fun e => sh150 e fun v16 v17 v18 =>
     ifB (o.cmp .eql v16 a0)
     (bindR (f99 o fuel w14 v17 v18 a1) fun r => match r with
      | .v0 r19 => f93_1_l0 o fuel a4 a3 a8 a0 a1 a5 a2 a6 a7 n r19 (o.ar .add .i64 w15 1))
     (f93_1_l0 o fuel a4 a3 a8 a0 a1 a5 a2 a6 a7 n w14 (o.ar .add .i64 w15 1)))
    (some (.x0 w14))
theorem f93_1_l0_go {J : Jd} {n₀ : Nat} (hJ : J = std Try.prog n₀) {o : Ops} (hJo : J.o = o) {fuel : Nat} {a4 a3 : Int} {a8 : List AV} {a0 : Int} {a1 : List AV} {a5 a2 : Int} {a6 : Bool} {a7 : List (AV × AV)} {w14i : List AV} {w15i : Int} {α : Type} {k : F93_1L0 → Option α} {r : α} {c : Code} {Q : Ex → St → Prop} {s : St}
    (H : bindR (f93_1_l0 o fuel a4 a3 a8 a0 a1 a5 a2 a6 a7 fuel w14i w15i) k = some r) (hn : n₀ ≤ 4) (hle : Le s ⟨[(17, .int .i64 w15i), (16, .int .i64 a4), (15, .vs 3 3 a3 a4 a5), (5, .sl 1 w14i .no), (1, .fp 0 a0 0)], [.fam 0 a1, .var [.int .i64 a2, .mp 2, .vs 3 3 a3 a4 a5, .bool a6], .mp a7, .vec 3 a8], 34⟩)
    (round : ∀ X, k X = some r → ∀ (n : Nat) (w14 : List AV) (w15 : Int), f93_1_l0 o fuel a4 a3 a8 a0 a1 a5 a2 a6 a7 (n + 1) w14 w15 = some X → ∀ N : St → Prop,
      (∀ (env : List (Nat × AV)) (w14' : List AV) (w15' : Int) (v : List Ent), f93_1_l0 o fuel a4 a3 a8 a0 a1 a5 a2 a6 a7 n w14' w15' = some X → wkEnv env [(17, .int .i64 w15'), (16, .int .i64 a4), (15, .vs 3 3 a3 a4 a5), (5, .sl 1 w14' .no), (1, .fp 0 a0 0)] → N ⟨env, [.fam 0 a1, .var [.int .i64 a2, .mp 2, .vs 3 3 a3 a4 a5, .bool a6], .mp a7, .vec 3 a8] ++ v, 34⟩) → awp J tab c (thenQ N Q) ⟨[(17, .int .i64 w15), (16, .int .i64 a4), (15, .vs 3 3 a3 a4 a5), (5, .sl 1 w14 .no), (1, .fp 0 a0 0)], [.fam 0 a1, .var [.int .i64 a2, .mp 2, .vs 3 3 a3 a4 a5, .bool a6], .mp a7, .vec 3 a8], 34⟩) : J.code (.loop c) Q s := by
  subst hJo
  obtain ⟨X, hX, HX⟩ := bindR_go H
  refine loop_at (β := Nat × List AV × Int) hJ tab_ok (fun | (_, w14, w15) => ⟨[(17, .int .i64 w15), (16, .int .i64 a4), (15, .vs 3 3 a3 a4 a5), (5, .sl 1 w14 .no), (1, .fp 0 a0 0)], [.fam 0 a1, .var [.int .i64 a2, .mp 2, .vs 3 3 a3 a4 a5, .bool a6], .mp a7, .vec 3 a8], 34⟩) (fun | (n, w14, w15) => f93_1_l0 J.o fuel a4 a3 a8 a0 a1 a5 a2 a6 a7 n w14 w15 = some X) (fun | (n, _, _) => n) (fuel, w14i, w15i) hX hle (by rintro ⟨_, _, _⟩; exact hn) ?_
  rintro ⟨n, w14, w15⟩ hb N hN
  rcases n with _ | n
  · exact none_go (show (none : Option F93_1L0) = some X from hb)
  exact round X HX n w14 w15 hb N fun env w14' w15' v h1 h2 => hN _ (n, w14', w15') h1 (Nat.lt_succ_self n) ⟨h2, by first | (cbv; done) | (cbv; repeat' (first | exact trivial | exact rfl | apply And.intro)), rfl, rfl⟩
noncomputable def f93_1 (o : Ops) (fuel : Nat) (a0 : Int) (a1 : List AV) (a2 a3 a4 a5 : Int) (a6 : Bool) (a7 : List (AV × AV)) (a8 : List AV) : Option F93_1R :=
  req (o.inb a0 (o.len a1)) <|
  getA (o.get a1 a0) fun e => sh147 e fun v9 =>
  bindR (f93_1_l0 o fuel a4 a3 a8 a0 a1 a5 a2 a6 a7 fuel v9 0) fun r => match r with
  | .x0 y20 => bindR (f95 o fuel y20 a1) fun r => match r with
    | .v0 r21 => some (.v0 r21)
theorem f93_1_call (o : Ops) (ho : o = stdOps) (fuel : Nat) (a0 : Int) (a1 : List AV) (a2 a3 a4 a5 : Int) (a6 : Bool) (a7 : List (AV × AV)) (a8 : List AV) {R : F93_1R} (H : f93_1 o fuel a0 a1 a2 a3 a4 a5 a6 a7 a8 = some R) (K : AV → List Ent → Prop) (E : AV → List Ent → Prop) (h : K R.av (F93_1R.hp a1 a2 a3 a4 a5 a6 a7 a8 R)) : CallA Try.prog 93 [.ptr 1 0, .fp 0 a0 0] [.fam 0 a1, .var [.int .i64 a2, .mp 2, .vs 3 3 a3 a4 a5, .bool a6], .mp a7, .vec 3 a8] K E := by
  refine call_wk fun K' hK => ?_
  refine call_keep (n₀ := 4) tab_ok Try.func93 rfl rfl rfl rfl ?_
  intro J hJ
  obtain rfl : o = J.o := by rw [ho, hJ]; rfl
  unfold f93_1 at H
  cbv
  repeat' (first
    | ((with_reducible refine awp_go2 ?_); cbv)
    | (cases H; replace H := HX0; clear HX0; (try dsimp only at H))
    | (refine KeepQ.mk [] (by decide) ?_; cbv; cases H; refine hK _ _ _ _ ?_ ?_ rfl h <;> cbv)
    | (refine hN0 _ _ _ _ H ?_; with_reducible refine wkEnv_go2 ?_; cbv)
    | (refine ifB_go H ?_ ?_ <;> clear H <;> intro hh H)
    | (refine req_go H ?_; clear H; intro hh H)
    | (refine sh147_get H ?_; clear H; intro _ he H; cbv)
    | (refine sh150_get H ?_; clear H; intro _ _ _ he H; cbv)
    | (obtain ⟨R, hR, H2⟩ := bindR_go H; refine call_in hJ [0] (by decide) rfl rfl rfl (f99_call _ ho _ _ _ _ _ hR _ _ ?_); clear H hR; rcases R with ⟨_⟩; all_goals (replace H := H2; clear H2; (try dsimp only at H); cbv))
    | (obtain ⟨R, hR, H2⟩ := bindR_go H; refine call_in hJ [0] (by decide) rfl rfl rfl (f95_call _ ho _ _ _ hR _ _ ?_); clear H hR; rcases R with ⟨_⟩; all_goals (replace H := H2; clear H2; (try dsimp only at H); cbv))
    | (refine f93_1_l0_go hJ (o := J.o) rfl H (by decide) ⟨?_, ?_, rfl, rfl⟩ ?_
       · cbv; (repeat' (first | exact trivial | exact rfl | apply And.intro))
       · cbv; (repeat' (first | exact trivial | exact rfl | apply And.intro))
       clear H
       intro X0 HX0 n _ _ H Nx0 hN0
       rw [f93_1_l0] at H
       cbv))
inductive F91R where
  | v0
def F91R.av : F91R → AV
  | .v0  => .func 134 [.ptr 4 0]
def F91R.hp (a0 : List AV) (a1 a2 a3 a4 : Int) (a5 : Bool) (a6 : List (AV × AV)) (a7 : List AV) : F91R → List Ent
  | .v0  => [.fam 0 a0, .var [.int .i64 a1, .mp 2, .vs 3 3 a2 a3 a4, .bool a5], .mp a6, .vec 3 a7, .var [.ptr 1 0]]
noncomputable def f91 (_o : Ops) (_fuel : Nat) (_a0 : List AV) (_a1 _a2 _a3 _a4 : Int) (_a5 : Bool) (_a6 : List (AV × AV)) (_a7 : List AV) : Option F91R :=
  some (.v0 )
theorem f91_call (o : Ops) (ho : o = stdOps) (fuel : Nat) (a0 : List AV) (a1 a2 a3 a4 : Int) (a5 : Bool) (a6 : List (AV × AV)) (a7 : List AV) {R : F91R} (H : f91 o fuel a0 a1 a2 a3 a4 a5 a6 a7 = some R) (K : AV → List Ent → Prop) (E : AV → List Ent → Prop) (h : K R.av (F91R.hp a0 a1 a2 a3 a4 a5 a6 a7 R)) : CallA Try.prog 91 [.ptr 1 0] [.fam 0 a0, .var [.int .i64 a1, .mp 2, .vs 3 3 a2 a3 a4, .bool a5], .mp a6, .vec 3 a7] K E := by
  refine call_wk fun K' hK => ?_
  refine call_keep (n₀ := 4) tab_ok Try.func91 rfl rfl rfl rfl ?_
  intro J hJ
  obtain rfl : o = J.o := by rw [ho, hJ]; rfl
  unfold f91 at H
  cbv
  repeat' (first
    | (refine KeepQ.mk [4] (by decide) ?_; cbv; cases H; refine hK _ _ _ _ ?_ ?_ rfl h <;> cbv))
inductive F136R where
  | v0
def F136R.av : F136R → AV
  | .v0  => .func 156 [.ptr 2 0]
def F136R.hp (a0 : List AV) (a1 : List (AV × AV)) : F136R → List Ent
  | .v0  => [.fam 0 a0, .mp a1, .var [.mp 1]]
noncomputable def f136 (_o : Ops) (_fuel : Nat) (_a0 : List AV) (_a1 : List (AV × AV)) : Option F136R :=
  some (.v0 )
theorem f136_call (o : Ops) (ho : o = stdOps) (fuel : Nat) (a0 : List AV) (a1 : List (AV × AV)) {R : F136R} (H : f136 o fuel a0 a1 = some R) (K : AV → List Ent → Prop) (E : AV → List Ent → Prop) (h : K R.av (F136R.hp a0 a1 R)) : CallA Try.prog 136 [.mp 1] [.fam 0 a0, .mp a1] K E := by
  refine call_wk fun K' hK => ?_
  refine call_keep (n₀ := 2) tab_ok Try.func136 rfl rfl rfl rfl ?_
  intro J hJ
  obtain rfl : o = J.o := by rw [ho, hJ]; rfl
  unfold f136 at H
  cbv
  repeat' (first
    | (refine KeepQ.mk [2] (by decide) ?_; cbv; cases H; refine hK _ _ _ _ ?_ ?_ rfl h <;> cbv))
end Go.Proofs.Ytjdbmfipciadfaa.A
