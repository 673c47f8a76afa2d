/- Functions of the program and of the document's answer, as plain ones. Written by lift.py. -/import Derived.Test.YtjdbmfipciadfaaMb1
import Derived.Test.YtjdbmfipciadfaaMb2
import Derived.Test.YtjdbmfipciadfaaMb3
namespace Go.Proofs.Ytjdbmfipciadfaa.A
open Go Go.Pt
set_option maxHeartbeats 4000000
set_option maxRecDepth 100000
inductive F32R where
  | v0 (y0 : List AV) (y1 : List (AV × AV))
def F32R.av : F32R → AV
  | .v0 y0 _ => .sl 1 y0 .no
def F32R.hp (a0 : List AV) (a1 a2 a3 a4 : Int) (a5 : Bool) (a7 : List AV) : F32R → List Ent
  | .v0 _ y1 => [.fam 0 a0, .var [.int .i64 a1, .mp 2, .vs 3 3 a2 a3 a4, .bool a5], .mp y1, .vec 3 a7]
inductive F32L0 where
  | x0 (y0 : List AV) (y1 : Nat)
noncomputable def f32_l0 (o : Ops) (fuel : Nat) (r9 a0 : List AV) (a1 a2 a3 a4 : Int) (a5 : Bool) (r10 : List (AV × AV)) (a7 : List AV) : Nat → Nat → Int → List AV → Option F32L0
  | 0, _, _, _ => none
  | n + 1, w13, w14, w15 =>
    ifB (o.cmp .lss w14 (o.len r9))
    (req (o.inb w14 (o.len r9)) <|
     getA (o.get r9 w14) fun e => sh9 e fun v16 =>
     req (o.room w15 [.str v16] 16) <|
     f32_l0 o fuel r9 a0 a1 a2 a3 a4 a5 r10 a7 n (o.padd w13 [.str v16]) (o.ar .add .i64 w14 1) (o.apnd w15 [.str v16]))
    (some (.x0 w15 w13))
theorem f32_l0_go {J : Jd} {n₀ : Nat} (hJ : J = std Try.prog n₀) {o : Ops} (hJo : J.o = o) {pL1 : List Nat} {aL1 bL1 : Code} {fuel : Nat} {r9 a0 : List AV} {a1 a2 a3 a4 : Int} {a5 : Bool} {r10 : List (AV × AV)} {a7 : List AV} {w13i : Nat} {w14i : Int} {w15i : List AV} {α : Type} {k : F32L0 → Option α} {r : α} {c : Code} {Q : Ex → St → Prop} {s : St}
    (H : bindR (f32_l0 o fuel r9 a0 a1 a2 a3 a4 a5 r10 a7 fuel w13i w14i w15i) k = some r) (hn : n₀ ≤ 10) (hle : Turn n₀ s ⟨[(14, .int .i64 w14i), (13, .int .i64 (o.len r9)), (12, .sl 1 r9 .no), (0, .yld 6)], [.fam 0 a0, .var [.int .i64 a1, .mp 2, .vs 3 3 a2 a3 a4, .bool a5], .mp r10, .vec 3 a7, .var [.sl 1 w15i (.tip 9 w13i)], .var [.ptr 1 0], .lp pL1 aL1 bL1 [(3, .ptr 4 0)] 13 .ready none, .dead, .dead, .tip w13i], 23⟩)
    (round : ∀ X, k X = some r → ∀ (n : Nat) (w13 : Nat) (w14 : Int) (w15 : List AV), f32_l0 o fuel r9 a0 a1 a2 a3 a4 a5 r10 a7 (n + 1) w13 w14 w15 = some X → ∀ N : St → Prop,
      (∀ (env : List (Nat × AV)) (w13' : Nat) (w14' : Int) (w15' : List AV) (v : List Ent), f32_l0 o fuel r9 a0 a1 a2 a3 a4 a5 r10 a7 n w13' w14' w15' = some X → wkEnv env [(14, .int .i64 w14'), (13, .int .i64 (o.len r9)), (12, .sl 1 r9 .no), (0, .yld 6)] → N ⟨env, [.fam 0 a0, .var [.int .i64 a1, .mp 2, .vs 3 3 a2 a3 a4, .bool a5], .mp r10, .vec 3 a7, .var [.sl 1 w15' (.tip 9 w13')], .var [.ptr 1 0], .lp pL1 aL1 bL1 [(3, .ptr 4 0)] 13 .ready none, .dead, .dead, .tip w13'] ++ v, 23⟩) → awp J tab c (thenQ N Q) ⟨[(14, .int .i64 w14), (13, .int .i64 (o.len r9)), (12, .sl 1 r9 .no), (0, .yld 6)], [.fam 0 a0, .var [.int .i64 a1, .mp 2, .vs 3 3 a2 a3 a4, .bool a5], .mp r10, .vec 3 a7, .var [.sl 1 w15 (.tip 9 w13)], .var [.ptr 1 0], .lp pL1 aL1 bL1 [(3, .ptr 4 0)] 13 .ready none, .dead, .dead, .tip w13], 23⟩) : J.code (.loop c) Q s := by
  subst hJo
  obtain ⟨X, hX, HX⟩ := bindR_go H
  refine loop_turn_at (β := Nat × Nat × Int × List AV) hJ tab_ok (fun | (_, w13, w14, w15) => ⟨[(14, .int .i64 w14), (13, .int .i64 (J.o.len r9)), (12, .sl 1 r9 .no), (0, .yld 6)], [.fam 0 a0, .var [.int .i64 a1, .mp 2, .vs 3 3 a2 a3 a4, .bool a5], .mp r10, .vec 3 a7, .var [.sl 1 w15 (.tip 9 w13)], .var [.ptr 1 0], .lp pL1 aL1 bL1 [(3, .ptr 4 0)] 13 .ready none, .dead, .dead, .tip w13], 23⟩) (fun | (n, w13, w14, w15) => f32_l0 J.o fuel r9 a0 a1 a2 a3 a4 a5 r10 a7 n w13 w14 w15 = some X) (fun | (n, _, _, _) => n) (fuel, w13i, w14i, w15i) hX hle (by rintro ⟨_, _, _, _⟩; exact hn) ?_
  rintro ⟨n, w13, w14, w15⟩ hb N hN
  rcases n with _ | n
  · exact none_go (show (none : Option F32L0) = some X from hb)
  exact round X HX n w13 w14 w15 hb N fun env w13' w14' w15' v h1 h2 => hN _ (n, w13', w14', w15') h1 (Nat.lt_succ_self n) (Turn.le ⟨h2, by cbv; repeat' (first | exact trivial | exact rfl | apply And.intro), rfl, rfl⟩ (by simp; omega))
noncomputable def f32 (o : Ops) (fuel : Nat) (a0 : List AV) (a1 a2 a3 a4 : Int) (a5 : Bool) (a6 : List (AV × AV)) (a7 : List AV) : Option F32R :=
  bindR (f91 o fuel a0 a1 a2 a3 a4 a5 a6 a7) fun r => match r with
  | .v0  => bindR (f96 o fuel a0 a1 a2 a3 a4 a5 a6 a7) fun r => match r with
    | .v0 r8 => ifB r8
      (some (.v0 [] a6))
      (bindR (f136 o fuel a0 a6) fun r => match r with
       | .v0  => bindR (f135 o fuel a6) fun r => match r with
         | .v0 r9 r10 => bindR (f32_l0 o fuel r9 a0 a1 a2 a3 a4 a5 r10 a7 fuel 0 0 []) fun r => match r with
           | .x0 y17 _ => some (.v0 y17 r10))
theorem f32_call (o : Ops) (ho : o = stdOps) (fuel : Nat) (a0 : List AV) (a1 a2 a3 a4 : Int) (a5 : Bool) (a6 : List (AV × AV)) (a7 : List AV) {R : F32R} (H : f32 o fuel a0 a1 a2 a3 a4 a5 a6 a7 = some R) (K : AV → List Ent → Prop) (E : AV → List Ent → Prop) (h : K R.av (F32R.hp a0 a1 a2 a3 a4 a5 a7 R)) : CallA Try.prog 32 [.ptr 1 0] [.fam 0 a0, .var [.int .i64 a1, .mp 2, .vs 3 3 a2 a3 a4, .bool a5], .mp a6, .vec 3 a7] K E := by
  refine call_wk fun K' hK => ?_
  refine call_keep (n₀ := 4) tab_ok Try.func32 rfl rfl rfl rfl ?_
  intro J hJ
  obtain rfl : o = J.o := by rw [ho, hJ]; rfl
  unfold f32 at H
  cbv
  repeat' (first
    | ((with_reducible refine awp_go2 ?_); cbv)
    | (cases H; replace H := HX0; clear HX0; (try dsimp only at H))
    | (refine KeepQ.mk [] (by decide) ?_; cbv; cases H; refine hK _ _ _ _ ?_ ?_ rfl h <;> cbv)
    | (refine hN0 _ _ _ _ _ H ?_; with_reducible refine wkEnv_go2 ?_; cbv)
    | (refine ifB_go H ?_ ?_ <;> clear H <;> intro hh H)
    | (refine req_go H ?_; clear H; intro hh H)
    | (refine sh9_get H ?_; clear H; intro _ he H; cbv)
    | (refine range_in hJ tab_ok 6 [(3, .ptr 4 0)] Try.func134 rfl rfl rfl rfl rfl ?_ ?_
       · cbv; (repeat' (first | exact trivial | exact rfl | apply And.intro))
       intro pL1 aL1 bL1 cL1 cd1 pu1 yl1 ho1 mt1 hp1 ha1 hb1 hJ1
       try dsimp only at hJ1
       cbv)
    | (refine yield_in hJ1 tab_ok 10 hp1 ha1 hb1 rfl rfl rfl rfl ?_; intro cL3 cd3 pu3 yl3 ho3 mt3 hJ3; (try dsimp only at hJ3); cbv)
    | (refine InlQ.mk [] (by decide) ?_; cbv)
    | (obtain ⟨R, hR, H2⟩ := bindR_go H; refine call_in hJ1 [7, 2] (by decide) rfl rfl rfl (f135_call _ ho _ _ hR _ _ ?_); clear H hR; rcases R with ⟨_, _⟩; all_goals (replace H := H2; clear H2; (try dsimp only at H); cbv))
    | (obtain ⟨R, hR, H2⟩ := bindR_go H; refine call_in hJ1 [0, 2] (by decide) rfl rfl rfl (f136_call _ ho _ _ _ hR _ _ ?_); clear H hR; rcases R with ⟨⟩; all_goals (replace H := H2; clear H2; (try dsimp only at H); cbv))
    | (obtain ⟨R, hR, H2⟩ := bindR_go H; refine call_in hJ1 [0, 1, 2, 3] (by decide) rfl rfl rfl (f96_call _ ho _ _ _ _ _ _ _ _ _ hR _ _ ?_); clear H hR; rcases R with ⟨_⟩; all_goals (replace H := H2; clear H2; (try dsimp only at H); cbv))
    | (obtain ⟨R, hR, H2⟩ := bindR_go H; refine call_in hJ [0, 1, 2, 3] (by decide) rfl rfl rfl (f91_call _ ho _ _ _ _ _ _ _ _ _ hR _ _ ?_); clear H hR; rcases R with ⟨⟩; all_goals (replace H := H2; clear H2; (try dsimp only at H); cbv))
    | (refine f32_l0_go hJ1 (o := J.o) rfl (pL1 := pL1) (aL1 := aL1) (bL1 := bL1) H (by decide) (Turn.trans (turn_tip 4 0 1 rfl rfl (leN_t rfl)) (Turn.le ⟨?_, ?_, rfl, rfl⟩ (leN_t rfl))) ?_
       · cbv; (repeat' (first | exact trivial | exact rfl | apply And.intro))
       · cbv; (repeat' (first | exact trivial | exact rfl | apply And.intro))
       clear H
       intro X0 HX0 n _ _ _ H Nx0 hN0
       rw [f32_l0] at H
       cbv))
end Go.Proofs.Ytjdbmfipciadfaa.A
namespace Go.Proofs.Ytjdbmfipciadfaa.A
open Go Go.Pt
set_option maxHeartbeats 4000000
set_option maxRecDepth 100000
inductive F41R where
  | v0 (y0 : List AV) (y1 : Int)
def F41R.av : F41R → AV
  | .v0 y0 y1 => .tup [.sl 1 y0 .no, .int .i64 y1]
def F41R.hp (a1 : List AV) (a2 a3 a4 a5 : Int) (a6 : Bool) (a7 : List (AV × AV)) (a8 : List AV) : F41R → List Ent
  | .v0 _ _ => [.fam 0 a1, .var [.int .i64 a2, .mp 2, .vs 3 3 a3 a4 a5, .bool a6], .mp a7, .vec 3 a8]
noncomputable def f41 (o : Ops) (fuel : Nat) (a0 : ByteArray) (a1 : List AV) (a2 a3 a4 a5 : Int) (a6 : Bool) (a7 : List (AV × AV)) (a8 : List AV) : Option F41R :=
  bindR (f92 o fuel a0 a1 a2 a3 a4 a5 a6 a7 a8) fun r => match r with
  | .v0 r9 => ifB (o.bnot (o.cmp .eql r9 0))
    (some (.v0 [] r9))
    (none)
  | .v1 r10 => ifB (o.bnot (o.cmp .eql 0 0))
    (some (.v0 [] 0))
    (req (o.inb r10 (o.len a1)) <|
     getA (o.get a1 r10) fun e => sh147 e fun v11 =>
     bindR (f95 o fuel v11 a1) fun r => match r with
     | .v0 r12 => some (.v0 r12 0))
theorem f41_call (o : Ops) (ho : o = stdOps) (fuel : Nat) (a0 : ByteArray) (a1 : List AV) (a2 a3 a4 a5 : Int) (a6 : Bool) (a7 : List (AV × AV)) (a8 : List AV) {R : F41R} (H : f41 o fuel a0 a1 a2 a3 a4 a5 a6 a7 a8 = some R) (K : AV → List Ent → Prop) (E : AV → List Ent → Prop) (h : K R.av (F41R.hp a1 a2 a3 a4 a5 a6 a7 a8 R)) : CallA Try.prog 41 [.ptr 1 0, .str a0] [.fam 0 a1, .var [.int .i64 a2, .mp 2, .vs 3 3 a3 a4 a5, .bool a6], .mp a7, .vec 3 a8] K E := by
  refine call_wk fun K' hK => ?_
  refine call_keep (n₀ := 4) tab_ok Try.func41 rfl rfl rfl rfl ?_
  intro J hJ
  obtain rfl : o = J.o := by rw [ho, hJ]; rfl
  unfold f41 at H
  cbv
  repeat' (first
    | ((with_reducible refine awp_go2 ?_); cbv)
    | exact none_go H
    | (refine KeepQ.mk [] (by decide) ?_; cbv; cases H; refine hK _ _ _ _ ?_ ?_ rfl h <;> cbv)
    | (refine ifB_go H ?_ ?_ <;> clear H <;> intro hh H)
    | (refine req_go H ?_; clear H; intro hh H)
    | (refine sh147_get H ?_; clear H; intro _ he H; cbv)
    | (obtain ⟨R, hR, H2⟩ := bindR_go H; refine call_in hJ [0] (by decide) rfl rfl rfl (f95_call _ ho _ _ _ hR _ _ ?_); clear H hR; rcases R with ⟨_⟩; all_goals (replace H := H2; clear H2; (try dsimp only at H); cbv))
    | (obtain ⟨R, hR, H2⟩ := bindR_go H; refine call_in hJ [0, 1, 2, 3] (by decide) rfl rfl rfl (f92_call _ ho _ _ _ _ _ _ _ _ _ _ hR _ _ ?_); clear H hR; rcases R with ⟨_⟩ | ⟨_⟩; all_goals (replace H := H2; clear H2; (try dsimp only at H); cbv)))
inductive F42R where
  | v0 (y0 : Bool)
def F42R.av : F42R → AV
  | .v0 y0 => .bool y0
def F42R.hp (a2 : List AV) (a3 a4 a5 a6 a7 a8 a9 : Int) (a10 : Bool) (a11 a12 : List AV) : F42R → List Ent
  | .v0 _ => [.fam 0 a2, .var [.vs 2 2 a3 a4 a5, .vs 3 3 a6 a7 a8, .int .i64 a9, .bool a10], .vec 2 a11, .vec 3 a12]
inductive F42L0 where
  | x0
  | x1
noncomputable def f42_l0 (o : Ops) (fuel : Nat) (a7 a6 : Int) (a12 : List AV) (a0 : ByteArray) (a1 a8 : Int) (a2 : List AV) (a3 a4 a5 a9 : Int) (a10 : Bool) (a11 : List AV) : Nat → Int → Option F42L0
  | 0, _ => none
  | n + 1, w16 =>
    ifB (o.cmp .lss w16 a7)
    (req (o.inb w16 a7) <|
     req (o.inb (o.sum a6 w16) (o.len a12)) <|
     getA (o.get a12 (o.sum a6 w16)) fun e => sh158 e fun v17 v18 v19 =>
     ifB (o.pick (o.pick (o.seq v17 a0) (o.cmp .geq a1 v18) false) (o.cmp .lss a1 (o.ar .add .i64 v18 (o.len v19))) false)
     (some (.x0 ))
     (f42_l0 o fuel a7 a6 a12 a0 a1 a8 a2 a3 a4 a5 a9 a10 a11 n (o.ar .add .i64 w16 1)))
    (some (.x1 ))
theorem f42_l0_go {J : Jd} {n₀ : Nat} (hJ : J = std Try.prog n₀) {o : Ops} (hJo : J.o = o) {fuel : Nat} {a7 a6 : Int} {a12 : List AV} {a0 : ByteArray} {a1 a8 : Int} {a2 : List AV} {a3 a4 a5 a9 : Int} {a10 : Bool} {a11 : List AV} {w16i : Int} {α : Type} {k : F42L0 → Option α} {r : α} {c : Code} {Q : Ex → St → Prop} {s : St}
    (H : bindR (f42_l0 o fuel a7 a6 a12 a0 a1 a8 a2 a3 a4 a5 a9 a10 a11 fuel w16i) k = some r) (hn : n₀ ≤ 4) (hle : Le s ⟨[(14, .int .i64 w16i), (13, .int .i64 a7), (12, .vs 3 3 a6 a7 a8), (2, .int .i64 a1), (1, .str a0)], [.fam 0 a2, .var [.vs 2 2 a3 a4 a5, .vs 3 3 a6 a7 a8, .int .i64 a9, .bool a10], .vec 2 a11, .vec 3 a12], 39⟩)
    (round : ∀ X, k X = some r → ∀ (n : Nat) (w16 : Int), f42_l0 o fuel a7 a6 a12 a0 a1 a8 a2 a3 a4 a5 a9 a10 a11 (n + 1) w16 = some X → ∀ N : St → Prop,
      (∀ (env : List (Nat × AV)) (w16' : Int) (v : List Ent), f42_l0 o fuel a7 a6 a12 a0 a1 a8 a2 a3 a4 a5 a9 a10 a11 n w16' = some X → wkEnv env [(14, .int .i64 w16'), (13, .int .i64 a7), (12, .vs 3 3 a6 a7 a8), (2, .int .i64 a1), (1, .str a0)] → N ⟨env, [.fam 0 a2, .var [.vs 2 2 a3 a4 a5, .vs 3 3 a6 a7 a8, .int .i64 a9, .bool a10], .vec 2 a11, .vec 3 a12] ++ v, 39⟩) → awp J tab c (thenQ N Q) ⟨[(14, .int .i64 w16), (13, .int .i64 a7), (12, .vs 3 3 a6 a7 a8), (2, .int .i64 a1), (1, .str a0)], [.fam 0 a2, .var [.vs 2 2 a3 a4 a5, .vs 3 3 a6 a7 a8, .int .i64 a9, .bool a10], .vec 2 a11, .vec 3 a12], 39⟩) : J.code (.loop c) Q s := by
  subst hJo
  obtain ⟨X, hX, HX⟩ := bindR_go H
  refine loop_at (β := Nat × Int) hJ tab_ok (fun | (_, w16) => ⟨[(14, .int .i64 w16), (13, .int .i64 a7), (12, .vs 3 3 a6 a7 a8), (2, .int .i64 a1), (1, .str a0)], [.fam 0 a2, .var [.vs 2 2 a3 a4 a5, .vs 3 3 a6 a7 a8, .int .i64 a9, .bool a10], .vec 2 a11, .vec 3 a12], 39⟩) (fun | (n, w16) => f42_l0 J.o fuel a7 a6 a12 a0 a1 a8 a2 a3 a4 a5 a9 a10 a11 n w16 = some X) (fun | (n, _) => n) (fuel, w16i) hX hle (by rintro ⟨_, _⟩; exact hn) ?_
  rintro ⟨n, w16⟩ hb N hN
  rcases n with _ | n
  · exact none_go (show (none : Option F42L0) = some X from hb)
  exact round X HX n w16 hb N fun env w16' v h1 h2 => hN _ (n, w16') h1 (Nat.lt_succ_self n) ⟨h2, by first | (cbv; done) | (cbv; repeat' (first | exact trivial | exact rfl | apply And.intro)), rfl, rfl⟩
noncomputable def f42 (o : Ops) (fuel : Nat) (a0 : ByteArray) (a1 : Int) (a2 : List AV) (a3 a4 a5 a6 a7 a8 a9 : Int) (a10 : Bool) (a11 a12 : List AV) : Option F42R :=
  bindR (f42_l0 o fuel a7 a6 a12 a0 a1 a8 a2 a3 a4 a5 a9 a10 a11 fuel 0) fun r => match r with
  | .x0  => some (.v0 true)
  | .x1  => some (.v0 false)
theorem f42_call (o : Ops) (ho : o = stdOps) (fuel : Nat) (a0 : ByteArray) (a1 : Int) (a2 : List AV) (a3 a4 a5 a6 a7 a8 a9 : Int) (a10 : Bool) (a11 a12 : List AV) {R : F42R} (H : f42 o fuel a0 a1 a2 a3 a4 a5 a6 a7 a8 a9 a10 a11 a12 = some R) (K : AV → List Ent → Prop) (E : AV → List Ent → Prop) (h : K R.av (F42R.hp a2 a3 a4 a5 a6 a7 a8 a9 a10 a11 a12 R)) : CallA Try.prog 42 [.ptr 1 0, .str a0, .int .i64 a1] [.fam 0 a2, .var [.vs 2 2 a3 a4 a5, .vs 3 3 a6 a7 a8, .int .i64 a9, .bool a10], .vec 2 a11, .vec 3 a12] K E := by
  refine call_wk fun K' hK => ?_
  refine call_keep (n₀ := 4) tab_ok Try.func42 rfl rfl rfl rfl ?_
  intro J hJ
  obtain rfl : o = J.o := by rw [ho, hJ]; rfl
  unfold f42 at H
  cbv
  repeat' (first
    | ((with_reducible refine awp_go2 ?_); cbv)
    | with_reducible exact id
    | (cases H; replace H := HX0; clear HX0; (try dsimp only at H))
    | (refine KeepQ.mk [] (by decide) ?_; cbv; cases H; refine hK _ _ _ _ ?_ ?_ rfl h <;> cbv)
    | (refine hN0 _ _ _ H ?_; with_reducible refine wkEnv_go2 ?_; cbv)
    | (refine ifB_go H ?_ ?_ <;> clear H <;> intro hh H)
    | (refine req_go H ?_; clear H; intro hh H)
    | (refine sh158_get H ?_; clear H; intro _ _ _ he H; cbv)
    | (refine f42_l0_go hJ (o := J.o) rfl H (by decide) ⟨?_, ?_, rfl, rfl⟩ ?_
       · cbv; (repeat' (first | exact trivial | exact rfl | apply And.intro))
       · cbv; (repeat' (first | exact trivial | exact rfl | apply And.intro))
       clear H
       intro X0 HX0 n _ H Nx0 hN0
       rw [f42_l0] at H
       cbv)
    | with_reducible refine And.intro ?_ ?_)
inductive F43R where
  | v0 (y0 : Bool)
def F43R.av : F43R → AV
  | .v0 y0 => .bool y0
def F43R.hp (a1 : List AV) (a2 a3 a4 a5 a6 a7 a8 : Int) (a9 : Bool) (a10 a11 : List AV) : F43R → List Ent
  | .v0 _ => [.fam 0 a1, .var [.vs 2 2 a2 a3 a4, .vs 3 3 a5 a6 a7, .int .i64 a8, .bool a9], .vec 2 a10, .vec 3 a11]
inductive F43L0 where
  | x0
  | x1
noncomputable def f43_l0 (o : Ops) (fuel : Nat) (a6 a5 : Int) (a11 : List AV) (a0 : ByteArray) (a7 : Int) (a1 : List AV) (a2 a3 a4 a8 : Int) (a9 : Bool) (a10 : List AV) : Nat → Int → Option F43L0
  | 0, _ => none
  | n + 1, w15 =>
    ifB (o.cmp .lss w15 a6)
    (req (o.inb w15 a6) <|
     req (o.inb (o.sum a5 w15) (o.len a11)) <|
     getA (o.get a11 (o.sum a5 w15)) fun e => sh158 e fun v16 _ _ =>
     ifB (o.seq v16 a0)
     (some (.x0 ))
     (f43_l0 o fuel a6 a5 a11 a0 a7 a1 a2 a3 a4 a8 a9 a10 n (o.ar .add .i64 w15 1)))
    (some (.x1 ))
theorem f43_l0_go {J : Jd} {n₀ : Nat} (hJ : J = std Try.prog n₀) {o : Ops} (hJo : J.o = o) {fuel : Nat} {a6 a5 : Int} {a11 : List AV} {a0 : ByteArray} {a7 : Int} {a1 : List AV} {a2 a3 a4 a8 : Int} {a9 : Bool} {a10 : List AV} {w15i : Int} {α : Type} {k : F43L0 → Option α} {r : α} {c : Code} {Q : Ex → St → Prop} {s : St}
    (H : bindR (f43_l0 o fuel a6 a5 a11 a0 a7 a1 a2 a3 a4 a8 a9 a10 fuel w15i) k = some r) (hn : n₀ ≤ 4) (hle : Le s ⟨[(12, .int .i64 w15i), (11, .int .i64 a6), (10, .vs 3 3 a5 a6 a7), (1, .str a0)], [.fam 0 a1, .var [.vs 2 2 a2 a3 a4, .vs 3 3 a5 a6 a7, .int .i64 a8, .bool a9], .vec 2 a10, .vec 3 a11], 21⟩)
    (round : ∀ X, k X = some r → ∀ (n : Nat) (w15 : Int), f43_l0 o fuel a6 a5 a11 a0 a7 a1 a2 a3 a4 a8 a9 a10 (n + 1) w15 = some X → ∀ N : St → Prop,
      (∀ (env : List (Nat × AV)) (w15' : Int) (v : List Ent), f43_l0 o fuel a6 a5 a11 a0 a7 a1 a2 a3 a4 a8 a9 a10 n w15' = some X → wkEnv env [(12, .int .i64 w15'), (11, .int .i64 a6), (10, .vs 3 3 a5 a6 a7), (1, .str a0)] → N ⟨env, [.fam 0 a1, .var [.vs 2 2 a2 a3 a4, .vs 3 3 a5 a6 a7, .int .i64 a8, .bool a9], .vec 2 a10, .vec 3 a11] ++ v, 21⟩) → awp J tab c (thenQ N Q) ⟨[(12, .int .i64 w15), (11, .int .i64 a6), (10, .vs 3 3 a5 a6 a7), (1, .str a0)], [.fam 0 a1, .var [.vs 2 2 a2 a3 a4, .vs 3 3 a5 a6 a7, .int .i64 a8, .bool a9], .vec 2 a10, .vec 3 a11], 21⟩) : J.code (.loop c) Q s := by
  subst hJo
  obtain ⟨X, hX, HX⟩ := bindR_go H
  refine loop_at (β := Nat × Int) hJ tab_ok (fun | (_, w15) => ⟨[(12, .int .i64 w15), (11, .int .i64 a6), (10, .vs 3 3 a5 a6 a7), (1, .str a0)], [.fam 0 a1, .var [.vs 2 2 a2 a3 a4, .vs 3 3 a5 a6 a7, .int .i64 a8, .bool a9], .vec 2 a10, .vec 3 a11], 21⟩) (fun | (n, w15) => f43_l0 J.o fuel a6 a5 a11 a0 a7 a1 a2 a3 a4 a8 a9 a10 n w15 = some X) (fun | (n, _) => n) (fuel, w15i) hX hle (by rintro ⟨_, _⟩; exact hn) ?_
  rintro ⟨n, w15⟩ hb N hN
  rcases n with _ | n
  · exact none_go (show (none : Option F43L0) = some X from hb)
  exact round X HX n w15 hb N fun env w15' v h1 h2 => hN _ (n, w15') h1 (Nat.lt_succ_self n) ⟨h2, by first | (cbv; done) | (cbv; repeat' (first | exact trivial | exact rfl | apply And.intro)), rfl, rfl⟩
noncomputable def f43 (o : Ops) (fuel : Nat) (a0 : ByteArray) (a1 : List AV) (a2 a3 a4 a5 a6 a7 a8 : Int) (a9 : Bool) (a10 a11 : List AV) : Option F43R :=
  bindR (f43_l0 o fuel a6 a5 a11 a0 a7 a1 a2 a3 a4 a8 a9 a10 fuel 0) fun r => match r with
  | .x0  => some (.v0 true)
  | .x1  => some (.v0 false)
theorem f43_call (o : Ops) (ho : o = stdOps) (fuel : Nat) (a0 : ByteArray) (a1 : List AV) (a2 a3 a4 a5 a6 a7 a8 : Int) (a9 : Bool) (a10 a11 : List AV) {R : F43R} (H : f43 o fuel a0 a1 a2 a3 a4 a5 a6 a7 a8 a9 a10 a11 = some R) (K : AV → List Ent → Prop) (E : AV → List Ent → Prop) (h : K R.av (F43R.hp a1 a2 a3 a4 a5 a6 a7 a8 a9 a10 a11 R)) : CallA Try.prog 43 [.ptr 1 0, .str a0] [.fam 0 a1, .var [.vs 2 2 a2 a3 a4, .vs 3 3 a5 a6 a7, .int .i64 a8, .bool a9], .vec 2 a10, .vec 3 a11] K E := by
  refine call_wk fun K' hK => ?_
  refine call_keep (n₀ := 4) tab_ok Try.func43 rfl rfl rfl rfl ?_
  intro J hJ
  obtain rfl : o = J.o := by rw [ho, hJ]; rfl
  unfold f43 at H
  cbv
  repeat' (first
    | ((with_reducible refine awp_go2 ?_); cbv)
    | (cases H; replace H := HX0; clear HX0; (try dsimp only at H))
    | (refine KeepQ.mk [] (by decide) ?_; cbv; cases H; refine hK _ _ _ _ ?_ ?_ rfl h <;> cbv)
    | (refine hN0 _ _ _ H ?_; with_reducible refine wkEnv_go2 ?_; cbv)
    | (refine ifB_go H ?_ ?_ <;> clear H <;> intro hh H)
    | (refine req_go H ?_; clear H; intro hh H)
    | (refine sh158_get H ?_; clear H; intro _ _ _ he H; cbv)
    | (refine f43_l0_go hJ (o := J.o) rfl H (by decide) ⟨?_, ?_, rfl, rfl⟩ ?_
       · cbv; (repeat' (first | exact trivial | exact rfl | apply And.intro))
       · cbv; (repeat' (first | exact trivial | exact rfl | apply And.intro))
       clear H
       intro X0 HX0 n _ H Nx0 hN0
       rw [f43_l0] at H
       cbv))
end Go.Proofs.Ytjdbmfipciadfaa.A
namespace Go.Proofs.Ytjdbmfipciadfaa.A
open Go Go.Pt
set_option maxHeartbeats 4000000
set_option maxRecDepth 100000
inductive F50_1R where
  | v0 (y0 y1 y2 y3 y4 y5 : Int) (y6 y7 : List AV)
def F50_1R.av : F50_1R → AV
  | .v0 _ _ _ _ _ _ _ _ => .ptr 4 0
def F50_1R.hp (a0 : List AV) (a1 a2 a3 a4 a5 a6 a7 : Int) (a8 : Bool) (a9 a10 : List AV) : F50_1R → List Ent
  | .v0 y0 y1 y2 y3 y4 y5 y6 y7 => [.fam 0 a0, .var [.vs 2 2 a1 a2 a3, .vs 3 3 a4 a5 a6, .int .i64 a7, .bool a8], .vec 2 a9, .vec 3 a10, .var [.vs 5 2 y0 y1 y2, .vs 6 3 y3 y4 y5, .int .i64 a7, .bool a8], .vec 2 y6, .vec 3 y7]
inductive F50_1L0 where
  | x0 (y0 y1 : Int) (y2 : List AV)
noncomputable def f50_1_l0 (o : Ops) (fuel : Nat) (a2 a1 : Int) (a9 a0 : List AV) (a3 a4 a5 a6 a7 : Int) (a8 : Bool) (a10 : List AV) : Nat → Int → Int → Int → List AV → Option F50_1L0
  | 0, _, _, _, _ => none
  | n + 1, w23, w24, w25, w26 =>
    ifB (o.cmp .lss w23 a2)
    (req (o.inb w23 a2) <|
     req (o.inb (o.sum a1 w23) (o.len a9)) <|
     getA (o.get a9 (o.sum a1 w23)) fun e => sh164 e fun v27 _ =>
     req (o.inb w23 a2) <|
     req (o.inb (o.sum a1 w23) (o.len a9)) <|
     getA (o.get a9 (o.sum a1 w23)) fun e => sh164 e fun _ v30 =>
     req (o.room [] v30 1) <|
     req (o.is 0 0) <|
     req (o.le 0 w24) <|
     req (o.le w24 (o.len w26)) <|
     req (o.room (o.sub w26 0 w24) [.agg [.str v27, .sl 1 (o.apnd [] v30) .no]] 40) <|
     f50_1_l0 o fuel a2 a1 a9 a0 a3 a4 a5 a6 a7 a8 a10 n (o.ar .add .i64 w23 1) (o.len (o.apnd (o.sub w26 0 w24) [.agg [.str v27, .sl 1 (o.apnd [] v30) .no]])) (o.len (o.apnd (o.sub w26 0 w24) [.agg [.str v27, .sl 1 (o.apnd [] v30) .no]])) (o.apnd (o.sub w26 0 w24) [.agg [.str v27, .sl 1 (o.apnd [] v30) .no]]))
    (some (.x0 w24 w25 w26))
theorem f50_1_l0_go {J : Jd} {n₀ : Nat} (hJ : J = std Try.prog n₀) {o : Ops} (hJo : J.o = o) {fuel : Nat} {a2 a1 : Int} {a9 a0 : List AV} {a3 a4 a5 a6 a7 : Int} {a8 : Bool} {a10 : List AV} {w23i : Int} {w24i : Int} {w25i : Int} {w26i : List AV} {α : Type} {k : F50_1L0 → Option α} {r : α} {c : Code} {Q : Ex → St → Prop} {s : St}
    (H : bindR (f50_1_l0 o fuel a2 a1 a9 a0 a3 a4 a5 a6 a7 a8 a10 fuel w23i w24i w25i w26i) k = some r) (hn : n₀ ≤ 6) (hle : Turn n₀ s ⟨[(4, .int .i64 w23i), (3, .ptr 4 0), (0, .ptr 1 0)], [.fam 0 a0, .var [.vs 2 2 a1 a2 a3, .vs 3 3 a4 a5 a6, .int .i64 a7, .bool a8], .vec 2 a9, .vec 3 a10, .var [.vs 5 2 0 w24i w25i, .nils, .int .i64 a7, .bool a8], .vec 2 w26i], 66⟩)
    (round : ∀ X, k X = some r → ∀ (n : Nat) (w23 : Int) (w24 : Int) (w25 : Int) (w26 : List AV), f50_1_l0 o fuel a2 a1 a9 a0 a3 a4 a5 a6 a7 a8 a10 (n + 1) w23 w24 w25 w26 = some X → ∀ N : St → Prop,
      (∀ (s' : St) (w23' : Int) (w24' : Int) (w25' : Int) (w26' : List AV), f50_1_l0 o fuel a2 a1 a9 a0 a3 a4 a5 a6 a7 a8 a10 n w23' w24' w25' w26' = some X → Turn n₀ s' ⟨[(4, .int .i64 w23'), (3, .ptr 4 0), (0, .ptr 1 0)], [.fam 0 a0, .var [.vs 2 2 a1 a2 a3, .vs 3 3 a4 a5 a6, .int .i64 a7, .bool a8], .vec 2 a9, .vec 3 a10, .var [.vs 5 2 0 w24' w25', .nils, .int .i64 a7, .bool a8], .vec 2 w26'], 66⟩ → N s') → awp J tab c (thenQ N Q) ⟨[(4, .int .i64 w23), (3, .ptr 4 0), (0, .ptr 1 0)], [.fam 0 a0, .var [.vs 2 2 a1 a2 a3, .vs 3 3 a4 a5 a6, .int .i64 a7, .bool a8], .vec 2 a9, .vec 3 a10, .var [.vs 5 2 0 w24 w25, .nils, .int .i64 a7, .bool a8], .vec 2 w26], 66⟩) : J.code (.loop c) Q s := by
  subst hJo
  obtain ⟨X, hX, HX⟩ := bindR_go H
  refine loop_turn_at (β := Nat × Int × Int × Int × List AV) hJ tab_ok (fun | (_, w23, w24, w25, w26) => ⟨[(4, .int .i64 w23), (3, .ptr 4 0), (0, .ptr 1 0)], [.fam 0 a0, .var [.vs 2 2 a1 a2 a3, .vs 3 3 a4 a5 a6, .int .i64 a7, .bool a8], .vec 2 a9, .vec 3 a10, .var [.vs 5 2 0 w24 w25, .nils, .int .i64 a7, .bool a8], .vec 2 w26], 66⟩) (fun | (n, w23, w24, w25, w26) => f50_1_l0 J.o fuel a2 a1 a9 a0 a3 a4 a5 a6 a7 a8 a10 n w23 w24 w25 w26 = some X) (fun | (n, _, _, _, _) => n) (fuel, w23i, w24i, w25i, w26i) hX hle (by rintro ⟨_, _, _, _, _⟩; exact hn) ?_
  rintro ⟨n, w23, w24, w25, w26⟩ hb N hN
  rcases n with _ | n
  · exact none_go (show (none : Option F50_1L0) = some X from hb)
  exact round X HX n w23 w24 w25 w26 hb N fun s' w23' w24' w25' w26' h1 h2 => hN s' (n, w23', w24', w25', w26') h1 (Nat.lt_succ_self n) h2
noncomputable def f50_1 (o : Ops) (fuel : Nat) (a0 : List AV) (a1 a2 a3 a4 a5 a6 a7 : Int) (a8 : Bool) (a9 a10 : List AV) : Option F50_1R :=
  bindR (f50_1_l0 o fuel a2 a1 a9 a0 a3 a4 a5 a6 a7 a8 a10 fuel 0 0 0 []) fun r => match r with
  | .x0 y31 y32 y33 => req (o.le 0 a4) <|
    req (o.le 0 a5) <|
    req (o.le (o.sum a4 a5) (o.len a10)) <|
    req (o.emp []) <|
    req (o.room [] (o.sub a10 a4 (o.sum a4 a5)) 48) <|
    some (.v0 0 y31 y32 0 (o.len (o.sub a10 a4 (o.sum a4 a5))) (o.len (o.sub a10 a4 (o.sum a4 a5))) y33 (o.sub a10 a4 (o.sum a4 a5)))
theorem f50_1_call (o : Ops) (ho : o = stdOps) (fuel : Nat) (a0 : List AV) (a1 a2 a3 a4 a5 a6 a7 : Int) (a8 : Bool) (a9 a10 : List AV) {R : F50_1R} (H : f50_1 o fuel a0 a1 a2 a3 a4 a5 a6 a7 a8 a9 a10 = some R) (K : AV → List Ent → Prop) (E : AV → List Ent → Prop) (h : K R.av (F50_1R.hp a0 a1 a2 a3 a4 a5 a6 a7 a8 a9 a10 R)) : CallA Try.prog 50 [.ptr 1 0] [.fam 0 a0, .var [.vs 2 2 a1 a2 a3, .vs 3 3 a4 a5 a6, .int .i64 a7, .bool a8], .vec 2 a9, .vec 3 a10] K E := by
  refine call_wk fun K' hK => ?_
  refine call_keep (n₀ := 4) tab_ok Try.func50 rfl rfl rfl rfl ?_
  intro J hJ
  obtain rfl : o = J.o := by rw [ho, hJ]; rfl
  unfold f50_1 at H
  cbv
  repeat' (first
    | ((with_reducible refine awp_go2 ?_); cbv)
    | (cases H; replace H := HX0; clear HX0; (try dsimp only at H))
    | (refine KeepQ.mk [4, 5, 6] (by decide) ?_; cbv; cases H; refine hK _ _ _ _ ?_ ?_ rfl h <;> cbv)
    | (refine hN0 _ _ _ _ _ H (Turn.trans (Turn.pack [4, 7] (by decide) (leN_t rfl)) (Turn.le ⟨?_, ?_, rfl, rfl⟩ (leN_t rfl))) <;> (cbv; (repeat' (first | exact trivial | exact rfl | apply And.intro)); done))
    | (refine ifB_go H ?_ ?_ <;> clear H <;> intro hh H)
    | (refine req_go H ?_; clear H; intro hh H)
    | (refine sh164_get H ?_; clear H; intro _ _ he H; cbv)
    | (refine f50_1_l0_go hJ (o := J.o) rfl H (by decide) (Turn.trans (turn_nilrh 4 0 2 rfl rfl (leN_t rfl)) (Turn.trans (Turn.pack [4, 5] (by decide) (leN_t rfl)) (Turn.le ⟨?_, ?_, rfl, rfl⟩ (leN_t rfl)))) ?_
       · cbv; (repeat' (first | exact trivial | exact rfl | apply And.intro))
       · cbv; (repeat' (first | exact trivial | exact rfl | apply And.intro))
       clear H
       intro X0 HX0 n _ _ _ _ H Nx0 hN0
       rw [f50_1_l0] at H
       cbv))
inductive F53R where
  | v0 (y0 : Bool) (y1 y2 y3 y4 y5 y6 : Int) (y7 y8 : List AV)
def F53R.av : F53R → AV
  | .v0 y0 _ _ _ _ _ _ _ _ => .bool y0
def F53R.hp (a6 : List AV) (a13 : Int) (a14 : Bool) : F53R → List Ent
  | .v0 _ y1 y2 y3 y4 y5 y6 y7 y8 => [.fam 0 a6, .var [.vs 4 2 y1 y2 y3, .vs 5 3 y4 y5 y6, .int .i64 a13, .bool a14], .dead, .dead, .vec 2 y7, .vec 3 y8]
noncomputable def f53 (o : Ops) (fuel : Nat) (a0 : Int) (a1 a2 : ByteArray) (a3 _a4 : Int) (a5 a6 : List AV) (a7 a8 a9 a10 a11 a12 a13 : Int) (a14 : Bool) (a15 a16 : List AV) : Option F53R :=
  ifB (o.cmp .eql a0 0)
  (bindR (f110 o fuel a1 a6 a7 a8 a9 a10 a11 a12 a13 a14 a15 a16) fun r => match r with
   | .v0 r17 r18 r19 r20 r21 => some (.v0 (o.bnot (o.cmp .eql r17 0)) r18 r19 r20 a10 a11 a12 r21 a16))
  (ifB (o.cmp .eql a0 1)
   (bindR (f111 o fuel a1 a3 a5 a6 a7 a8 a9 a10 a11 a12 a13 a14 a15 a16) fun r => match r with
    | .v0 r22 r23 r24 r25 r26 => some (.v0 (o.bnot (o.cmp .eql r22 0)) a7 a8 a9 r23 r24 r25 a15 r26))
   (ifB (o.cmp .eql a0 2)
    (bindR (f112 o fuel a1 a3 a6 a7 a8 a9 a10 a11 a12 a13 a14 a15 a16) fun r => match r with
     | .v0 r27 r28 r29 r30 r31 r32 => some (.v0 (o.bnot (o.cmp .eql r27 0)) a7 a8 a9 r28 r29 r30 r31 r32))
    (ifB (o.cmp .eql a0 4)
     (bindR (f114 o fuel a1 a2 a6 a7 a8 a9 a10 a11 a12 a13 a14 a15 a16) fun r => match r with
      | .v0 r33 r34 r35 r36 r37 r38 r39 r40 r41 => some (.v0 (o.bnot (o.cmp .eql r33 0)) r34 r35 r36 r37 r38 r39 r40 r41))
     (ifB (o.cmp .eql a0 5)
      (bindR (f115 o fuel a1 a6 a7 a8 a9 a10 a11 a12 a13 a14 a15 a16) fun r => match r with
       | .v0 r42 r43 r44 r45 r46 r47 r48 r49 r50 => some (.v0 (o.bnot (o.cmp .eql r42 0)) r43 r44 r45 r46 r47 r48 r49 r50))
      (some (.v0 false a7 a8 a9 a10 a11 a12 a15 a16))))))
theorem f53_call (o : Ops) (ho : o = stdOps) (fuel : Nat) (a0 : Int) (a1 a2 : ByteArray) (a3 a4 : Int) (a5 a6 : List AV) (a7 a8 a9 a10 a11 a12 a13 : Int) (a14 : Bool) (a15 a16 : List AV) {R : F53R} (H : f53 o fuel a0 a1 a2 a3 a4 a5 a6 a7 a8 a9 a10 a11 a12 a13 a14 a15 a16 = some R) (K : AV → List Ent → Prop) (E : AV → List Ent → Prop) (h : K R.av (F53R.hp a6 a13 a14 R)) : CallA Try.prog 53 [.ptr 1 0, .agg [.int .i64 a0, .str a1, .str a2, .int .i64 a3, .int .i64 a4, .sl 1 a5 .no]] [.fam 0 a6, .var [.vs 2 2 a7 a8 a9, .vs 3 3 a10 a11 a12, .int .i64 a13, .bool a14], .vec 2 a15, .vec 3 a16] K E := by
  refine call_wk fun K' hK => ?_
  refine call_keep (n₀ := 4) tab_ok Try.func53 rfl rfl rfl rfl ?_
  intro J hJ
  obtain rfl : o = J.o := by rw [ho, hJ]; rfl
  unfold f53 at H
  cbv
  repeat' (first
    | ((with_reducible refine awp_go2 ?_); cbv)
    | (refine KeepQ.tn _ (by first | exact .inl rfl | exact .inr rfl) (Turn.trans (Turn.at 5 (turn_mv 1 0 2 2 rfl rfl rfl rfl (leN_t rfl)) rfl) (Turn.at 6 (turn_mv 1 1 3 3 rfl rfl rfl rfl (leN_t rfl)) rfl)) [5, 6] (by decide) ?_; cbv; cases H; refine hK _ _ _ _ ?_ ?_ rfl h <;> cbv)
    | (refine KeepQ.tn _ (by first | exact .inl rfl | exact .inr rfl) (Turn.at 6 (turn_mv 1 1 3 3 rfl rfl rfl rfl (leN_t rfl)) rfl) [5, 6] (by decide) ?_; cbv; cases H; refine hK _ _ _ _ ?_ ?_ rfl h <;> cbv)
    | (refine KeepQ.tn _ (by first | exact .inl rfl | exact .inr rfl) (Turn.at 6 (turn_mv 1 0 2 2 rfl rfl rfl rfl (leN_t rfl)) rfl) [6, 5] (by decide) ?_; cbv; cases H; refine hK _ _ _ _ ?_ ?_ rfl h <;> cbv)
    | (refine KeepQ.mk [5, 6] (by decide) ?_; cbv; cases H; refine hK _ _ _ _ ?_ ?_ rfl h <;> cbv)
    | (refine ifB_go H ?_ ?_ <;> clear H <;> intro hh H)
    | (obtain ⟨R, hR, H2⟩ := bindR_go H; refine call_in hJ [0, 1, 2, 3] (by decide) rfl rfl rfl (f110_call _ ho _ _ _ _ _ _ _ _ _ _ _ _ _ hR _ _ ?_); clear H hR; rcases R with ⟨_, _, _, _, _⟩; all_goals (replace H := H2; clear H2; (try dsimp only at H); cbv))
    | (obtain ⟨R, hR, H2⟩ := bindR_go H; refine call_in hJ [0, 1, 2, 3] (by decide) rfl rfl rfl (f111_call _ ho _ _ _ _ _ _ _ _ _ _ _ _ _ _ _ hR _ _ ?_); clear H hR; rcases R with ⟨_, _, _, _, _⟩; all_goals (replace H := H2; clear H2; (try dsimp only at H); cbv))
    | (obtain ⟨R, hR, H2⟩ := bindR_go H; refine call_in hJ [0, 1, 2, 3] (by decide) rfl rfl rfl (f112_call _ ho _ _ _ _ _ _ _ _ _ _ _ _ _ _ hR _ _ ?_); clear H hR; rcases R with ⟨_, _, _, _, _, _⟩; all_goals (replace H := H2; clear H2; (try dsimp only at H); cbv))
    | (obtain ⟨R, hR, H2⟩ := bindR_go H; refine call_in hJ [0, 1, 2, 3] (by decide) rfl rfl rfl (f114_call _ ho _ _ _ _ _ _ _ _ _ _ _ _ _ _ hR _ _ ?_); clear H hR; rcases R with ⟨_, _, _, _, _, _, _, _, _⟩; all_goals (replace H := H2; clear H2; (try dsimp only at H); cbv))
    | (obtain ⟨R, hR, H2⟩ := bindR_go H; refine call_in hJ [0, 1, 2, 3] (by decide) rfl rfl rfl (f115_call _ ho _ _ _ _ _ _ _ _ _ _ _ _ _ hR _ _ ?_); clear H hR; rcases R with ⟨_, _, _, _, _, _, _, _, _⟩; all_goals (replace H := H2; clear H2; (try dsimp only at H); cbv)))
end Go.Proofs.Ytjdbmfipciadfaa.A
namespace Go.Proofs.Ytjdbmfipciadfaa.A
open Go Go.Pt
set_option maxHeartbeats 4000000
set_option maxRecDepth 100000
inductive F119R where
  | v0 (y0 : List AV)
def F119R.av : F119R → AV
  | .v0 y0 => .sl 1 y0 .no
def F119R.hp (a0 : List AV) (a1 a2 a3 a4 a5 a6 a7 : Int) (a8 : Bool) (a9 a10 : List AV) : F119R → List Ent
  | .v0 _ => [.fam 0 a0, .var [.vs 2 2 a1 a2 a3, .vs 3 3 a4 a5 a6, .int .i64 a7, .bool a8], .vec 2 a9, .vec 3 a10]
inductive F119L0 where
  | x0 (y0 : List AV) (y1 : Nat)
noncomputable def f119_l0 (o : Ops) (fuel : Nat) (a2 a1 : Int) (a9 a0 : List AV) (a3 a4 a5 a6 a7 : Int) (a8 : Bool) (a10 : List AV) : Nat → Nat → List AV → Int → Option F119L0
  | 0, _, _, _ => none
  | n + 1, w15, w16, w17 =>
    ifB (o.cmp .lss w17 a2)
    (req (o.inb w17 a2) <|
     req (o.inb (o.sum a1 w17) (o.len a9)) <|
     getA (o.get a9 (o.sum a1 w17)) fun e => sh164 e fun v18 _ =>
     req (o.room w16 [.str v18] 16) <|
     f119_l0 o fuel a2 a1 a9 a0 a3 a4 a5 a6 a7 a8 a10 n (o.padd w15 [.str v18]) (o.apnd w16 [.str v18]) (o.ar .add .i64 w17 1))
    (some (.x0 w16 w15))
theorem f119_l0_go {J : Jd} {n₀ : Nat} (hJ : J = std Try.prog n₀) {o : Ops} (hJo : J.o = o) {fuel : Nat} {a2 a1 : Int} {a9 a0 : List AV} {a3 a4 a5 a6 a7 : Int} {a8 : Bool} {a10 : List AV} {w15i : Nat} {w16i : List AV} {w17i : Int} {α : Type} {k : F119L0 → Option α} {r : α} {c : Code} {Q : Ex → St → Prop} {s : St}
    (H : bindR (f119_l0 o fuel a2 a1 a9 a0 a3 a4 a5 a6 a7 a8 a10 fuel w15i w16i w17i) k = some r) (hn : n₀ ≤ 5) (hle : Turn n₀ s ⟨[(4, .int .i64 w17i), (3, .sl 1 w16i (.tip 4 w15i)), (0, .ptr 1 0)], [.fam 0 a0, .var [.vs 2 2 a1 a2 a3, .vs 3 3 a4 a5 a6, .int .i64 a7, .bool a8], .vec 2 a9, .vec 3 a10, .tip w15i], 26⟩)
    (round : ∀ X, k X = some r → ∀ (n : Nat) (w15 : Nat) (w16 : List AV) (w17 : Int), f119_l0 o fuel a2 a1 a9 a0 a3 a4 a5 a6 a7 a8 a10 (n + 1) w15 w16 w17 = some X → ∀ N : St → Prop,
      (∀ (env : List (Nat × AV)) (w15' : Nat) (w16' : List AV) (w17' : Int) (v : List Ent), f119_l0 o fuel a2 a1 a9 a0 a3 a4 a5 a6 a7 a8 a10 n w15' w16' w17' = some X → wkEnv env [(4, .int .i64 w17'), (3, .sl 1 w16' (.tip 4 w15')), (0, .ptr 1 0)] → N ⟨env, [.fam 0 a0, .var [.vs 2 2 a1 a2 a3, .vs 3 3 a4 a5 a6, .int .i64 a7, .bool a8], .vec 2 a9, .vec 3 a10, .tip w15'] ++ v, 26⟩) → awp J tab c (thenQ N Q) ⟨[(4, .int .i64 w17), (3, .sl 1 w16 (.tip 4 w15)), (0, .ptr 1 0)], [.fam 0 a0, .var [.vs 2 2 a1 a2 a3, .vs 3 3 a4 a5 a6, .int .i64 a7, .bool a8], .vec 2 a9, .vec 3 a10, .tip w15], 26⟩) : J.code (.loop c) Q s := by
  subst hJo
  obtain ⟨X, hX, HX⟩ := bindR_go H
  refine loop_turn_at (β := Nat × Nat × List AV × Int) hJ tab_ok (fun | (_, w15, w16, w17) => ⟨[(4, .int .i64 w17), (3, .sl 1 w16 (.tip 4 w15)), (0, .ptr 1 0)], [.fam 0 a0, .var [.vs 2 2 a1 a2 a3, .vs 3 3 a4 a5 a6, .int .i64 a7, .bool a8], .vec 2 a9, .vec 3 a10, .tip w15], 26⟩) (fun | (n, w15, w16, w17) => f119_l0 J.o fuel a2 a1 a9 a0 a3 a4 a5 a6 a7 a8 a10 n w15 w16 w17 = some X) (fun | (n, _, _, _) => n) (fuel, w15i, w16i, w17i) hX hle (by rintro ⟨_, _, _, _⟩; exact hn) ?_
  rintro ⟨n, w15, w16, w17⟩ hb N hN
  rcases n with _ | n
  · exact none_go (show (none : Option F119L0) = some X from hb)
  exact round X HX n w15 w16 w17 hb N fun env w15' w16' w17' v h1 h2 => hN _ (n, w15', w16', w17') h1 (Nat.lt_succ_self n) (Turn.le ⟨h2, by cbv; repeat' (first | exact trivial | exact rfl | apply And.intro), rfl, rfl⟩ (by simp; omega))
noncomputable def f119 (o : Ops) (fuel : Nat) (a0 : List AV) (a1 a2 a3 a4 a5 a6 a7 : Int) (a8 : Bool) (a9 a10 : List AV) : Option F119R :=
  bindR (f119_l0 o fuel a2 a1 a9 a0 a3 a4 a5 a6 a7 a8 a10 fuel 0 [] 0) fun r => match r with
  | .x0 y20 _ => some (.v0 y20)
theorem f119_call (o : Ops) (ho : o = stdOps) (fuel : Nat) (a0 : List AV) (a1 a2 a3 a4 a5 a6 a7 : Int) (a8 : Bool) (a9 a10 : List AV) {R : F119R} (H : f119 o fuel a0 a1 a2 a3 a4 a5 a6 a7 a8 a9 a10 = some R) (K : AV → List Ent → Prop) (E : AV → List Ent → Prop) (h : K R.av (F119R.hp a0 a1 a2 a3 a4 a5 a6 a7 a8 a9 a10 R)) : CallA Try.prog 119 [.ptr 1 0] [.fam 0 a0, .var [.vs 2 2 a1 a2 a3, .vs 3 3 a4 a5 a6, .int .i64 a7, .bool a8], .vec 2 a9, .vec 3 a10] K E := by
  refine call_wk fun K' hK => ?_
  refine call_keep (n₀ := 4) tab_ok Try.func119 rfl rfl rfl rfl ?_
  intro J hJ
  obtain rfl : o = J.o := by rw [ho, hJ]; rfl
  unfold f119 at H
  cbv
  repeat' (first
    | ((with_reducible refine awp_go2 ?_); cbv)
    | exact trivial
    | with_reducible exact rfl
    | (cases H; replace H := HX0; clear HX0; (try dsimp only at H))
    | (refine KeepQ.mk [] (by decide) ?_; cbv; cases H; refine hK _ _ _ _ ?_ ?_ rfl h <;> cbv)
    | (refine hN0 _ _ _ _ _ H ?_; with_reducible refine wkEnv_go2 ?_; cbv)
    | (refine ifB_go H ?_ ?_ <;> clear H <;> intro hh H)
    | (refine req_go H ?_; clear H; intro hh H)
    | (refine sh164_get H ?_; clear H; intro _ _ he H; cbv)
    | (refine f119_l0_go hJ (o := J.o) rfl H (by decide) (Turn.trans (turn_nile 3 1 rfl (leN_t rfl)) (Turn.le ⟨?_, ?_, rfl, rfl⟩ (leN_t rfl))) ?_
       · cbv; (repeat' (first | exact trivial | exact rfl | apply And.intro))
       · cbv; (repeat' (first | exact trivial | exact rfl | apply And.intro))
       clear H
       intro X0 HX0 n _ _ _ H Nx0 hN0
       rw [f119_l0] at H
       cbv)
    | with_reducible refine And.intro ?_ ?_)
inductive F118R where
  | v0 (y0 : Bool)
def F118R.av : F118R → AV
  | .v0 y0 => .bool y0
def F118R.hp (a2 : List AV) : F118R → List Ent
  | .v0 _ => [.fam 0 a2]
inductive F118L0 where
  | x0
  | x1
noncomputable def f118_l0 (o : Ops) (fuel : Nat) (a0 a1 a2 : List AV) : Nat → Int → Option F118L0
  | 0, _ => none
  | n + 1, w5 =>
    ifB (o.cmp .lss w5 (o.len a0))
    (req (o.inb w5 (o.len a0)) <|
     getA (o.get a0 w5) fun e => sh9 e fun v6 =>
     req (o.inb w5 (o.len a1)) <|
     getA (o.get a1 w5) fun e => sh9 e fun v7 =>
     ifB (o.bnot (o.seq v6 v7))
     (some (.x0 ))
     (f118_l0 o fuel a0 a1 a2 n (o.ar .add .i64 w5 1)))
    (some (.x1 ))
theorem f118_l0_go {J : Jd} {n₀ : Nat} (hJ : J = std Try.prog n₀) {o : Ops} (hJo : J.o = o) {fuel : Nat} {a0 a1 a2 : List AV} {w5i : Int} {α : Type} {k : F118L0 → Option α} {r : α} {c : Code} {Q : Ex → St → Prop} {s : St}
    (H : bindR (f118_l0 o fuel a0 a1 a2 fuel w5i) k = some r) (hn : n₀ ≤ 1) (hle : Le s ⟨[(13, .int .i64 w5i), (12, .int .i64 (o.len a0)), (1, .sl 1 a1 .no), (0, .sl 1 a0 .no)], [.fam 0 a2], 26⟩)
    (round : ∀ X, k X = some r → ∀ (n : Nat) (w5 : Int), f118_l0 o fuel a0 a1 a2 (n + 1) w5 = some X → ∀ N : St → Prop,
      (∀ (env : List (Nat × AV)) (w5' : Int) (v : List Ent), f118_l0 o fuel a0 a1 a2 n w5' = some X → wkEnv env [(13, .int .i64 w5'), (12, .int .i64 (o.len a0)), (1, .sl 1 a1 .no), (0, .sl 1 a0 .no)] → N ⟨env, [.fam 0 a2] ++ v, 26⟩) → awp J tab c (thenQ N Q) ⟨[(13, .int .i64 w5), (12, .int .i64 (o.len a0)), (1, .sl 1 a1 .no), (0, .sl 1 a0 .no)], [.fam 0 a2], 26⟩) : J.code (.loop c) Q s := by
  subst hJo
  obtain ⟨X, hX, HX⟩ := bindR_go H
  refine loop_at (β := Nat × Int) hJ tab_ok (fun | (_, w5) => ⟨[(13, .int .i64 w5), (12, .int .i64 (J.o.len a0)), (1, .sl 1 a1 .no), (0, .sl 1 a0 .no)], [.fam 0 a2], 26⟩) (fun | (n, w5) => f118_l0 J.o fuel a0 a1 a2 n w5 = some X) (fun | (n, _) => n) (fuel, w5i) hX hle (by rintro ⟨_, _⟩; exact hn) ?_
  rintro ⟨n, w5⟩ hb N hN
  rcases n with _ | n
  · exact none_go (show (none : Option F118L0) = some X from hb)
  exact round X HX n w5 hb N fun env w5' v h1 h2 => hN _ (n, w5') h1 (Nat.lt_succ_self n) ⟨h2, by first | (cbv; done) | (cbv; repeat' (first | exact trivial | exact rfl | apply And.intro)), rfl, rfl⟩
noncomputable def f118 (o : Ops) (fuel : Nat) (a0 a1 a2 : List AV) : Option F118R :=
  ifB (o.bnot (o.cmp .eql (o.len a0) (o.len a1)))
  (some (.v0 false))
  (bindR (f118_l0 o fuel a0 a1 a2 fuel 0) fun r => match r with
   | .x0  => some (.v0 false)
   | .x1  => some (.v0 true))
theorem f118_call (o : Ops) (ho : o = stdOps) (fuel : Nat) (a0 a1 a2 : List AV) {R : F118R} (H : f118 o fuel a0 a1 a2 = some R) (K : AV → List Ent → Prop) (E : AV → List Ent → Prop) (h : K R.av (F118R.hp a2 R)) : CallA Try.prog 118 [.sl 1 a0 .no, .sl 1 a1 .no] [.fam 0 a2] K E := by
  refine call_wk fun K' hK => ?_
  refine call_keep (n₀ := 1) tab_ok Try.func118 rfl rfl rfl rfl ?_
  intro J hJ
  obtain rfl : o = J.o := by rw [ho, hJ]; rfl
  unfold f118 at H
  cbv
  repeat' (first
    | ((with_reducible refine awp_go2 ?_); cbv)
    | (cases H; replace H := HX0; clear HX0; (try dsimp only at H))
    | (refine KeepQ.mk [] (by decide) ?_; cbv; cases H; refine hK _ _ _ _ ?_ ?_ rfl h <;> cbv)
    | (refine hN0 _ _ _ H ?_; with_reducible refine wkEnv_go2 ?_; cbv)
    | (refine ifB_go H ?_ ?_ <;> clear H <;> intro hh H)
    | (refine req_go H ?_; clear H; intro hh H)
    | (refine sh9_get H ?_; clear H; intro _ he H; cbv)
    | (refine f118_l0_go hJ (o := J.o) rfl H (by decide) ⟨?_, ?_, rfl, rfl⟩ ?_
       · cbv; (repeat' (first | exact trivial | exact rfl | apply And.intro))
       · cbv; (repeat' (first | exact trivial | exact rfl | apply And.intro))
       clear H
       intro X0 HX0 n _ H Nx0 hN0
       rw [f118_l0] at H
       cbv))
inductive F121R where
  | v0 (y0 y1 : Int)
def F121R.av : F121R → AV
  | .v0 y0 y1 => .tup [.int .i64 y0, .int .i64 y1]
def F121R.hp (a1 : List AV) (a2 a3 a4 a5 a6 a7 a8 : Int) (a9 : Bool) (a10 a11 : List AV) : F121R → List Ent
  | .v0 _ _ => [.fam 0 a1, .var [.vs 2 2 a2 a3 a4, .vs 3 3 a5 a6 a7, .int .i64 a8, .bool a9], .vec 2 a10, .vec 3 a11]
noncomputable def f121 (o : Ops) (fuel : Nat) (a0 : ByteArray) (a1 : List AV) (a2 a3 a4 a5 a6 a7 a8 : Int) (a9 : Bool) (a10 a11 : List AV) : Option F121R :=
  bindR (f144 o fuel a0 a1 a2 a3 a4 a5 a6 a7 a8 a9 a10 a11) fun r => match r with
  | .v0 r12 => ifB (o.bnot (o.cmp .eql r12 0))
    (some (.v0 0 r12))
    (bindR (f145 o fuel a0 a1 a2 a3 a4 a5 a6 a7 a8 a9 a10 a11) fun r => match r with
     | .v0 r13 => some (.v0 (o.len r13) 0))
theorem f121_call (o : Ops) (ho : o = stdOps) (fuel : Nat) (a0 : ByteArray) (a1 : List AV) (a2 a3 a4 a5 a6 a7 a8 : Int) (a9 : Bool) (a10 a11 : List AV) {R : F121R} (H : f121 o fuel a0 a1 a2 a3 a4 a5 a6 a7 a8 a9 a10 a11 = some R) (K : AV → List Ent → Prop) (E : AV → List Ent → Prop) (h : K R.av (F121R.hp a1 a2 a3 a4 a5 a6 a7 a8 a9 a10 a11 R)) : CallA Try.prog 121 [.ptr 1 0, .str a0] [.fam 0 a1, .var [.vs 2 2 a2 a3 a4, .vs 3 3 a5 a6 a7, .int .i64 a8, .bool a9], .vec 2 a10, .vec 3 a11] K E := by
  refine call_wk fun K' hK => ?_
  refine call_keep (n₀ := 4) tab_ok Try.func121 rfl rfl rfl rfl ?_
  intro J hJ
  obtain rfl : o = J.o := by rw [ho, hJ]; rfl
  unfold f121 at H
  cbv
  repeat' (first
    | ((with_reducible refine awp_go2 ?_); cbv)
    | (refine KeepQ.mk [] (by decide) ?_; cbv; cases H; refine hK _ _ _ _ ?_ ?_ rfl h <;> cbv)
    | (refine ifB_go H ?_ ?_ <;> clear H <;> intro hh H)
    | (obtain ⟨R, hR, H2⟩ := bindR_go H; refine call_in hJ [0, 1, 2, 3] (by decide) rfl rfl rfl (f145_call _ ho _ _ _ _ _ _ _ _ _ _ _ _ _ hR _ _ ?_); clear H hR; rcases R with ⟨_⟩; all_goals (replace H := H2; clear H2; (try dsimp only at H); cbv))
    | (obtain ⟨R, hR, H2⟩ := bindR_go H; refine call_in hJ [0, 1, 2, 3] (by decide) rfl rfl rfl (f144_call _ ho _ _ _ _ _ _ _ _ _ _ _ _ _ hR _ _ ?_); clear H hR; rcases R with ⟨_⟩; all_goals (replace H := H2; clear H2; (try dsimp only at H); cbv)))
end Go.Proofs.Ytjdbmfipciadfaa.A
namespace Go.Proofs.Ytjdbmfipciadfaa.A
open Go Go.Pt
set_option maxHeartbeats 4000000
set_option maxRecDepth 100000
inductive F122R where
  | v0 (y0 : List AV) (y1 : Int)
def F122R.av : F122R → AV
  | .v0 y0 y1 => .tup [.sl 1 y0 .no, .int .i64 y1]
def F122R.hp (a3 : List AV) (a4 a5 a6 a7 a8 a9 a10 : Int) (a11 : Bool) (a12 a13 : List AV) : F122R → List Ent
  | .v0 _ _ => [.fam 0 a3, .var [.vs 2 2 a4 a5 a6, .vs 3 3 a7 a8 a9, .int .i64 a10, .bool a11], .vec 2 a12, .vec 3 a13]
noncomputable def f122 (o : Ops) (fuel : Nat) (a0 : ByteArray) (a1 a2 : Int) (a3 : List AV) (a4 a5 a6 a7 a8 a9 a10 : Int) (a11 : Bool) (a12 a13 : List AV) : Option F122R :=
  bindR (f144 o fuel a0 a3 a4 a5 a6 a7 a8 a9 a10 a11 a12 a13) fun r => match r with
  | .v0 r14 => ifB (o.bnot (o.cmp .eql r14 0))
    (some (.v0 [] r14))
    (bindR (f145 o fuel a0 a3 a4 a5 a6 a7 a8 a9 a10 a11 a12 a13) fun r => match r with
     | .v0 r15 => ifB (o.pick (o.pick (o.pick (o.cmp .lss a2 0) true (o.cmp .lss a1 0)) true (o.cmp .gtr a1 (o.len r15))) true (o.cmp .gtr a2 (o.ar .sub .i64 (o.len r15) a1)))
       (some (.v0 [] 33))
       (req (o.le 0 a1) <|
        req (o.le a1 (o.ar .add .i64 a1 a2)) <|
        req (o.le (o.ar .add .i64 a1 a2) (o.len r15)) <|
        req (o.room [] (o.sub r15 a1 (o.ar .add .i64 a1 a2)) 1) <|
        some (.v0 (o.apnd [] (o.sub r15 a1 (o.ar .add .i64 a1 a2))) 0)))
theorem f122_call (o : Ops) (ho : o = stdOps) (fuel : Nat) (a0 : ByteArray) (a1 a2 : Int) (a3 : List AV) (a4 a5 a6 a7 a8 a9 a10 : Int) (a11 : Bool) (a12 a13 : List AV) {R : F122R} (H : f122 o fuel a0 a1 a2 a3 a4 a5 a6 a7 a8 a9 a10 a11 a12 a13 = some R) (K : AV → List Ent → Prop) (E : AV → List Ent → Prop) (h : K R.av (F122R.hp a3 a4 a5 a6 a7 a8 a9 a10 a11 a12 a13 R)) : CallA Try.prog 122 [.ptr 1 0, .str a0, .int .i64 a1, .int .i64 a2] [.fam 0 a3, .var [.vs 2 2 a4 a5 a6, .vs 3 3 a7 a8 a9, .int .i64 a10, .bool a11], .vec 2 a12, .vec 3 a13] K E := by
  refine call_wk fun K' hK => ?_
  refine call_keep (n₀ := 4) tab_ok Try.func122 rfl rfl rfl rfl ?_
  intro J hJ
  obtain rfl : o = J.o := by rw [ho, hJ]; rfl
  unfold f122 at H
  cbv
  repeat' (first
    | ((with_reducible refine awp_go2 ?_); cbv)
    | with_reducible exact id
    | (refine KeepQ.mk [] (by decide) ?_; cbv; cases H; refine hK _ _ _ _ ?_ ?_ rfl h <;> cbv)
    | (refine ifB_go H ?_ ?_ <;> clear H <;> intro hh H)
    | (refine req_go H ?_; clear H; intro hh H)
    | (obtain ⟨R, hR, H2⟩ := bindR_go H; refine call_in hJ [0, 1, 2, 3] (by decide) rfl rfl rfl (f145_call _ ho _ _ _ _ _ _ _ _ _ _ _ _ _ hR _ _ ?_); clear H hR; rcases R with ⟨_⟩; all_goals (replace H := H2; clear H2; (try dsimp only at H); cbv))
    | (obtain ⟨R, hR, H2⟩ := bindR_go H; refine call_in hJ [0, 1, 2, 3] (by decide) rfl rfl rfl (f144_call _ ho _ _ _ _ _ _ _ _ _ _ _ _ _ hR _ _ ?_); clear H hR; rcases R with ⟨_⟩; all_goals (replace H := H2; clear H2; (try dsimp only at H); cbv))
    | with_reducible refine And.intro ?_ ?_)
inductive F123R where
  | v0 (y0 : List AV) (y1 : Int)
def F123R.av : F123R → AV
  | .v0 y0 y1 => .tup [.sl 1 y0 .no, .int .i64 y1]
def F123R.hp (a1 : List AV) (a2 a3 a4 a5 a6 a7 a8 : Int) (a9 : Bool) (a10 a11 : List AV) : F123R → List Ent
  | .v0 _ _ => [.fam 0 a1, .var [.vs 2 2 a2 a3 a4, .vs 3 3 a5 a6 a7, .int .i64 a8, .bool a9], .vec 2 a10, .vec 3 a11]
noncomputable def f123 (o : Ops) (fuel : Nat) (a0 : ByteArray) (a1 : List AV) (a2 a3 a4 a5 a6 a7 a8 : Int) (a9 : Bool) (a10 a11 : List AV) : Option F123R :=
  bindR (f144 o fuel a0 a1 a2 a3 a4 a5 a6 a7 a8 a9 a10 a11) fun r => match r with
  | .v0 r12 => ifB (o.bnot (o.cmp .eql r12 0))
    (some (.v0 [] r12))
    (bindR (f142 o fuel a0 a1 a2 a3 a4 a5 a6 a7 a8 a9 a10 a11) fun r => match r with
     | .v0 r13 => req (o.inb r13 a3) <|
       req (o.inb (o.sum a2 r13) (o.len a10)) <|
       getA (o.get a10 (o.sum a2 r13)) fun e => sh164 e fun _ v15 =>
       req (o.room [] v15 1) <|
       some (.v0 (o.apnd [] v15) 0))
theorem f123_call (o : Ops) (ho : o = stdOps) (fuel : Nat) (a0 : ByteArray) (a1 : List AV) (a2 a3 a4 a5 a6 a7 a8 : Int) (a9 : Bool) (a10 a11 : List AV) {R : F123R} (H : f123 o fuel a0 a1 a2 a3 a4 a5 a6 a7 a8 a9 a10 a11 = some R) (K : AV → List Ent → Prop) (E : AV → List Ent → Prop) (h : K R.av (F123R.hp a1 a2 a3 a4 a5 a6 a7 a8 a9 a10 a11 R)) : CallA Try.prog 123 [.ptr 1 0, .str a0] [.fam 0 a1, .var [.vs 2 2 a2 a3 a4, .vs 3 3 a5 a6 a7, .int .i64 a8, .bool a9], .vec 2 a10, .vec 3 a11] K E := by
  refine call_wk fun K' hK => ?_
  refine call_keep (n₀ := 4) tab_ok Try.func123 rfl rfl rfl rfl ?_
  intro J hJ
  obtain rfl : o = J.o := by rw [ho, hJ]; rfl
  unfold f123 at H
  cbv
  repeat' (first
    | ((with_reducible refine awp_go2 ?_); cbv)
    | (refine KeepQ.mk [] (by decide) ?_; cbv; cases H; refine hK _ _ _ _ ?_ ?_ rfl h <;> cbv)
    | (refine ifB_go H ?_ ?_ <;> clear H <;> intro hh H)
    | (refine req_go H ?_; clear H; intro hh H)
    | (refine sh164_get H ?_; clear H; intro _ _ he H; cbv)
    | (obtain ⟨R, hR, H2⟩ := bindR_go H; refine call_in hJ [0, 1, 2, 3] (by decide) rfl rfl rfl (f142_call _ ho _ _ _ _ _ _ _ _ _ _ _ _ _ hR _ _ ?_); clear H hR; rcases R with ⟨_⟩; all_goals (replace H := H2; clear H2; (try dsimp only at H); cbv))
    | (obtain ⟨R, hR, H2⟩ := bindR_go H; refine call_in hJ [0, 1, 2, 3] (by decide) rfl rfl rfl (f144_call _ ho _ _ _ _ _ _ _ _ _ _ _ _ _ hR _ _ ?_); clear H hR; rcases R with ⟨_⟩; all_goals (replace H := H2; clear H2; (try dsimp only at H); cbv)))
end Go.Proofs.Ytjdbmfipciadfaa.A
namespace Go.Proofs.Ytjdbmfipciadfaa.A
open Go Go.Pt
set_option maxHeartbeats 4000000
set_option maxRecDepth 100000
inductive F54R where
  | v0 (y0 : Bool) (y1 : List (AV × AV))
def F54R.av : F54R → AV
  | .v0 y0 _ => .bool y0
def F54R.hp (a6 : List AV) (a7 a8 a9 a10 : Int) (a11 : Bool) (a12 a13 a14 a15 a16 a17 a18 : Int) (a19 : Bool) (a21 a22 a23 : List AV) : F54R → List Ent
  | .v0 _ y1 => [.fam 0 a6, .var [.int .i64 a7, .mp 3, .vs 4 3 a8 a9 a10, .bool a11], .var [.vs 5 2 a12 a13 a14, .vs 6 3 a15 a16 a17, .int .i64 a18, .bool a19], .mp y1, .vec 3 a21, .vec 2 a22, .vec 3 a23]
inductive F54L0 where
  | x0
  | x1
noncomputable def f54_l0 (o : Ops) (fuel : Nat) (a1 : ByteArray) (r33 a6 : List AV) (a7 a8 a9 a10 : Int) (a11 : Bool) (r30 : List (AV × AV)) (a21 : List AV) (a12 a13 a14 a15 a16 a17 a18 : Int) (a19 : Bool) (a22 a23 : List AV) (a3 a4 a0 : Int) (a2 : ByteArray) (a5 : List AV) : Nat → Int → Option F54L0
  | 0, _ => none
  | n + 1, w54 =>
    ifB (o.cmp .lss w54 (o.len (o.apnd [.str a1] r33)))
    (req (o.inb w54 (o.len (o.apnd [.str a1] r33))) <|
     getA (o.get (o.apnd [.str a1] r33) w54) fun e => sh9 e fun v55 =>
     bindR (f38 o fuel v55 a6 a7 a8 a9 a10 a11 r30 a21) fun r => match r with
     | .v0 r56 r57 => bindR (f121 o fuel v55 a6 a12 a13 a14 a15 a16 a17 a18 a19 a22 a23) fun r => match r with
       | .v0 r58 r59 => bindR (f39 o fuel v55 0 r58 a6 a7 a8 a9 a10 a11 r30 a21) fun r => match r with
         | .v0 r60 r61 => bindR (f122 o fuel v55 0 r58 a6 a12 a13 a14 a15 a16 a17 a18 a19 a22 a23) fun r => match r with
           | .v0 r62 r63 => bindR (f41 o fuel v55 a6 a7 a8 a9 a10 a11 r30 a21) fun r => match r with
             | .v0 r64 r65 => bindR (f123 o fuel v55 a6 a12 a13 a14 a15 a16 a17 a18 a19 a22 a23) fun r => match r with
               | .v0 r66 r67 => bindR (f39 o fuel v55 a3 a4 a6 a7 a8 a9 a10 a11 r30 a21) fun r => match r with
                 | .v0 r68 r69 => bindR (f122 o fuel v55 a3 a4 a6 a12 a13 a14 a15 a16 a17 a18 a19 a22 a23) fun r => match r with
                   | .v0 r70 r71 => ifB (o.pick (o.bnot (o.cmp .eql r56 r58)) true (o.bnot (o.cmp .eql r57 r59)))
                     (some (.x0 ))
                     (bindR (f40 o fuel r60 r62 a6) fun r => match r with
                      | .v0 r72 => ifB (o.pick (o.bnot r72) true (o.bnot (o.cmp .eql r61 r63)))
                        (some (.x0 ))
                        (bindR (f40 o fuel r64 r66 a6) fun r => match r with
                         | .v0 r73 => ifB (o.pick (o.bnot r73) true (o.bnot (o.cmp .eql r65 r67)))
                           (some (.x0 ))
                           (bindR (f40 o fuel r68 r70 a6) fun r => match r with
                            | .v0 r74 => ifB (o.pick (o.bnot r74) true (o.bnot (o.cmp .eql r69 r71)))
                              (some (.x0 ))
                              (f54_l0 o fuel a1 r33 a6 a7 a8 a9 a10 a11 r30 a21 a12 a13 a14 a15 a16 a17 a18 a19 a22 a23 a3 a4 a0 a2 a5 n (o.ar .add .i64 w54 1))))))
    (some (.x1 ))
theorem f54_l0_go {J : Jd} {n₀ : Nat} (hJ : J = std Try.prog n₀) {o : Ops} (hJo : J.o = o) {fuel : Nat} {a1 : ByteArray} {r33 a6 : List AV} {a7 a8 a9 a10 : Int} {a11 : Bool} {r30 : List (AV × AV)} {a21 : List AV} {a12 a13 a14 a15 a16 a17 a18 : Int} {a19 : Bool} {a22 a23 : List AV} {a3 a4 a0 : Int} {a2 : ByteArray} {a5 : List AV} {w54i : Int} {α : Type} {k : F54L0 → Option α} {r : α} {c : Code} {Q : Ex → St → Prop} {s : St}
    (H : bindR (f54_l0 o fuel a1 r33 a6 a7 a8 a9 a10 a11 r30 a21 a12 a13 a14 a15 a16 a17 a18 a19 a22 a23 a3 a4 a0 a2 a5 fuel w54i) k = some r) (hn : n₀ ≤ 9) (hle : Le s ⟨[(64, .int .i64 w54i), (63, .int .i64 (o.len (o.apnd [.str a1] r33))), (62, .sl 1 (o.apnd [.str a1] r33) (.tip 8 (o.pos [.str a1] r33))), (5, .ptr 7 0), (1, .ptr 2 0), (0, .ptr 1 0)], [.fam 0 a6, .var [.int .i64 a7, .mp 3, .vs 4 3 a8 a9 a10, .bool a11], .var [.vs 5 2 a12 a13 a14, .vs 6 3 a15 a16 a17, .int .i64 a18, .bool a19], .mp r30, .vec 3 a21, .vec 2 a22, .vec 3 a23, .var [.int .i64 a0, .str a1, .str a2, .int .i64 a3, .int .i64 a4, .sl 1 a5 .no], .tip (o.pos [.str a1] r33)], 168⟩)
    (round : ∀ X, k X = some r → ∀ (n : Nat) (w54 : Int), f54_l0 o fuel a1 r33 a6 a7 a8 a9 a10 a11 r30 a21 a12 a13 a14 a15 a16 a17 a18 a19 a22 a23 a3 a4 a0 a2 a5 (n + 1) w54 = some X → ∀ N : St → Prop,
      (∀ (env : List (Nat × AV)) (w54' : Int) (v : List Ent), f54_l0 o fuel a1 r33 a6 a7 a8 a9 a10 a11 r30 a21 a12 a13 a14 a15 a16 a17 a18 a19 a22 a23 a3 a4 a0 a2 a5 n w54' = some X → wkEnv env [(64, .int .i64 w54'), (63, .int .i64 (o.len (o.apnd [.str a1] r33))), (62, .sl 1 (o.apnd [.str a1] r33) (.tip 8 (o.pos [.str a1] r33))), (5, .ptr 7 0), (1, .ptr 2 0), (0, .ptr 1 0)] → N ⟨env, [.fam 0 a6, .var [.int .i64 a7, .mp 3, .vs 4 3 a8 a9 a10, .bool a11], .var [.vs 5 2 a12 a13 a14, .vs 6 3 a15 a16 a17, .int .i64 a18, .bool a19], .mp r30, .vec 3 a21, .vec 2 a22, .vec 3 a23, .var [.int .i64 a0, .str a1, .str a2, .int .i64 a3, .int .i64 a4, .sl 1 a5 .no], .tip (o.pos [.str a1] r33)] ++ v, 168⟩) → awp J tab c (thenQ N Q) ⟨[(64, .int .i64 w54), (63, .int .i64 (o.len (o.apnd [.str a1] r33))), (62, .sl 1 (o.apnd [.str a1] r33) (.tip 8 (o.pos [.str a1] r33))), (5, .ptr 7 0), (1, .ptr 2 0), (0, .ptr 1 0)], [.fam 0 a6, .var [.int .i64 a7, .mp 3, .vs 4 3 a8 a9 a10, .bool a11], .var [.vs 5 2 a12 a13 a14, .vs 6 3 a15 a16 a17, .int .i64 a18, .bool a19], .mp r30, .vec 3 a21, .vec 2 a22, .vec 3 a23, .var [.int .i64 a0, .str a1, .str a2, .int .i64 a3, .int .i64 a4, .sl 1 a5 .no], .tip (o.pos [.str a1] r33)], 168⟩) : J.code (.loop c) Q s := by
  subst hJo
  obtain ⟨X, hX, HX⟩ := bindR_go H
  refine loop_at (β := Nat × Int) hJ tab_ok (fun | (_, w54) => ⟨[(64, .int .i64 w54), (63, .int .i64 (J.o.len (J.o.apnd [.str a1] r33))), (62, .sl 1 (J.o.apnd [.str a1] r33) (.tip 8 (J.o.pos [.str a1] r33))), (5, .ptr 7 0), (1, .ptr 2 0), (0, .ptr 1 0)], [.fam 0 a6, .var [.int .i64 a7, .mp 3, .vs 4 3 a8 a9 a10, .bool a11], .var [.vs 5 2 a12 a13 a14, .vs 6 3 a15 a16 a17, .int .i64 a18, .bool a19], .mp r30, .vec 3 a21, .vec 2 a22, .vec 3 a23, .var [.int .i64 a0, .str a1, .str a2, .int .i64 a3, .int .i64 a4, .sl 1 a5 .no], .tip (J.o.pos [.str a1] r33)], 168⟩) (fun | (n, w54) => f54_l0 J.o fuel a1 r33 a6 a7 a8 a9 a10 a11 r30 a21 a12 a13 a14 a15 a16 a17 a18 a19 a22 a23 a3 a4 a0 a2 a5 n w54 = some X) (fun | (n, _) => n) (fuel, w54i) hX hle (by rintro ⟨_, _⟩; exact hn) ?_
  rintro ⟨n, w54⟩ hb N hN
  rcases n with _ | n
  · exact none_go (show (none : Option F54L0) = some X from hb)
  exact round X HX n w54 hb N fun env w54' v h1 h2 => hN _ (n, w54') h1 (Nat.lt_succ_self n) ⟨h2, by first | (cbv; done) | (cbv; repeat' (first | exact trivial | exact rfl | apply And.intro)), rfl, rfl⟩
noncomputable def f54 (o : Ops) (fuel : Nat) (a0 : Int) (a1 a2 : ByteArray) (a3 a4 : Int) (a5 a6 : List AV) (a7 a8 a9 a10 : Int) (a11 : Bool) (a12 a13 a14 a15 a16 a17 a18 : Int) (a19 : Bool) (a20 : List (AV × AV)) (a21 a22 a23 : List AV) : Option F54R :=
  bindR (f32 o fuel a6 a7 a8 a9 a10 a11 a20 a21) fun r => match r with
  | .v0 r24 r25 => bindR (f119 o fuel a6 a12 a13 a14 a15 a16 a17 a18 a19 a22 a23) fun r => match r with
    | .v0 r26 => bindR (f118 o fuel r24 r26 a6) fun r => match r with
      | .v0 r27 => ifB (o.bnot (o.bnot r27))
        (bindR (f35 o fuel a6 a7 a8 a9 a10 a11 r25 a21) fun r => match r with
         | .v0 r28 => ifB (o.bnot (o.pick (o.bnot r27) true (o.bnot (o.cmp .eql r28 a16))))
           (bindR (f52 o fuel a6 a7 a8 a9 a10 a11 r25 a21) fun r => match r with
            | .v0 r29 r30 => bindR (f120 o fuel a6 a12 a13 a14 a15 a16 a17 a18 a19 a22 a23) fun r => match r with
              | .v0 r31 => ifB (o.bnot (o.pick (o.pick (o.bnot r27) true (o.bnot (o.cmp .eql r28 a16))) true (o.bnot (o.cmp .eql r29 r31))))
                (bindR (f67 o fuel a6 a7 a8 a9 a10 a11 r30 a21) fun r => match r with
                 | .v0 r32 => ifB (o.pick (o.pick (o.pick (o.bnot r27) true (o.bnot (o.cmp .eql r28 a16))) true (o.bnot (o.cmp .eql r29 r31))) true (o.same r32 a19))
                   (some (.v0 false r30))
                   (bindR (f119 o fuel a6 a12 a13 a14 a15 a16 a17 a18 a19 a22 a23) fun r => match r with
                    | .v0 r33 => req (o.room [.str a1] r33 16) <|
                      bindR (f54_l0 o fuel a1 r33 a6 a7 a8 a9 a10 a11 r30 a21 a12 a13 a14 a15 a16 a17 a18 a19 a22 a23 a3 a4 a0 a2 a5 fuel 0) fun r => match r with
                      | .x0  => some (.v0 false r30)
                      | .x1  => some (.v0 true r30)))
                (some (.v0 false r30)))
           (some (.v0 false r25)))
        (some (.v0 false r25))
theorem f54_call (o : Ops) (ho : o = stdOps) (fuel : Nat) (a0 : Int) (a1 a2 : ByteArray) (a3 a4 : Int) (a5 a6 : List AV) (a7 a8 a9 a10 : Int) (a11 : Bool) (a12 a13 a14 a15 a16 a17 a18 : Int) (a19 : Bool) (a20 : List (AV × AV)) (a21 a22 a23 : List AV) {R : F54R} (H : f54 o fuel a0 a1 a2 a3 a4 a5 a6 a7 a8 a9 a10 a11 a12 a13 a14 a15 a16 a17 a18 a19 a20 a21 a22 a23 = some R) (K : AV → List Ent → Prop) (E : AV → List Ent → Prop) (h : K R.av (F54R.hp a6 a7 a8 a9 a10 a11 a12 a13 a14 a15 a16 a17 a18 a19 a21 a22 a23 R)) : CallA Try.prog 54 [.ptr 1 0, .ptr 2 0, .agg [.int .i64 a0, .str a1, .str a2, .int .i64 a3, .int .i64 a4, .sl 1 a5 .no]] [.fam 0 a6, .var [.int .i64 a7, .mp 3, .vs 4 3 a8 a9 a10, .bool a11], .var [.vs 5 2 a12 a13 a14, .vs 6 3 a15 a16 a17, .int .i64 a18, .bool a19], .mp a20, .vec 3 a21, .vec 2 a22, .vec 3 a23] K E := by
  refine call_wk fun K' hK => ?_
  refine call_keep (n₀ := 7) tab_ok Try.func54 rfl rfl rfl rfl ?_
  intro J hJ
  obtain rfl : o = J.o := by rw [ho, hJ]; rfl
  unfold f54 at H
  cbv
  repeat' (first
    | ((with_reducible first | refine awp_go2 ?_ | refine aops_go2 ?_ | refine strip_go2 ?_); cbv)
    | (with_reducible refine hold_go hJ ?_; cbv)
    | with_reducible exact id
    | exact trivial
    | with_reducible exact rfl
    | (cases H; replace H := HX0; clear HX0; (try dsimp only at H))
    | (refine KeepQ.mk [] (by decide) ?_; cbv; cases H; refine hK _ _ _ _ ?_ ?_ rfl h <;> cbv)
    | (refine hN0 _ _ _ H ?_; with_reducible refine wkEnv_go2 ?_; cbv)
    | (first | refine known_t (by assumption) ?_ | refine known_y (by assumption) ?_)
    | (first | refine known_t (kn_pick_t ho (ku_bnot_f ho (by assumption)) rfl) ?_ | refine known_y (kn_pick_t ho (ku_bnot_f ho (by assumption)) rfl) ?_)
    | (first | refine known_f (by assumption) ?_ | refine known_x (by assumption) ?_)
    | (first | refine known_f (kn_bnot_f ho (kn_pick_t ho (ku_bnot_f ho (by assumption)) rfl)) ?_ | refine known_x (kn_bnot_f ho (kn_pick_t ho (ku_bnot_f ho (by assumption)) rfl)) ?_)
    | (first | refine known_t (kn_pick_t ho (kn_pick_t ho (ku_bnot_f ho (by assumption)) rfl) rfl) ?_ | refine known_y (kn_pick_t ho (kn_pick_t ho (ku_bnot_f ho (by assumption)) rfl) rfl) ?_)
    | (first | refine known_f (kn_bnot_f ho (kn_pick_t ho (kn_pick_t ho (ku_bnot_f ho (by assumption)) rfl) rfl)) ?_ | refine known_x (kn_bnot_f ho (kn_pick_t ho (kn_pick_t ho (ku_bnot_f ho (by assumption)) rfl) rfl)) ?_)
    | (first | refine known_t (kn_pick_t ho (kn_pick_t ho (kn_pick_t ho (ku_bnot_f ho (by assumption)) rfl) rfl) rfl) ?_ | refine known_y (kn_pick_t ho (kn_pick_t ho (kn_pick_t ho (ku_bnot_f ho (by assumption)) rfl) rfl) rfl) ?_)
    | (refine ifB_go H ?_ ?_ <;> clear H <;> intro hh H)
    | (refine ifB_og H ?_ ?_ <;> clear H <;> intro hh H)
    | (refine req_go H ?_; clear H; intro hh H)
    | (refine sh9_get H ?_; clear H; intro _ he H; cbv)
    | (obtain ⟨R, hR, H2⟩ := bindR_go H; refine call_in hJ [0] (by decide) rfl rfl rfl (f40_call _ ho _ _ _ _ hR _ _ ?_); clear H hR; rcases R with ⟨_⟩; all_goals (replace H := H2; clear H2; (try dsimp only at H); cbv))
    | (obtain ⟨R, hR, H2⟩ := bindR_go H; refine call_in hJ [0, 2, 5, 6] (by decide) rfl rfl rfl (f122_call _ ho _ _ _ _ _ _ _ _ _ _ _ _ _ _ _ hR _ _ ?_); clear H hR; rcases R with ⟨_, _⟩; all_goals (replace H := H2; clear H2; (try dsimp only at H); cbv))
    | (obtain ⟨R, hR, H2⟩ := bindR_go H; refine call_in hJ [0, 1, 3, 4] (by decide) rfl rfl rfl (f39_call _ ho _ _ _ _ _ _ _ _ _ _ _ _ hR _ _ ?_); clear H hR; rcases R with ⟨_, _⟩; all_goals (replace H := H2; clear H2; (try dsimp only at H); cbv))
    | (obtain ⟨R, hR, H2⟩ := bindR_go H; refine call_in hJ [0, 2, 5, 6] (by decide) rfl rfl rfl (f123_call _ ho _ _ _ _ _ _ _ _ _ _ _ _ _ hR _ _ ?_); clear H hR; rcases R with ⟨_, _⟩; all_goals (replace H := H2; clear H2; (try dsimp only at H); cbv))
    | (obtain ⟨R, hR, H2⟩ := bindR_go H; refine call_in hJ [0, 1, 3, 4] (by decide) rfl rfl rfl (f41_call _ ho _ _ _ _ _ _ _ _ _ _ hR _ _ ?_); clear H hR; rcases R with ⟨_, _⟩; all_goals (replace H := H2; clear H2; (try dsimp only at H); cbv))
    | (obtain ⟨R, hR, H2⟩ := bindR_go H; refine call_in hJ [0, 2, 5, 6] (by decide) rfl rfl rfl (f121_call _ ho _ _ _ _ _ _ _ _ _ _ _ _ _ hR _ _ ?_); clear H hR; rcases R with ⟨_, _⟩; all_goals (replace H := H2; clear H2; (try dsimp only at H); cbv))
    | (obtain ⟨R, hR, H2⟩ := bindR_go H; refine call_in hJ [0, 1, 3, 4] (by decide) rfl rfl rfl (f38_call _ ho _ _ _ _ _ _ _ _ _ _ hR _ _ ?_); clear H hR; rcases R with ⟨_, _⟩; all_goals (replace H := H2; clear H2; (try dsimp only at H); cbv))
    | (obtain ⟨R, hR, H2⟩ := bindR_go H; refine call_in hJ [0, 2, 5, 6] (by decide) rfl rfl rfl (f119_call _ ho _ _ _ _ _ _ _ _ _ _ _ _ hR _ _ ?_); clear H hR; rcases R with ⟨_⟩; all_goals (replace H := H2; clear H2; (try dsimp only at H); cbv))
    | (obtain ⟨R, hR, H2⟩ := bindR_go H; refine call_in hJ [0, 1, 3, 4] (by decide) rfl rfl rfl (f67_call _ ho _ _ _ _ _ _ _ _ _ hR _ _ ?_); clear H hR; rcases R with ⟨_⟩; all_goals (replace H := H2; clear H2; (try dsimp only at H); cbv))
    | (obtain ⟨R, hR, H2⟩ := bindR_go H; refine call_in hJ [0, 2, 5, 6] (by decide) rfl rfl rfl (f120_call _ ho _ _ _ _ _ _ _ _ _ _ _ _ hR _ _ ?_); clear H hR; rcases R with ⟨_⟩; all_goals (replace H := H2; clear H2; (try dsimp only at H); cbv))
    | (obtain ⟨R, hR, H2⟩ := bindR_go H; refine call_in hJ [0, 1, 3, 4] (by decide) rfl rfl rfl (f52_call _ ho _ _ _ _ _ _ _ _ _ hR _ _ ?_); clear H hR; rcases R with ⟨_, _⟩; all_goals (replace H := H2; clear H2; (try dsimp only at H); cbv))
    | (obtain ⟨R, hR, H2⟩ := bindR_go H; refine call_in hJ [0, 1, 3, 4] (by decide) rfl rfl rfl (f35_call _ ho _ _ _ _ _ _ _ _ _ hR _ _ ?_); clear H hR; rcases R with ⟨_⟩; all_goals (replace H := H2; clear H2; (try dsimp only at H); cbv))
    | (obtain ⟨R, hR, H2⟩ := bindR_go H; refine call_in hJ [0] (by decide) rfl rfl rfl (f118_call _ ho _ _ _ _ hR _ _ ?_); clear H hR; rcases R with ⟨_⟩; all_goals (replace H := H2; clear H2; (try dsimp only at H); cbv))
    | (obtain ⟨R, hR, H2⟩ := bindR_go H; refine call_in hJ [0, 1, 3, 4] (by decide) rfl rfl rfl (f32_call _ ho _ _ _ _ _ _ _ _ _ hR _ _ ?_); clear H hR; rcases R with ⟨_, _⟩; all_goals (replace H := H2; clear H2; (try dsimp only at H); cbv))
    | (refine f54_l0_go hJ (o := J.o) rfl H (by decide) ⟨?_, ?_, rfl, rfl⟩ ?_
       · cbv; (repeat' (first | exact trivial | exact rfl | apply And.intro))
       · cbv; (repeat' (first | exact trivial | exact rfl | apply And.intro))
       clear H
       intro X0 HX0 n _ H Nx0 hN0
       rw [f54_l0] at H
       cbv)
    | with_reducible refine And.intro ?_ ?_
    | (intro _; assumption)
    | (intro hx; first | exact tf_absurd hx (by assumption) | exact tf_absurd (by assumption) hx)
    | (intro _; clear H h; (try clear hN0); (try clear HX0); simp only [ho, stdOps] at *; simp_all))
end Go.Proofs.Ytjdbmfipciadfaa.A
namespace Go.Proofs.Ytjdbmfipciadfaa.A
open Go Go.Pt
set_option maxHeartbeats 4000000
set_option maxRecDepth 100000
end Go.Proofs.Ytjdbmfipciadfaa.A
namespace Go.Proofs.Ytjdbmfipciadfaa.A
open Go Go.Pt
def pav (κ : ByteArray → Nat) (p : Pw) : AV := .agg [.fp 0 (κ p.n) 0, .int .i64 p.i, .sl 1 p.b .no]
def fav (b : List AV) : AV := .agg [.sl 1 b .no]
def eav (κ : ByteArray → Nat) (x : ByteArray) : AV × AV := (.str x, .fp 0 (κ x) 0)
structure Rs (fs : List (List AV)) (κ : ByteArray → Nat) (m : Mo) (lo n N : Int) (es : List (AV × AV)) (row : List AV) : Prop where
  lo0 : lo = 0
  len : n = m.P.length
  cap : n ≤ N
  row : ∃ rest, row = m.P.map (pav κ) ++ rest
  es : ∃ ns : List ByteArray, es = ns.map (eav κ) ∧ ns.Perm m.names
  inj : ∀ a ∈ m.names, ∀ b ∈ m.names, κ a = κ b → a = b
  get : ∀ x ∈ m.L, fs[κ x.1]? = some x.2
section
variable {κ : ByteArray → Nat}
theorem keq_str (a b : ByteArray) : keq (.str a) (.str b) = decide (a = b) := by
  show (a == b && true) = _
  rw [Bool.and_true]
  exact seq_is a b
theorem find_e {n : ByteArray} : ∀ {ns : List ByteArray}, stdOps.mfind (ns.map (eav κ)) (.str n) = if n ∈ ns then some (.fp 0 (κ n) 0) else none
  | [] => rfl
  | x :: ns => by
    show (if keq (.str n) (.str x) = true then some (.fp 0 (κ x) 0) else stdOps.mfind (ns.map (eav κ)) (.str n)) = _
    rw [keq_str, find_e]
    by_cases e : n = x
    · subst e; simp
    · simp [e]
theorem put_e {n : ByteArray} {k : Nat} : ∀ {ns : List ByteArray}, n ∉ ns → stdOps.mput (ns.map (eav κ)) (.str n) (.fp 0 k 0) = ns.map (eav κ) ++ [(.str n, .fp 0 k 0)]
  | [], _ => rfl
  | x :: ns, h => by
    show (if keq (.str n) (.str x) = true then _ else eav κ x :: stdOps.mput (ns.map (eav κ)) (.str n) (.fp 0 k 0)) = _
    rw [keq_str, decide_eq_false (fun e => h (by rw [e]; exact List.mem_cons_self)), if_neg (by simp), put_e fun hm => h (List.mem_cons_of_mem _ hm)]
    rfl
theorem putr_e {n : ByteArray} {k : Nat} : ∀ {ns : List ByteArray}, n ∈ ns → ns.Nodup → stdOps.mput (ns.map (eav κ)) (.str n) (.fp 0 k 0) = ns.map (eav fun x => if x = n then k else κ x)
  | x :: ns, h, hn => by
    rw [List.nodup_cons] at hn
    show (if keq (.str n) (.str x) = true then (AV.str n, AV.fp 0 k 0) :: ns.map (eav κ) else eav κ x :: stdOps.mput (ns.map (eav κ)) (.str n) (.fp 0 k 0)) = _
    rw [keq_str]
    by_cases e : n = x
    · subst e
      rw [decide_eq_true rfl, if_pos rfl, List.map_cons]
      congr 1
      · simp [eav]
      · refine List.map_congr_left fun y hy => ?_
        have : y ≠ n := fun e => hn.1 (e ▸ hy)
        simp [eav, this]
    · rw [decide_eq_false e, if_neg (by simp), putr_e (by simpa [e] using h) hn.2, List.map_cons]
      congr 1
      have : x ≠ n := fun e' => e e'.symm
      simp [eav, this]
theorem del_e {n : ByteArray} : ∀ {ns : List ByteArray}, stdOps.mdel (ns.map (eav κ)) (.str n) = (ns.erase n).map (eav κ)
  | [] => rfl
  | x :: ns => by
    show (if keq (.str n) (.str x) = true then ns.map (eav κ) else eav κ x :: stdOps.mdel (ns.map (eav κ)) (.str n)) = _
    rw [keq_str, List.erase_cons]
    by_cases e : n = x
    · subst e; simp
    · rw [decide_eq_false e, if_neg (by simp), del_e]
      have : (x == n) = false := by
        rw [Bool.eq_false_iff]
        intro h
        exact e (by simpa using h : x = n).symm
      rw [this]; rfl
theorem mok_e {ns : List ByteArray} : stdOps.mok false [.str] (ns.map (eav κ)) := by
  intro x hx
  obtain ⟨y, _, rfl⟩ := List.mem_map.1 hx
  rfl
theorem findE {α : Type} {n : ByteArray} {ns : List ByteArray} {k : Int → Option α} {z : Option α} :
    req (stdOps.mok false [.str] (ns.map (eav κ))) (findA (stdOps.mfind (ns.map (eav κ)) (.str n)) (fun e => sh142 e k) z) = if n ∈ ns then k (κ n) else z := by
  rw [req_eq _ mok_e, find_e]
  by_cases h : n ∈ ns
  · rw [if_pos h, if_pos h]; rfl
  · rw [if_neg h, if_neg h]; rfl
end
theorem f96_is {fuel : Nat} {A : List AV} {most lo n N : Int} {down : Bool} {es : List (AV × AV)} {row : List AV} : f96 stdOps fuel A most lo n N down es row = some (.v0 false) := rfl
def canI (m : Mo) : Int := if m.down then 32 else 0
theorem f97_is {fuel : Nat} {A : List AV} {most lo n N : Int} {down : Bool} {es : List (AV × AV)} {row : List AV} : f97 stdOps fuel A most lo n N down es row = some (.v0 (if down then 32 else 0)) := by
  unfold f97
  rw [bindR_eq f96_is]
  cases down <;> rfl
def findV (κ : ByteArray → Nat) (m : Mo) (name : ByteArray) : F92R := if m.down then .v0 32 else if name ∈ m.names then .v1 (κ name) else .v0 4
theorem f92_is {fuel : Nat} {fs : List (List AV)} {κ : ByteArray → Nat} {m : Mo} {lo n N : Int} {es : List (AV × AV)} {row : List AV} {A : List AV} {most : Int} {name : ByteArray} (h : Rs fs κ m lo n N es row) :
    f92 stdOps fuel name A most lo n N m.down es row = some (findV κ m name) := by
  obtain ⟨ns, rfl, hp⟩ := h.es
  unfold f92 findV
  rw [bindR_eq f97_is]
  cases m.down with
  | true => rfl
  | false =>
    show ifB (stdOps.bnot (stdOps.cmp .eql 0 0)) _ _ = _
    refine ifB_is_f rfl ?_
    rw [findE]
    have : name ∈ ns ↔ name ∈ m.names := hp.mem_iff
    by_cases hm : name ∈ m.names
    · rw [if_pos (this.2 hm), if_pos hm]; rfl
    · rw [if_neg (fun e => hm (this.1 e)), if_neg hm]; rfl
theorem f99_is {fuel : Nat} {b x : List AV} {i : Int} {A : List AV} (h0 : 0 ≤ i) (h1 : i ≤ b.length) (hb : b.length ≤ 2 ^ 30) (hx : x.length ≤ 2 ^ 30) : f99 stdOps fuel b i x A = some (.v0 (ov b i.toNat x)) := by
  unfold f99
  have ha : stdOps.ar .add .i64 i (stdOps.len x) = i + x.length := wr_i64 (by rw [len_is]; omega) (by rw [len_is]; omega)
  rw [ha]
  have hm0 : 0 ≤ stdOps.mn (stdOps.len b) (i + x.length) := by
    show 0 ≤ (if i + (x.length : Int) < (b.length : Int) then i + (x.length : Int) else (b.length : Int))
    split <;> omega
  have hm1 : stdOps.mn (stdOps.len b) (i + x.length) ≤ b.length := by
    show (if i + (x.length : Int) < (b.length : Int) then i + (x.length : Int) else (b.length : Int)) ≤ b.length
    split <;> omega
  have hd : stdOps.drop b (stdOps.mn (stdOps.len b) (i + x.length)) = b.drop (i.toNat + x.length) := by
    show b.drop (if i + (x.length : Int) < (b.length : Int) then i + (x.length : Int) else (b.length : Int)).toNat = _
    split
    · congr 1; omega
    · rw [List.drop_of_length_le (by omega), List.drop_of_length_le (by omega)]
  have hs : stdOps.sub b 0 i = b.take i.toNat := rfl
  refine req_is h0 <| req_is h1 <| req_is hm0 <| req_is hm1 ?_
  rw [hd, hs]
  have hj : f139 stdOps fuel [.sl 1 (b.take i.toNat) .no, .sl 1 x .no, .sl 1 (b.drop (i.toNat + x.length)) .no] = some (.v0 (ov b i.toNat x)) := by
    have := joinA_map [b.take i.toNat, x, b.drop (i.toNat + x.length)]
    unfold f139
    simp only [List.map_cons, List.map_nil, slV1] at this
    rw [this]
    have he : [b.take i.toNat, x, b.drop (i.toNat + x.length)].flatten = ov b i.toNat x := by simp [ov]
    simp only [he]
    rw [if_pos ⟨by rw [ov_length (by omega)]; omega, by simp⟩]
  exact bindR_is hj rfl
theorem f95_is {fuel : Nat} {l A : List AV} (hl : l.length ≤ 2 ^ 40) : f95 stdOps fuel l A = some (.v0 l) := by
  unfold f95
  refine isNil_same (fun e => by subst e; rfl) ?_ fun e => ?_
  · exact (req_eq _ (show (([] : List AV).length + l.length) * 1 ≤ 2 ^ 47 by simp; omega))
  · subst e
    exact (req_eq _ (show (([] : List AV).length + ([] : List AV).length) * 1 ≤ 2 ^ 47 by simp))
section
variable {fs : List (List AV)} {κ : ByteArray → Nat} {m : Mo} {lo n N : Int} {es : List (AV × AV)} {row : List AV}
theorem Rs.rowget (h : Rs fs κ m lo n N es row) {i : Nat} (hi : i < m.P.length) : stdOps.get row (stdOps.sum lo (i : Int)) = some (pav κ m.P[i]) ∧ stdOps.inb (stdOps.sum lo (i : Int)) (stdOps.len row) ∧ stdOps.inb (i : Int) n := by
  obtain ⟨rest, rfl⟩ := h.row
  have h0 := h.lo0
  subst h0
  refine ⟨?_, ?_, ?_⟩
  · show (m.P.map (pav κ) ++ rest)[((0 : Int) + i).toNat]? = _
    rw [show ((0 : Int) + i).toNat = i by omega, List.getElem?_append_left (by simpa using hi)]
    simp [hi]
  · show (0 : Int) ≤ 0 + i ∧ (0 : Int) + i < ((m.P.map (pav κ) ++ rest).length : Int)
    simp; omega
  · show (0 : Int) ≤ i ∧ (i : Int) < n
    have := h.len
    omega
theorem f93_l0_is (hI : Iv m) (h : Rs fs κ m lo n N es row) (hP : m.P.length < 2 ^ 42) {x : ByteArray × List AV} (hx : x ∈ m.L) {fuel : Nat} {A : List AV} {a5 a2 : Int} {a6 : Bool} {a7 : List (AV × AV)} :
    ∀ (rest pre : List Pw) (f : Nat) (w : List AV), m.P = pre ++ rest → rest.length < f → okW rest x.1 w → (seen rest x.1 w).length ≤ 2 ^ 22 →
      f93_1_l0 stdOps fuel n lo row (κ x.1) A a5 a2 a6 a7 f w pre.length = some (.x0 (seen rest x.1 w))
  | [], pre, f + 1, w, hp, hf, hok, hl => by
    have hn := h.len
    rw [hp, List.append_nil] at hn
    rw [f93_1_l0, hn, ifB_f (lss_f (by omega))]
    rfl
  | p :: rest, pre, f + 1, w, hp, hf, hok, hl => by
    have hi : pre.length < m.P.length := by rw [hp]; simp
    have hpi : m.P[pre.length] = p := by simp [hp]
    obtain ⟨g1, g2, g3⟩ := h.rowget hi
    rw [hpi] at g1
    have hn := h.len
    have ih := f93_l0_is hI h hP hx (fuel := fuel) (A := A) (a5 := a5) (a2 := a2) (a6 := a6) (a7 := a7) rest (pre ++ [p]) f (seen1 x.1 w p) (by simpa using hp) (by simp at hf; omega) hok.2 hl
    have hidx : stdOps.ar .add .i64 (pre.length : Int) 1 = ((pre ++ [p]).length : Int) := by rw [add1 (by omega)]; simp
    rw [f93_1_l0]
    refine ifB_is_t (by rw [hn]; exact lss_t hi) <| req_is g3 <| req_is g2 <| getA_is g1 ?_
    simp only [pav, sh150]
    rw [hidx, eql_is]
    have hpn : p ∈ m.P := hpi ▸ List.getElem_mem hi
    by_cases e : p.n = x.1
    · refine ifB_is_t (by rw [e]; simp) ?_
      have hle := hok.1 e
      have hw := seen_le hok
      have hpb := hI.pb p hpn
      refine bindR_is (f99_is hle.1 hle.2 (by omega) (by omega)) ?_
      have hs : seen1 x.1 w p = ov w p.i.toNat p.b := if_pos e
      have hss : seen (p :: rest) x.1 w = seen rest x.1 (seen1 x.1 w p) := rfl
      rw [hss, ← hs]; exact ih
    · refine ifB_is_f ?_ ?_
      · rw [decide_eq_false_iff_not]
        intro e2
        exact e (h.inj _ (hI.pn p hpn) _ (List.mem_map_of_mem hx) (by omega))
      · have hs : seen1 x.1 w p = w := if_neg e
        have hss : seen (p :: rest) x.1 w = seen rest x.1 (seen1 x.1 w p) := rfl
        rw [hss]
        rw [hs] at ih ⊢; exact ih
theorem Rs.fget (h : Rs fs κ m lo n N es row) {x : ByteArray × List AV} (hx : x ∈ m.L) : stdOps.get (fs.map fav) (κ x.1 : Int) = some (fav x.2) ∧ stdOps.inb (κ x.1 : Int) (stdOps.len (fs.map fav)) := by
  have hg := h.get x hx
  refine ⟨?_, ?_⟩
  · show (fs.map fav)[((κ x.1 : Nat) : Int).toNat]? = _
    rw [show ((κ x.1 : Nat) : Int).toNat = κ x.1 by omega, List.getElem?_map, hg]; rfl
  · have := (List.getElem?_eq_some_iff.1 hg).1
    show (0 : Int) ≤ (κ x.1 : Nat) ∧ ((κ x.1 : Nat) : Int) < ((fs.map fav).length : Int)
    simp; omega
theorem f93_is (hI : Iv m) (h : Rs fs κ m lo n N es row) (hP : m.P.length < 2 ^ 42) {x : ByteArray × List AV} (hx : x ∈ m.L) {fuel : Nat} {most : Int} {down : Bool} (hf : m.P.length < fuel) :
    f93_1 stdOps fuel (κ x.1) (fs.map fav) most lo n N down es row = some (.v0 (seen m.P x.1 x.2)) := by
  obtain ⟨g1, g2⟩ := h.fget hx
  have hl := hI.seen_le hx
  unfold f93_1
  refine req_is g2 <| getA_is g1 ?_
  simp only [fav, sh147]
  refine bindR_is (f93_l0_is hI h hP hx m.P [] fuel x.2 rfl hf (hI.ok x hx) hl) ?_
  exact bindR_is (f95_is (l := seen m.P x.1 x.2) (by omega)) rfl
theorem Iv.sorted_names (hI : Iv m) {ns : List ByteArray} (hp : ns.Perm m.names) : sortS ns = m.names := by
  rw [sortS_perm hp]
  unfold sortS sortL
  have h2 : (m.names.map bl).Pairwise fun a b => decide (a ≤ b) = true := by
    unfold Mo.names
    rw [List.map_map, List.pairwise_map]
    refine hI.sorted.imp ?_
    intro a b hab
    rw [decide_eq_true_eq]
    exact List.le_of_lt hab
  rw [List.mergeSort_of_pairwise h2, List.map_map]
  conv => rhs; rw [← List.map_id m.names]
  exact List.map_congr_left fun x _ => lb_bl x
theorem names_is (hI : Iv m) (h : Rs fs κ m lo n N es row) {fuel : Nat} : f135 stdOps fuel es = some (.v0 (m.names.map nav) es) := by
  obtain ⟨ns, he, hp⟩ := h.es
  have hl : ns.length ≤ 4096 := by rw [hp.length_eq]; simp only [Mo.names, List.length_map]; exact hI.max
  have hn : NamesOk es ns := ⟨by rw [he, List.map_map]; rfl, by omega⟩
  unfold f135
  rw [namesS_is hn, hI.sorted_names hp]; rfl
theorem sum_perm {l k : List Nat} (h : l.Perm k) : l.sum = k.sum := by
  induction h with
  | nil => rfl
  | cons _ _ ih => simp [ih]
  | swap a b l => simp; omega
  | trans _ _ h1 h2 => exact h1.trans h2
theorem f52_l0_is (hI : Iv m) (h : Rs fs κ m lo n N es row) (hP : m.P.length < 2 ^ 42) {fuel : Nat} {most : Int} {down : Bool} (hf : m.P.length < fuel) :
    ∀ (rest pre : List (ByteArray × List AV)) (f : Nat) (w : Int), m.L = pre ++ rest → rest.length < f → w = most - (pre.map fun x => (seen m.P x.1 x.2).length).sum → 0 ≤ most → most ≤ 4194304 →
      f52_l0 stdOps fuel (m.names.map nav) es (fs.map fav) most lo n N down row f pre.length w = some (.x0 (most - m.used))
  | [], pre, f + 1, w, hp, hf', hw, h0, h1 => by
    have hl : stdOps.len (m.names.map nav) = (m.L.length : Int) := by simp [stdOps, Mo.names]
    rw [f52_l0, hl]
    refine ifB_is_f (lss_f (by rw [hp]; simp)) ?_
    rw [hw, Mo.used, hp, List.append_nil]
  | x :: rest, pre, f + 1, w, hp, hf', hw, h0, h1 => by
    have hi : pre.length < m.L.length := by rw [hp]; simp
    have hx : x ∈ m.L := by rw [hp]; simp
    have hl : stdOps.len (m.names.map nav) = (m.L.length : Int) := by simp [stdOps, Mo.names]
    have hg : stdOps.get (m.names.map nav) (pre.length : Int) = some (nav x.1) := by simp [stdOps, Mo.names, hp]
    obtain ⟨ns, he, hpm⟩ := h.es
    have hu := hI.left
    have hsum : (pre.map fun x => (seen m.P x.1 x.2).length).sum + (seen m.P x.1 x.2).length ≤ m.used := by
      rw [Mo.used, hp, List.map_append, List.sum_append, List.map_cons, List.sum_cons]; omega
    have hsl := hI.seen_le hx
    have hm4 := hI.max
    have hu2 : (m.used : Int) ≤ 4194304 := by have := hI.m1; omega
    have hsub : stdOps.ar .sub .i64 w (stdOps.len (seen m.P x.1 x.2)) = w - (seen m.P x.1 x.2).length := wr_i64 (by rw [len_is]; omega) (by rw [len_is]; omega)
    have ih := f52_l0_is hI h hP (most := most) (down := down) hf rest (pre ++ [x]) f (w - (seen m.P x.1 x.2).length) (by simpa using hp) (by simp at hf'; omega) (by rw [hw]; simp; omega) h0 h1
    have hidx : stdOps.ar .add .i64 (pre.length : Int) 1 = ((pre ++ [x]).length : Int) := by rw [add1 (by omega)]; simp
    rw [f52_l0, hl]
    refine ifB_is_t (lss_t hi) <| req_is (show (0 : Int) ≤ pre.length ∧ (pre.length : Int) < m.L.length by omega) <| getA_is hg ?_
    simp only [nav, sh9]
    rw [he, findE, if_pos (hpm.mem_iff.2 (List.mem_map_of_mem hx)), ← he]
    refine bindR_is (f93_is hI h hP hx hf) ?_
    simp only
    rw [hsub, hidx]; exact ih
theorem f52_is (hI : Iv m) (h : Rs fs κ m lo n N es row) (hP : m.P.length < 2 ^ 42) {fuel : Nat} {down : Bool} (hf : m.P.length < fuel) (hf2 : 5000 < fuel) :
    f52 stdOps fuel (fs.map fav) m.most lo n N down es row = some (.v0 m.left es) := by
  unfold f52
  have hm := hI.max
  refine bindR_is f96_is <| ifB_is_f rfl <| bindR_is (v := .v0) rfl <| bindR_is f96_is <| ifB_is_f rfl <| bindR_is (v := .v0) rfl <| bindR_is (names_is hI h) ?_
  have := f52_l0_is hI h hP (most := m.most) (down := down) hf m.L [] fuel m.most rfl (by omega) (by simp) hI.m0 hI.m1
  exact bindR_is this rfl
end
end Go.Proofs.Ytjdbmfipciadfaa.A
