/- Functions of the program and of the document's answer, as plain ones. Written by lift.py. -/import Derived.Test.YtjdbmfipciadfaaSy0
import Derived.Test.YtjdbmfipciadfaaSy1
namespace Go.Proofs.Ytjdbmfipciadfaa.A
open Go Go.Pt
set_option maxHeartbeats 4000000
set_option maxRecDepth 100000
inductive F41R where
  | v0 (y0 : List AV) (y1 : Int)
def F41R.av : F41R → AV
  | .v0 y0 y1 => .tup [.sl 1 y0 .no, .int .i64 y1]
def F41R.hp (a1 : List AV) (a2 a3 a4 a5 : Int) (a6 : Bool) (a7 : List (AV × AV)) (a8 : List AV) : F41R → List Ent
  | .v0 _ _ => [.fam 0 a1, .var [.int .i64 a2, .mp 2, .vs 3 3 a3 a4 a5, .bool a6], .mp a7, .vec 3 a8]
noncomputable def f41 (o : Ops) (fuel : Nat) (a0 : ByteArray) (a1 : List AV) (a2 a3 a4 a5 : Int) (a6 : Bool) (a7 : List (AV × AV)) (a8 : List AV) : Option F41R :=
  bindR (f92 o fuel a0 a1 a2 a3 a4 a5 a6 a7 a8) fun r => match r with
  | .v0 r9 => ifB (o.bnot (o.cmp .eql r9 0))
    (some (.v0 [] r9))
    (none)
  | .v1 r10 => ifB (o.bnot (o.cmp .eql 0 0))
    (some (.v0 [] 0))
    (req (o.inb r10 (o.len a1)) <|
     getA (o.get a1 r10) fun e => sh147 e fun v11 =>
     bindR (f95 o fuel v11 a1) fun r => match r with
     | .v0 r12 => some (.v0 r12 0))
theorem f41_call (o : Ops) (ho : o = stdOps) (fuel : Nat) (a0 : ByteArray) (a1 : List AV) (a2 a3 a4 a5 : Int) (a6 : Bool) (a7 : List (AV × AV)) (a8 : List AV) {R : F41R} (H : f41 o fuel a0 a1 a2 a3 a4 a5 a6 a7 a8 = some R) (K : AV → List Ent → Prop) (E : AV → List Ent → Prop) (h : K R.av (F41R.hp a1 a2 a3 a4 a5 a6 a7 a8 R)) : CallA Try.prog 41 [.ptr 1 0, .str a0] [.fam 0 a1, .var [.int .i64 a2, .mp 2, .vs 3 3 a3 a4 a5, .bool a6], .mp a7, .vec 3 a8] K E := by
  refine call_wk fun K' hK => ?_
  refine call_keep (n₀ := 4) tab_ok Try.func41 rfl rfl rfl rfl ?_
  intro J hJ
  obtain rfl : o = J.o := by rw [ho, hJ]; rfl
  unfold f41 at H
  cbv
  repeat' (first
    | ((with_reducible refine awp_go2 ?_); cbv)
    | exact none_go H
    | (refine KeepQ.mk [] (by decide) ?_; cbv; cases H; refine hK _ _ _ _ ?_ ?_ rfl h <;> cbv)
    | (refine ifB_go H ?_ ?_ <;> clear H <;> intro hh H)
    | (refine req_go H ?_; clear H; intro hh H)
    | (refine sh147_get H ?_; clear H; intro _ he H; cbv)
    | (obtain ⟨R, hR, H2⟩ := bindR_go H; refine call_in hJ [0] (by decide) rfl rfl rfl (f95_call _ ho _ _ _ hR _ _ ?_); clear H hR; rcases R with ⟨_⟩; all_goals (replace H := H2; clear H2; (try dsimp only at H); cbv))
    | (obtain ⟨R, hR, H2⟩ := bindR_go H; refine call_in hJ [0, 1, 2, 3] (by decide) rfl rfl rfl (f92_call _ ho _ _ _ _ _ _ _ _ _ _ hR _ _ ?_); clear H hR; rcases R with ⟨_⟩ | ⟨_⟩; all_goals (replace H := H2; clear H2; (try dsimp only at H); cbv)))
inductive F42R where
  | v0 (y0 : Bool)
def F42R.av : F42R → AV
  | .v0 y0 => .bool y0
def F42R.hp (a2 : List AV) (a3 a4 a5 a6 a7 a8 a9 : Int) (a10 : Bool) (a11 a12 : List AV) : F42R → List Ent
  | .v0 _ => [.fam 0 a2, .var [.vs 2 2 a3 a4 a5, .vs 3 3 a6 a7 a8, .int .i64 a9, .bool a10], .vec 2 a11, .vec 3 a12]
inductive F42L0 where
  | x0
  | x1
noncomputable def f42_l0 (o : Ops) (fuel : Nat) (a7 a6 : Int) (a12 : List AV) (a0 : ByteArray) (a1 a8 : Int) (a2 : List AV) (a3 a4 a5 a9 : Int) (a10 : Bool) (a11 : List AV) : Nat → Int → Option F42L0
  | 0, _ => none
  | n + 1, w16 =>
    ifB (o.cmp .lss w16 a7)
    (req (o.inb w16 a7) <|
     req (o.inb (o.sum a6 w16) (o.len a12)) <|
     getA (o.get a12 (o.sum a6 w16)) fun e => sh158 e fun v17 v18 v19 =>
     ifB (o.pick (o.pick (o.seq v17 a0) (o.cmp .geq a1 v18) false) (o.cmp .lss a1 (o.ar .add .i64 v18 (o.len v19))) false)
     (some (.x0 ))
     (f42_l0 o fuel a7 a6 a12 a0 a1 a8 a2 a3 a4 a5 a9 a10 a11 n (o.ar .add .i64 w16 1)))
    (some (.x1 ))
theorem f42_l0_go {J : Jd} {n₀ : Nat} (hJ : J = std Try.prog n₀) {o : Ops} (hJo : J.o = o) {fuel : Nat} {a7 a6 : Int} {a12 : List AV} {a0 : ByteArray} {a1 a8 : Int} {a2 : List AV} {a3 a4 a5 a9 : Int} {a10 : Bool} {a11 : List AV} {w16i : Int} {α : Type} {k : F42L0 → Option α} {r : α} {c : Code} {Q : Ex → St → Prop} {s : St}
    (H : bindR (f42_l0 o fuel a7 a6 a12 a0 a1 a8 a2 a3 a4 a5 a9 a10 a11 fuel w16i) k = some r) (hn : n₀ ≤ 4) (hle : Le s ⟨[(14, .int .i64 w16i), (13, .int .i64 a7), (12, .vs 3 3 a6 a7 a8), (2, .int .i64 a1), (1, .str a0)], [.fam 0 a2, .var [.vs 2 2 a3 a4 a5, .vs 3 3 a6 a7 a8, .int .i64 a9, .bool a10], .vec 2 a11, .vec 3 a12], 39⟩)
    (round : ∀ X, k X = some r → ∀ (n : Nat) (w16 : Int), f42_l0 o fuel a7 a6 a12 a0 a1 a8 a2 a3 a4 a5 a9 a10 a11 (n + 1) w16 = some X → ∀ N : St → Prop,
      (∀ (env : List (Nat × AV)) (w16' : Int) (v : List Ent), f42_l0 o fuel a7 a6 a12 a0 a1 a8 a2 a3 a4 a5 a9 a10 a11 n w16' = some X → wkEnv env [(14, .int .i64 w16'), (13, .int .i64 a7), (12, .vs 3 3 a6 a7 a8), (2, .int .i64 a1), (1, .str a0)] → N ⟨env, [.fam 0 a2, .var [.vs 2 2 a3 a4 a5, .vs 3 3 a6 a7 a8, .int .i64 a9, .bool a10], .vec 2 a11, .vec 3 a12] ++ v, 39⟩) → awp J tab c (thenQ N Q) ⟨[(14, .int .i64 w16), (13, .int .i64 a7), (12, .vs 3 3 a6 a7 a8), (2, .int .i64 a1), (1, .str a0)], [.fam 0 a2, .var [.vs 2 2 a3 a4 a5, .vs 3 3 a6 a7 a8, .int .i64 a9, .bool a10], .vec 2 a11, .vec 3 a12], 39⟩) : J.code (.loop c) Q s := by
  subst hJo
  obtain ⟨X, hX, HX⟩ := bindR_go H
  refine loop_at (β := Nat × Int) hJ tab_ok (fun | (_, w16) => ⟨[(14, .int .i64 w16), (13, .int .i64 a7), (12, .vs 3 3 a6 a7 a8), (2, .int .i64 a1), (1, .str a0)], [.fam 0 a2, .var [.vs 2 2 a3 a4 a5, .vs 3 3 a6 a7 a8, .int .i64 a9, .bool a10], .vec 2 a11, .vec 3 a12], 39⟩) (fun | (n, w16) => f42_l0 J.o fuel a7 a6 a12 a0 a1 a8 a2 a3 a4 a5 a9 a10 a11 n w16 = some X) (fun | (n, _) => n) (fuel, w16i) hX hle (by rintro ⟨_, _⟩; exact hn) ?_
  rintro ⟨n, w16⟩ hb N hN
  rcases n with _ | n
  · exact none_go (show (none : Option F42L0) = some X from hb)
  exact round X HX n w16 hb N fun env w16' v h1 h2 => hN _ (n, w16') h1 (Nat.lt_succ_self n) ⟨h2, by first | (cbv; done) | (cbv; repeat' (first | exact trivial | exact rfl | apply And.intro)), rfl, rfl⟩
noncomputable def f42 (o : Ops) (fuel : Nat) (a0 : ByteArray) (a1 : Int) (a2 : List AV) (a3 a4 a5 a6 a7 a8 a9 : Int) (a10 : Bool) (a11 a12 : List AV) : Option F42R :=
  bindR (f42_l0 o fuel a7 a6 a12 a0 a1 a8 a2 a3 a4 a5 a9 a10 a11 fuel 0) fun r => match r with
  | .x0  => some (.v0 true)
  | .x1  => some (.v0 false)
theorem f42_call (o : Ops) (ho : o = stdOps) (fuel : Nat) (a0 : ByteArray) (a1 : Int) (a2 : List AV) (a3 a4 a5 a6 a7 a8 a9 : Int) (a10 : Bool) (a11 a12 : List AV) {R : F42R} (H : f42 o fuel a0 a1 a2 a3 a4 a5 a6 a7 a8 a9 a10 a11 a12 = some R) (K : AV → List Ent → Prop) (E : AV → List Ent → Prop) (h : K R.av (F42R.hp a2 a3 a4 a5 a6 a7 a8 a9 a10 a11 a12 R)) : CallA Try.prog 42 [.ptr 1 0, .str a0, .int .i64 a1] [.fam 0 a2, .var [.vs 2 2 a3 a4 a5, .vs 3 3 a6 a7 a8, .int .i64 a9, .bool a10], .vec 2 a11, .vec 3 a12] K E := by
  refine call_wk fun K' hK => ?_
  refine call_keep (n₀ := 4) tab_ok Try.func42 rfl rfl rfl rfl ?_
  intro J hJ
  obtain rfl : o = J.o := by rw [ho, hJ]; rfl
  unfold f42 at H
  cbv
  repeat' (first
    | ((with_reducible refine awp_go2 ?_); cbv)
    | with_reducible exact id
    | (cases H; replace H := HX0; clear HX0; (try dsimp only at H))
    | (refine KeepQ.mk [] (by decide) ?_; cbv; cases H; refine hK _ _ _ _ ?_ ?_ rfl h <;> cbv)
    | (refine hN0 _ _ _ H ?_; with_reducible refine wkEnv_go2 ?_; cbv)
    | (refine ifB_go H ?_ ?_ <;> clear H <;> intro hh H)
    | (refine req_go H ?_; clear H; intro hh H)
    | (refine sh158_get H ?_; clear H; intro _ _ _ he H; cbv)
    | (refine f42_l0_go hJ (o := J.o) rfl H (by decide) ⟨?_, ?_, rfl, rfl⟩ ?_
       · cbv; (repeat' (first | exact trivial | exact rfl | apply And.intro))
       · cbv; (repeat' (first | exact trivial | exact rfl | apply And.intro))
       clear H
       intro X0 HX0 n _ H Nx0 hN0
       rw [f42_l0] at H
       cbv)
    | with_reducible refine And.intro ?_ ?_)
inductive F43R where
  | v0 (y0 : Bool)
def F43R.av : F43R → AV
  | .v0 y0 => .bool y0
def F43R.hp (a1 : List AV) (a2 a3 a4 a5 a6 a7 a8 : Int) (a9 : Bool) (a10 a11 : List AV) : F43R → List Ent
  | .v0 _ => [.fam 0 a1, .var [.vs 2 2 a2 a3 a4, .vs 3 3 a5 a6 a7, .int .i64 a8, .bool a9], .vec 2 a10, .vec 3 a11]
inductive F43L0 where
  | x0
  | x1
noncomputable def f43_l0 (o : Ops) (fuel : Nat) (a6 a5 : Int) (a11 : List AV) (a0 : ByteArray) (a7 : Int) (a1 : List AV) (a2 a3 a4 a8 : Int) (a9 : Bool) (a10 : List AV) : Nat → Int → Option F43L0
  | 0, _ => none
  | n + 1, w15 =>
    ifB (o.cmp .lss w15 a6)
    (req (o.inb w15 a6) <|
     req (o.inb (o.sum a5 w15) (o.len a11)) <|
     getA (o.get a11 (o.sum a5 w15)) fun e => sh158 e fun v16 _ _ =>
     ifB (o.seq v16 a0)
     (some (.x0 ))
     (f43_l0 o fuel a6 a5 a11 a0 a7 a1 a2 a3 a4 a8 a9 a10 n (o.ar .add .i64 w15 1)))
    (some (.x1 ))
theorem f43_l0_go {J : Jd} {n₀ : Nat} (hJ : J = std Try.prog n₀) {o : Ops} (hJo : J.o = o) {fuel : Nat} {a6 a5 : Int} {a11 : List AV} {a0 : ByteArray} {a7 : Int} {a1 : List AV} {a2 a3 a4 a8 : Int} {a9 : Bool} {a10 : List AV} {w15i : Int} {α : Type} {k : F43L0 → Option α} {r : α} {c : Code} {Q : Ex → St → Prop} {s : St}
    (H : bindR (f43_l0 o fuel a6 a5 a11 a0 a7 a1 a2 a3 a4 a8 a9 a10 fuel w15i) k = some r) (hn : n₀ ≤ 4) (hle : Le s ⟨[(12, .int .i64 w15i), (11, .int .i64 a6), (10, .vs 3 3 a5 a6 a7), (1, .str a0)], [.fam 0 a1, .var [.vs 2 2 a2 a3 a4, .vs 3 3 a5 a6 a7, .int .i64 a8, .bool a9], .vec 2 a10, .vec 3 a11], 21⟩)
    (round : ∀ X, k X = some r → ∀ (n : Nat) (w15 : Int), f43_l0 o fuel a6 a5 a11 a0 a7 a1 a2 a3 a4 a8 a9 a10 (n + 1) w15 = some X → ∀ N : St → Prop,
      (∀ (env : List (Nat × AV)) (w15' : Int) (v : List Ent), f43_l0 o fuel a6 a5 a11 a0 a7 a1 a2 a3 a4 a8 a9 a10 n w15' = some X → wkEnv env [(12, .int .i64 w15'), (11, .int .i64 a6), (10, .vs 3 3 a5 a6 a7), (1, .str a0)] → N ⟨env, [.fam 0 a1, .var [.vs 2 2 a2 a3 a4, .vs 3 3 a5 a6 a7, .int .i64 a8, .bool a9], .vec 2 a10, .vec 3 a11] ++ v, 21⟩) → awp J tab c (thenQ N Q) ⟨[(12, .int .i64 w15), (11, .int .i64 a6), (10, .vs 3 3 a5 a6 a7), (1, .str a0)], [.fam 0 a1, .var [.vs 2 2 a2 a3 a4, .vs 3 3 a5 a6 a7, .int .i64 a8, .bool a9], .vec 2 a10, .vec 3 a11], 21⟩) : J.code (.loop c) Q s := by
  subst hJo
  obtain ⟨X, hX, HX⟩ := bindR_go H
  refine loop_at (β := Nat × Int) hJ tab_ok (fun | (_, w15) => ⟨[(12, .int .i64 w15), (11, .int .i64 a6), (10, .vs 3 3 a5 a6 a7), (1, .str a0)], [.fam 0 a1, .var [.vs 2 2 a2 a3 a4, .vs 3 3 a5 a6 a7, .int .i64 a8, .bool a9], .vec 2 a10, .vec 3 a11], 21⟩) (fun | (n, w15) => f43_l0 J.o fuel a6 a5 a11 a0 a7 a1 a2 a3 a4 a8 a9 a10 n w15 = some X) (fun | (n, _) => n) (fuel, w15i) hX hle (by rintro ⟨_, _⟩; exact hn) ?_
  rintro ⟨n, w15⟩ hb N hN
  rcases n with _ | n
  · exact none_go (show (none : Option F43L0) = some X from hb)
  exact round X HX n w15 hb N fun env w15' v h1 h2 => hN _ (n, w15') h1 (Nat.lt_succ_self n) ⟨h2, by first | (cbv; done) | (cbv; repeat' (first | exact trivial | exact rfl | apply And.intro)), rfl, rfl⟩
noncomputable def f43 (o : Ops) (fuel : Nat) (a0 : ByteArray) (a1 : List AV) (a2 a3 a4 a5 a6 a7 a8 : Int) (a9 : Bool) (a10 a11 : List AV) : Option F43R :=
  bindR (f43_l0 o fuel a6 a5 a11 a0 a7 a1 a2 a3 a4 a8 a9 a10 fuel 0) fun r => match r with
  | .x0  => some (.v0 true)
  | .x1  => some (.v0 false)
theorem f43_call (o : Ops) (ho : o = stdOps) (fuel : Nat) (a0 : ByteArray) (a1 : List AV) (a2 a3 a4 a5 a6 a7 a8 : Int) (a9 : Bool) (a10 a11 : List AV) {R : F43R} (H : f43 o fuel a0 a1 a2 a3 a4 a5 a6 a7 a8 a9 a10 a11 = some R) (K : AV → List Ent → Prop) (E : AV → List Ent → Prop) (h : K R.av (F43R.hp a1 a2 a3 a4 a5 a6 a7 a8 a9 a10 a11 R)) : CallA Try.prog 43 [.ptr 1 0, .str a0] [.fam 0 a1, .var [.vs 2 2 a2 a3 a4, .vs 3 3 a5 a6 a7, .int .i64 a8, .bool a9], .vec 2 a10, .vec 3 a11] K E := by
  refine call_wk fun K' hK => ?_
  refine call_keep (n₀ := 4) tab_ok Try.func43 rfl rfl rfl rfl ?_
  intro J hJ
  obtain rfl : o = J.o := by rw [ho, hJ]; rfl
  unfold f43 at H
  cbv
  repeat' (first
    | ((with_reducible refine awp_go2 ?_); cbv)
    | (cases H; replace H := HX0; clear HX0; (try dsimp only at H))
    | (refine KeepQ.mk [] (by decide) ?_; cbv; cases H; refine hK _ _ _ _ ?_ ?_ rfl h <;> cbv)
    | (refine hN0 _ _ _ H ?_; with_reducible refine wkEnv_go2 ?_; cbv)
    | (refine ifB_go H ?_ ?_ <;> clear H <;> intro hh H)
    | (refine req_go H ?_; clear H; intro hh H)
    | (refine sh158_get H ?_; clear H; intro _ _ _ he H; cbv)
    | (refine f43_l0_go hJ (o := J.o) rfl H (by decide) ⟨?_, ?_, rfl, rfl⟩ ?_
       · cbv; (repeat' (first | exact trivial | exact rfl | apply And.intro))
       · cbv; (repeat' (first | exact trivial | exact rfl | apply And.intro))
       clear H
       intro X0 HX0 n _ H Nx0 hN0
       rw [f43_l0] at H
       cbv))
end Go.Proofs.Ytjdbmfipciadfaa.A
