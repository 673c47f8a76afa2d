/- Functions of the program and of the document's answer, as plain ones. Written by lift.py. -/import Derived.Test.YtjdbmfipciadfaaSy0
namespace Go.Proofs.Ytjdbmfipciadfaa.A
open Go Go.Pt
set_option maxHeartbeats 4000000
set_option maxRecDepth 100000
inductive F49R where
  | v0
  | v1 (y0 y1 : List AV)
def F49R.av : F49R → AV
  | .v0  => .tup [.nilp, .int .i64 1]
  | .v1 _ _ => .tup [.ptr 1 0, .int .i64 0]
def F49R.hp (a0 : Int) (a1 : List AV) : F49R → List Ent
  | .v0  => [.fam 0 a1]
  | .v1 y0 y1 => [.fam 0 a1, .var [.vs 2 2 0 0 0, .vs 3 3 0 0 0, .int .i64 a0, .bool false], .vec 2 y0, .vec 3 y1]
noncomputable def f49 (o : Ops) (_fuel : Nat) (a0 : Int) (_a1 : List AV) : Option F49R :=
  ifB (o.pick (o.cmp .lss a0 0) true (o.cmp .gtr a0 4194304))
  (some (.v0 ))
  (some (.v1 [] []))
theorem f49_call (o : Ops) (ho : o = stdOps) (fuel : Nat) (a0 : Int) (a1 : List AV) {R : F49R} (H : f49 o fuel a0 a1 = some R) (K : AV → List Ent → Prop) (E : AV → List Ent → Prop) (h : K R.av (F49R.hp a0 a1 R)) : CallA Try.prog 49 [.int .i64 a0] [.fam 0 a1] K E := by
  refine call_wk fun K' hK => ?_
  refine call_keep (n₀ := 1) tab_ok Try.func49 rfl rfl rfl rfl ?_
  intro J hJ
  obtain rfl : o = J.o := by rw [ho, hJ]; rfl
  unfold f49 at H
  cbv
  repeat' (first
    | ((with_reducible refine awp_go2 ?_); cbv)
    | with_reducible exact id
    | (refine KeepQ.tn _ (by first | exact .inl rfl | exact .inr rfl) (Turn.trans (Turn.at 2 (turn_nilrh 1 0 2 rfl rfl (leN_t rfl)) rfl) (Turn.at 3 (turn_nilrh 1 1 3 rfl rfl (leN_t rfl)) rfl)) [1, 2, 3] (by decide) ?_; cbv; cases H; refine hK _ _ _ _ ?_ ?_ rfl h <;> cbv)
    | (refine KeepQ.mk [] (by decide) ?_; cbv; cases H; refine hK _ _ _ _ ?_ ?_ rfl h <;> cbv)
    | (refine ifB_go H ?_ ?_ <;> clear H <;> intro hh H)
    | with_reducible refine And.intro ?_ ?_)
inductive F142R where
  | v0 (y0 : Int)
def F142R.av : F142R → AV
  | .v0 y0 => .int .i64 y0
def F142R.hp (a1 : List AV) (a2 a3 a4 a5 a6 a7 a8 : Int) (a9 : Bool) (a10 a11 : List AV) : F142R → List Ent
  | .v0 _ => [.fam 0 a1, .var [.vs 2 2 a2 a3 a4, .vs 3 3 a5 a6 a7, .int .i64 a8, .bool a9], .vec 2 a10, .vec 3 a11]
inductive F142L0 where
  | x0 (y0 : Int)
  | x1
noncomputable def f142_l0 (o : Ops) (fuel : Nat) (a3 a2 : Int) (a10 : List AV) (a0 : ByteArray) (a1 : List AV) (a4 a5 a6 a7 a8 : Int) (a9 : Bool) (a11 : List AV) : Nat → Int → Option F142L0
  | 0, _ => none
  | n + 1, w14 =>
    ifB (o.cmp .lss w14 a3)
    (req (o.inb w14 a3) <|
     req (o.inb (o.sum a2 w14) (o.len a10)) <|
     getA (o.get a10 (o.sum a2 w14)) fun e => sh164 e fun v15 _ =>
     ifB (o.seq v15 a0)
     (some (.x0 w14))
     (f142_l0 o fuel a3 a2 a10 a0 a1 a4 a5 a6 a7 a8 a9 a11 n (o.ar .add .i64 w14 1)))
    (some (.x1 ))
theorem f142_l0_go {J : Jd} {n₀ : Nat} (hJ : J = std Try.prog n₀) {o : Ops} (hJo : J.o = o) {fuel : Nat} {a3 a2 : Int} {a10 : List AV} {a0 : ByteArray} {a1 : List AV} {a4 a5 a6 a7 a8 : Int} {a9 : Bool} {a11 : List AV} {w14i : Int} {α : Type} {k : F142L0 → Option α} {r : α} {c : Code} {Q : Ex → St → Prop} {s : St}
    (H : bindR (f142_l0 o fuel a3 a2 a10 a0 a1 a4 a5 a6 a7 a8 a9 a11 fuel w14i) k = some r) (hn : n₀ ≤ 4) (hle : Le s ⟨[(5, .int .i64 w14i), (1, .str a0), (0, .ptr 1 0)], [.fam 0 a1, .var [.vs 2 2 a2 a3 a4, .vs 3 3 a5 a6 a7, .int .i64 a8, .bool a9], .vec 2 a10, .vec 3 a11], 26⟩)
    (round : ∀ X, k X = some r → ∀ (n : Nat) (w14 : Int), f142_l0 o fuel a3 a2 a10 a0 a1 a4 a5 a6 a7 a8 a9 a11 (n + 1) w14 = some X → ∀ N : St → Prop,
      (∀ (env : List (Nat × AV)) (w14' : Int) (v : List Ent), f142_l0 o fuel a3 a2 a10 a0 a1 a4 a5 a6 a7 a8 a9 a11 n w14' = some X → wkEnv env [(5, .int .i64 w14'), (1, .str a0), (0, .ptr 1 0)] → N ⟨env, [.fam 0 a1, .var [.vs 2 2 a2 a3 a4, .vs 3 3 a5 a6 a7, .int .i64 a8, .bool a9], .vec 2 a10, .vec 3 a11] ++ v, 26⟩) → awp J tab c (thenQ N Q) ⟨[(5, .int .i64 w14), (1, .str a0), (0, .ptr 1 0)], [.fam 0 a1, .var [.vs 2 2 a2 a3 a4, .vs 3 3 a5 a6 a7, .int .i64 a8, .bool a9], .vec 2 a10, .vec 3 a11], 26⟩) : J.code (.loop c) Q s := by
  subst hJo
  obtain ⟨X, hX, HX⟩ := bindR_go H
  refine loop_at (β := Nat × Int) hJ tab_ok (fun | (_, w14) => ⟨[(5, .int .i64 w14), (1, .str a0), (0, .ptr 1 0)], [.fam 0 a1, .var [.vs 2 2 a2 a3 a4, .vs 3 3 a5 a6 a7, .int .i64 a8, .bool a9], .vec 2 a10, .vec 3 a11], 26⟩) (fun | (n, w14) => f142_l0 J.o fuel a3 a2 a10 a0 a1 a4 a5 a6 a7 a8 a9 a11 n w14 = some X) (fun | (n, _) => n) (fuel, w14i) hX hle (by rintro ⟨_, _⟩; exact hn) ?_
  rintro ⟨n, w14⟩ hb N hN
  rcases n with _ | n
  · exact none_go (show (none : Option F142L0) = some X from hb)
  exact round X HX n w14 hb N fun env w14' v h1 h2 => hN _ (n, w14') h1 (Nat.lt_succ_self n) ⟨h2, by first | (cbv; done) | (cbv; repeat' (first | exact trivial | exact rfl | apply And.intro)), rfl, rfl⟩
noncomputable def f142 (o : Ops) (fuel : Nat) (a0 : ByteArray) (a1 : List AV) (a2 a3 a4 a5 a6 a7 a8 : Int) (a9 : Bool) (a10 a11 : List AV) : Option F142R :=
  bindR (f142_l0 o fuel a3 a2 a10 a0 a1 a4 a5 a6 a7 a8 a9 a11 fuel 0) fun r => match r with
  | .x0 y17 => some (.v0 y17)
  | .x1  => some (.v0 (-1))
theorem f142_call (o : Ops) (ho : o = stdOps) (fuel : Nat) (a0 : ByteArray) (a1 : List AV) (a2 a3 a4 a5 a6 a7 a8 : Int) (a9 : Bool) (a10 a11 : List AV) {R : F142R} (H : f142 o fuel a0 a1 a2 a3 a4 a5 a6 a7 a8 a9 a10 a11 = some R) (K : AV → List Ent → Prop) (E : AV → List Ent → Prop) (h : K R.av (F142R.hp a1 a2 a3 a4 a5 a6 a7 a8 a9 a10 a11 R)) : CallA Try.prog 142 [.ptr 1 0, .str a0] [.fam 0 a1, .var [.vs 2 2 a2 a3 a4, .vs 3 3 a5 a6 a7, .int .i64 a8, .bool a9], .vec 2 a10, .vec 3 a11] K E := by
  refine call_wk fun K' hK => ?_
  refine call_keep (n₀ := 4) tab_ok Try.func142 rfl rfl rfl rfl ?_
  intro J hJ
  obtain rfl : o = J.o := by rw [ho, hJ]; rfl
  unfold f142 at H
  cbv
  repeat' (first
    | ((with_reducible refine awp_go2 ?_); cbv)
    | (cases H; replace H := HX0; clear HX0; (try dsimp only at H))
    | (refine KeepQ.mk [] (by decide) ?_; cbv; cases H; refine hK _ _ _ _ ?_ ?_ rfl h <;> cbv)
    | (refine hN0 _ _ _ H ?_; with_reducible refine wkEnv_go2 ?_; cbv)
    | (refine ifB_go H ?_ ?_ <;> clear H <;> intro hh H)
    | (refine req_go H ?_; clear H; intro hh H)
    | (refine sh164_get H ?_; clear H; intro _ _ he H; cbv)
    | (refine f142_l0_go hJ (o := J.o) rfl H (by decide) ⟨?_, ?_, rfl, rfl⟩ ?_
       · cbv; (repeat' (first | exact trivial | exact rfl | apply And.intro))
       · cbv; (repeat' (first | exact trivial | exact rfl | apply And.intro))
       clear H
       intro X0 HX0 n _ H Nx0 hN0
       rw [f142_l0] at H
       cbv))
end Go.Proofs.Ytjdbmfipciadfaa.A
