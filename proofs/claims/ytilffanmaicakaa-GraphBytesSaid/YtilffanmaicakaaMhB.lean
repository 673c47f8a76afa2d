/- Functions that the law GraphBytes reaches, as plain ones. Written by lift.py. -/
import Derived.Test.YtilffanmaicakaaMbT
import Derived.Test.YtilffanmaicakaaMhA

namespace Go.Proofs.Ytilffanmaicakaa.A
open Go Go.Pt

/-! pontoon/pontoonref01.Open -/
inductive F86R where
  | v0 (y0 : List AV) (y1 : Int)
def F86R.av : F86R → AV
  | .v0 _ _ => .ptr 0 0
def F86R.hp : F86R → List Ent
  | .v0 y0 y1 => [.var [.sl 1 y0 .no, .int .i64 y1]]
noncomputable def f86 (_o : Ops) (_fuel : Nat) (a0 : List AV) : Option F86R :=
  some (.v0 a0 0)
set_option maxHeartbeats 4000000 in
set_option maxRecDepth 100000 in
theorem f86_call (o : Ops) (ho : o = stdOps) (fuel : Nat) (a0 : List AV) {R : F86R} (H : f86 o fuel a0 = some R) (K : AV → List Ent → Prop) (E : AV → List Ent → Prop) (h : K R.av R.hp) : CallA Try.prog 86 [.sl 1 a0 .no] [] K E := by
  refine call_wk fun K' hK => ?_
  refine call_keep (n₀ := 0) tab_ok Try.func86 rfl rfl rfl rfl ?_
  intro J hJ
  obtain rfl : o = J.o := by rw [ho, hJ]; rfl
  unfold f86 at H
  cbv
  repeat' (first
    | ((with_reducible first | refine awp_go2 ?_ | refine aops_go2 ?_ | refine strip_go2 ?_ | refine draw_go2 ?_ | refine frames_go2 ?_); cbv)
    | with_reducible exact id
    | exact trivial
    | with_reducible exact rfl
    | with_reducible exact ⟨_, rfl⟩
    | exact none_go H
    | (refine KeepQ.mk [0] (by decide) ?_; cbv; cases H; refine hK _ _ _ _ ?_ ?_ rfl h <;> cbv)
    | (refine ifB_go H ?_ ?_ <;> clear H <;> intro hh H)
    | (refine ifB_og H ?_ ?_ <;> clear H <;> intro hh H)
    | (refine req_go H ?_; clear H; intro hh H)
    | (refine gg_t ho H ?_ ?_ <;> clear H <;> intro hh H)
    | (refine gg_f ho H ?_ ?_ <;> clear H <;> intro hh H)
    | (refine bit_go ho H ?_ ?_ <;> clear H <;> intro hh H; (all_goals cbv))
    | (refine nil_go H ?_; clear H; intro b H; cbv)
    | (refine tok_go ?_; cbv)
    | (refine getA_go (β := UInt8) H ?_; clear H; intro e H; cbv)
    | (refine lit_t ?_; cbv)
    | (refine lit_f ?_; cbv)
    | (refine known_t (by assumption) ?_)
    | (refine known_f (by assumption) ?_)
    | (refine known_x (by assumption) ?_)
    | (refine known_y (by assumption) ?_)
    | (refine known_get (by assumption) ?_; cbv)
    | (refine known_and (by assumption) ?_)
    | with_reducible refine And.intro ?_ ?_
    | (intro hh; exact hh)
    | (intro _; assumption)
    | (intro _; clear H h; simp only [ho, stdOps] at *; simp_all))

/-! pontoon/pontoonref01.number -/
inductive F126R where
  | v0 (y0 : Int)
def F126R.av : F126R → AV
  | .v0 y0 => .int .i64 y0
def F126R.hp : F126R → List Ent
  | .v0 _ => []
noncomputable def f126 (o : Ops) (_fuel : Nat) (a0 : Int) : Option F126R :=
  req (o.nz 2) <|
  ifB (o.cmp .eql (o.ar .rem .u64 a0 2) 0)
  (req (o.nz 2) <|
   some (.v0 (o.wrap .i64 (o.ar .quo .u64 a0 2))))
  (req (o.nz 2) <|
   some (.v0 (o.ar .sub .i64 (o.neg .i64 (o.wrap .i64 (o.ar .quo .u64 a0 2))) 1)))
set_option maxHeartbeats 4000000 in
set_option maxRecDepth 100000 in
theorem f126_call (o : Ops) (ho : o = stdOps) (fuel : Nat) (a0 : Int) {R : F126R} (H : f126 o fuel a0 = some R) (K : AV → List Ent → Prop) (E : AV → List Ent → Prop) (h : K R.av R.hp) : CallA Try.prog 126 [.int .u64 a0] [] K E := by
  refine call_wk fun K' hK => ?_
  refine call_keep (n₀ := 0) tab_ok Try.func126 rfl rfl rfl rfl ?_
  intro J hJ
  obtain rfl : o = J.o := by rw [ho, hJ]; rfl
  unfold f126 at H
  cbv
  repeat' (first
    | ((with_reducible first | refine awp_go2 ?_ | refine aops_go2 ?_ | refine strip_go2 ?_ | refine draw_go2 ?_ | refine frames_go2 ?_); cbv)
    | with_reducible exact id
    | exact trivial
    | with_reducible exact rfl
    | with_reducible exact ⟨_, rfl⟩
    | exact none_go H
    | (refine KeepQ.mk [] (by decide) ?_; cbv; cases H; refine hK _ _ _ _ ?_ ?_ rfl h <;> cbv)
    | (refine ifB_go H ?_ ?_ <;> clear H <;> intro hh H)
    | (refine ifB_og H ?_ ?_ <;> clear H <;> intro hh H)
    | (refine req_go H ?_; clear H; intro hh H)
    | (refine gg_t ho H ?_ ?_ <;> clear H <;> intro hh H)
    | (refine gg_f ho H ?_ ?_ <;> clear H <;> intro hh H)
    | (refine bit_go ho H ?_ ?_ <;> clear H <;> intro hh H; (all_goals cbv))
    | (refine nil_go H ?_; clear H; intro b H; cbv)
    | (refine tok_go ?_; cbv)
    | (refine getA_go (β := UInt8) H ?_; clear H; intro e H; cbv)
    | (refine lit_t ?_; cbv)
    | (refine lit_f ?_; cbv)
    | (refine known_t (by assumption) ?_)
    | (refine known_f (by assumption) ?_)
    | (refine known_x (by assumption) ?_)
    | (refine known_y (by assumption) ?_)
    | (refine known_get (by assumption) ?_; cbv)
    | (refine known_and (by assumption) ?_)
    | with_reducible refine And.intro ?_ ?_
    | (intro hh; exact hh)
    | (intro _; assumption)
    | (intro _; clear H h; simp only [ho, stdOps] at *; simp_all))

def sh5 {α : Type} (e : AV) (k : Int → Option α) : Option α := match e with | .int .u8 x0 => k x0 | _ => none
theorem sh5_go {α : Type} {e : AV} {k : Int → Option α} {r : α} {G : AV → Prop} (H : sh5 e k = some r) (h : ∀ (x0 : Int), k x0 = some r → G (.int .u8 x0)) : G e := by
  unfold sh5 at H
  split at H
  · exact h _ H
  · exact nomatch H
theorem sh5_get {α : Type} {x : Option AV} {k : Int → Option α} {r : α} {G : AV → Prop} (H : getA x (fun e => sh5 e k) = some r) (h : ∀ (x0 : Int), x = some (.int .u8 x0) → k x0 = some r → G (.int .u8 x0)) : ∀ e, x = some e → G e := fun e he => by
  have H2 : sh5 e k = some r := by rw [he] at H; exact H
  unfold sh5 at H2
  split at H2
  · exact h _ he H2
  · exact nomatch H2
theorem sh5_find {α : Type} {x : Option AV} {k : Int → Option α} {z : Option α} {r : α} {G1 : AV → Prop} {G2 : Prop} (H : findA x (fun e => sh5 e k) z = some r) (h1 : ∀ (x0 : Int), k x0 = some r → G1 (.int .u8 x0)) (h2 : z = some r → G2) : (∀ e, x = some e → G1 e) ∧ (x = none → G2) :=
  findA_go H (fun _ He => sh5_go He h1) h2

/-! pontoon/pontoonref01.First -/
inductive F113R where
  | v0 (y0 : Int) (y1 : Int) (y2 : Int)
def F113R.av : F113R → AV
  | .v0 y0 y1 y2 => .tup [.int .i64 y0, .int .i64 y1, .int .i64 y2]
def F113R.hp : F113R → List Ent
  | .v0 _ _ _ => []
inductive F113L0 where
  | x0 (y0 : Int) (y1 : Int) (y2 : Int)
  | x1 
noncomputable def f113_l0 (o : Ops) (fuel : Nat) (a0 : List AV) : Nat → Int → Int → Option F113L0
  | 0, _, _ => none
  | n + 1, w8, w9 =>
    ifB (o.cmp .lss w9 (o.len a0))
    (ifB (o.cmp .eql w9 0)
     (req (o.inb w9 (o.len a0)) <|
      getA (o.get a0 w9) fun e => sh5 e fun v10 =>
      ifB (o.pick (o.cmp .eql v10 128) true (o.cmp .geq w8 144115188075855872))
      (some (.x0 0 0 11))
      (req (o.inb w9 (o.len a0)) <|
       getA (o.get a0 w9) fun e => sh5 e fun v11 =>
       req (o.nz 128) <|
       req (o.inb w9 (o.len a0)) <|
       getA (o.get a0 w9) fun e => sh5 e fun v12 =>
       ifB (o.cmp .lss v12 128)
       (bindR (f126 o fuel (o.ar .add .u64 (o.ar .mul .u64 w8 128) (o.wrap .u64 (o.ar .rem .u8 v11 128)))) fun r => match r with
        | .v0 r13 => some (.x0 r13 (o.ar .add .i64 w9 1) 0))
       (f113_l0 o fuel a0 n (o.ar .add .u64 (o.ar .mul .u64 w8 128) (o.wrap .u64 (o.ar .rem .u8 v11 128))) (o.ar .add .i64 w9 1))))
     (ifB (o.cmp .geq w8 144115188075855872)
      (some (.x0 0 0 11))
      (req (o.inb w9 (o.len a0)) <|
       getA (o.get a0 w9) fun e => sh5 e fun v14 =>
       req (o.nz 128) <|
       req (o.inb w9 (o.len a0)) <|
       getA (o.get a0 w9) fun e => sh5 e fun v15 =>
       ifB (o.cmp .lss v15 128)
       (bindR (f126 o fuel (o.ar .add .u64 (o.ar .mul .u64 w8 128) (o.wrap .u64 (o.ar .rem .u8 v14 128)))) fun r => match r with
        | .v0 r16 => some (.x0 r16 (o.ar .add .i64 w9 1) 0))
       (f113_l0 o fuel a0 n (o.ar .add .u64 (o.ar .mul .u64 w8 128) (o.wrap .u64 (o.ar .rem .u8 v14 128))) (o.ar .add .i64 w9 1)))))
    (some (.x1 ))
theorem f113_l0_go {J : Jd} {n₀ : Nat} (hJ : J = std Try.prog n₀) {fuel : Nat} {a0 : List AV} {w8i : Int} {w9i : Int} {α : Type} {k : F113L0 → Option α} {r : α} {c : Code} {Q : Ex → St → Prop} {s : St}
    (H : bindR (f113_l0 J.o fuel a0 fuel w8i w9i) k = some r) (hn : n₀ ≤ 0) (hle : Le s ⟨[(6, .int .i64 w9i), (5, .int .u64 w8i), (0, .sl 1 a0 .no)], [], 44⟩)
    (round : ∀ X, k X = some r → ∀ (n : Nat) (w8 : Int) (w9 : Int), f113_l0 J.o fuel a0 (n + 1) w8 w9 = some X → ∀ N : St → Prop,
      (∀ (env : List (Nat × AV)) (w8' : Int) (w9' : Int) (v : List Ent), f113_l0 J.o fuel a0 n w8' w9' = some X → wkEnv env [(6, .int .i64 w9'), (5, .int .u64 w8'), (0, .sl 1 a0 .no)] → N ⟨env, [] ++ v, 44⟩) → awp J tab c (thenQ N Q) ⟨[(6, .int .i64 w9), (5, .int .u64 w8), (0, .sl 1 a0 .no)], [], 44⟩) : J.code (.loop c) Q s := by
  obtain ⟨X, hX, HX⟩ := bindR_go H
  refine loop_at (β := Nat × Int × Int) hJ tab_ok (fun | (_, w8, w9) => ⟨[(6, .int .i64 w9), (5, .int .u64 w8), (0, .sl 1 a0 .no)], [], 44⟩) (fun | (n, w8, w9) => f113_l0 J.o fuel a0 n w8 w9 = some X) (fun | (n, _, _) => n) (fuel, w8i, w9i) hX hle (by rintro ⟨_, _, _⟩; exact hn) ?_
  rintro ⟨n, w8, w9⟩ hb N hN
  rcases n with _ | n
  · exact none_go (show (none : Option F113L0) = some X from hb)
  exact round X HX n w8 w9 hb N fun env w8' w9' v h1 h2 => hN _ (n, w8', w9') h1 (Nat.lt_succ_self n) ⟨h2, by cbv, rfl, rfl⟩

noncomputable def f113 (o : Ops) (fuel : Nat) (a0 : List AV) : Option F113R :=
  bindR (f113_l0 o fuel a0 fuel 0 0) fun r => match r with
  | .x0 y17 y18 y19 => some (.v0 y17 y18 y19)
  | .x1  => some (.v0 0 0 10)
set_option maxHeartbeats 4000000 in
set_option maxRecDepth 100000 in
theorem f113_call (o : Ops) (ho : o = stdOps) (fuel : Nat) (a0 : List AV) {R : F113R} (H : f113 o fuel a0 = some R) (K : AV → List Ent → Prop) (E : AV → List Ent → Prop) (h : K R.av R.hp) : CallA Try.prog 113 [.sl 1 a0 .no] [] K E := by
  refine call_wk fun K' hK => ?_
  refine call_keep (n₀ := 0) tab_ok Try.func113 rfl rfl rfl rfl ?_
  intro J hJ
  obtain rfl : o = J.o := by rw [ho, hJ]; rfl
  unfold f113 at H
  cbv
  repeat' (first
    | ((with_reducible first | refine awp_go2 ?_ | refine aops_go2 ?_ | refine strip_go2 ?_ | refine draw_go2 ?_ | refine frames_go2 ?_); cbv)
    | with_reducible exact id
    | exact trivial
    | with_reducible exact rfl
    | with_reducible exact ⟨_, rfl⟩
    | exact none_go H
    | (cases H; replace H := HX0; clear HX0; dsimp only at H)
    | (refine KeepQ.mk [] (by decide) ?_; cbv; cases H; refine hK _ _ _ _ ?_ ?_ rfl h <;> cbv)
    | (refine hN0 _ _ _ _ H ?_; with_reducible refine wkEnv_go2 ?_; cbv)
    | (refine ifB_go H ?_ ?_ <;> clear H <;> intro hh H)
    | (refine ifB_og H ?_ ?_ <;> clear H <;> intro hh H)
    | (refine req_go H ?_; clear H; intro hh H)
    | (refine gg_t ho H ?_ ?_ <;> clear H <;> intro hh H)
    | (refine gg_f ho H ?_ ?_ <;> clear H <;> intro hh H)
    | (refine bit_go ho H ?_ ?_ <;> clear H <;> intro hh H; (all_goals cbv))
    | (refine nil_go H ?_; clear H; intro b H; cbv)
    | (refine tok_go ?_; cbv)
    | (refine sh5_get H ?_; clear H; intro _ he H; cbv)
    | (refine sh5_find H ?_ ?_ <;> clear H; (intro _ H; cbv); (intro H; cbv))
    | (refine getA_go (β := UInt8) H ?_; clear H; intro e H; cbv)
    | (obtain ⟨R, hR, H2⟩ := bindR_go H; refine call_in hJ [] (by decide) rfl rfl rfl (f126_call _ ho _ _ hR _ _ ?_); clear H hR; rcases R with ⟨_⟩; all_goals (replace H := H2; clear H2; dsimp only at H; cbv))
    | (refine f113_l0_go hJ H (by decide) ⟨?_, ?_, rfl, rfl⟩ ?_
       · cbv
         repeat' (first | exact trivial | exact rfl | apply And.intro)
       · cbv
         repeat' (first | exact trivial | exact rfl | apply And.intro)
       clear H
       intro X0 HX0 n _ _ H Nx0 hN0
       rw [f113_l0] at H
       cbv)
    | (refine lit_t ?_; cbv)
    | (refine lit_f ?_; cbv)
    | (refine known_t (by assumption) ?_)
    | (refine known_f (by assumption) ?_)
    | (refine known_x (by assumption) ?_)
    | (refine known_y (by assumption) ?_)
    | (refine known_get (by assumption) ?_; cbv)
    | (refine known_and (by assumption) ?_)
    | with_reducible refine And.intro ?_ ?_
    | (intro hh; exact hh)
    | (intro _; assumption)
    | (intro _; clear H h; (try clear hN0); (try clear HX0); simp only [ho, stdOps] at *; simp_all))

/-! (*pontoon/pontoonref01.Unpacker).Spoil -/
inductive F114R where
  | v0 (y0 : List AV) (y1 : Int)
def F114R.av : F114R → AV
  | .v0 _ _ => .tup []
def F114R.hp : F114R → List Ent
  | .v0 y0 y1 => [.var [.sl 1 y0 .no, .int .i64 y1]]
noncomputable def f114 (o : Ops) (_fuel : Nat) (a0 : Int) (a1 : List AV) (a2 : Int) : Option F114R :=
  ifB (o.cmp .eql a2 0)
  (ifB (o.bnot (o.cmp .eql a0 0))
   (some (.v0 [] a0))
   (some (.v0 a1 a0)))
  (ifB (o.bnot (o.cmp .eql a2 0))
   (some (.v0 [] a2))
   (some (.v0 a1 a2)))
set_option maxHeartbeats 4000000 in
set_option maxRecDepth 100000 in
theorem f114_call (o : Ops) (ho : o = stdOps) (fuel : Nat) (a0 : Int) (a1 : List AV) (a2 : Int) {R : F114R} (H : f114 o fuel a0 a1 a2 = some R) (K : AV → List Ent → Prop) (E : AV → List Ent → Prop) (h : K R.av R.hp) : CallA Try.prog 114 [.ptr 0 0, .int .i64 a0] [.var [.sl 1 a1 .no, .int .i64 a2]] K E := by
  refine call_wk fun K' hK => ?_
  refine call_keep (n₀ := 1) tab_ok Try.func114 rfl rfl rfl rfl ?_
  intro J hJ
  obtain rfl : o = J.o := by rw [ho, hJ]; rfl
  unfold f114 at H
  cbv
  repeat' (first
    | ((with_reducible first | refine awp_go2 ?_ | refine aops_go2 ?_ | refine strip_go2 ?_ | refine draw_go2 ?_ | refine frames_go2 ?_); cbv)
    | with_reducible exact id
    | exact trivial
    | with_reducible exact rfl
    | with_reducible exact ⟨_, rfl⟩
    | exact none_go H
    | (refine KeepQ.mk [] (by decide) ?_; cbv; cases H; refine hK _ _ _ _ ?_ ?_ rfl h <;> cbv)
    | (refine ifB_go H ?_ ?_ <;> clear H <;> intro hh H)
    | (refine ifB_og H ?_ ?_ <;> clear H <;> intro hh H)
    | (refine req_go H ?_; clear H; intro hh H)
    | (refine gg_t ho H ?_ ?_ <;> clear H <;> intro hh H)
    | (refine gg_f ho H ?_ ?_ <;> clear H <;> intro hh H)
    | (refine bit_go ho H ?_ ?_ <;> clear H <;> intro hh H; (all_goals cbv))
    | (refine nil_go H ?_; clear H; intro b H; cbv)
    | (refine tok_go ?_; cbv)
    | (refine getA_go (β := UInt8) H ?_; clear H; intro e H; cbv)
    | (refine lit_t ?_; cbv)
    | (refine lit_f ?_; cbv)
    | (refine known_t (by assumption) ?_)
    | (refine known_f (by assumption) ?_)
    | (refine known_x (by assumption) ?_)
    | (refine known_y (by assumption) ?_)
    | (refine known_get (by assumption) ?_; cbv)
    | (refine known_and (by assumption) ?_)
    | with_reducible refine And.intro ?_ ?_
    | (intro hh; exact hh)
    | (intro _; assumption)
    | (intro _; clear H h; simp only [ho, stdOps] at *; simp_all))

/-! (*pontoon/pontoonref01.Unpacker).Int -/
inductive F88R where
  | v0 (y0 : Int) (y1 : List AV) (y2 : Int)
def F88R.av : F88R → AV
  | .v0 y0 _ _ => .int .i64 y0
def F88R.hp : F88R → List Ent
  | .v0 _ y1 y2 => [.var [.sl 1 y1 .no, .int .i64 y2]]
noncomputable def f88 (o : Ops) (fuel : Nat) (a0 : Int) (a1 : Int) (a2 : List AV) (a3 : Int) : Option F88R :=
  ifB (o.bnot (o.cmp .eql a3 0))
  (some (.v0 0 a2 a3))
  (bindR (f113 o fuel a2) fun r => match r with
   | .v0 r4 r5 r6 => ifB (o.pick (o.cmp .eql r6 0) (o.pick (o.cmp .lss r4 a0) true (o.cmp .gtr r4 a1)) false)
     (ifB (o.bnot (o.cmp .eql 11 0))
      (bindR (f114 o fuel 11 a2 a3) fun r => match r with
       | .v0 r7 r8 => some (.v0 0 r7 r8))
      (req (o.le 0 r5) <|
       req (o.le r5 (o.len a2)) <|
       some (.v0 r4 (o.drop a2 r5) a3)))
     (ifB (o.bnot (o.cmp .eql r6 0))
      (bindR (f114 o fuel r6 a2 a3) fun r => match r with
       | .v0 r9 r10 => some (.v0 0 r9 r10))
      (req (o.le 0 r5) <|
       req (o.le r5 (o.len a2)) <|
       some (.v0 r4 (o.drop a2 r5) a3))))
set_option maxHeartbeats 4000000 in
set_option maxRecDepth 100000 in
theorem f88_call (o : Ops) (ho : o = stdOps) (fuel : Nat) (a0 : Int) (a1 : Int) (a2 : List AV) (a3 : Int) {R : F88R} (H : f88 o fuel a0 a1 a2 a3 = some R) (K : AV → List Ent → Prop) (E : AV → List Ent → Prop) (h : K R.av R.hp) : CallA Try.prog 88 [.ptr 0 0, .int .i64 a0, .int .i64 a1] [.var [.sl 1 a2 .no, .int .i64 a3]] K E := by
  refine call_wk fun K' hK => ?_
  refine call_keep (n₀ := 1) tab_ok Try.func88 rfl rfl rfl rfl ?_
  intro J hJ
  obtain rfl : o = J.o := by rw [ho, hJ]; rfl
  unfold f88 at H
  cbv
  repeat' (first
    | ((with_reducible first | refine awp_go2 ?_ | refine aops_go2 ?_ | refine strip_go2 ?_ | refine draw_go2 ?_ | refine frames_go2 ?_); cbv)
    | with_reducible exact id
    | exact trivial
    | with_reducible exact rfl
    | with_reducible exact ⟨_, rfl⟩
    | exact none_go H
    | (refine KeepQ.mk [] (by decide) ?_; cbv; cases H; refine hK _ _ _ _ ?_ ?_ rfl h <;> cbv)
    | (refine ifB_go H ?_ ?_ <;> clear H <;> intro hh H)
    | (refine ifB_og H ?_ ?_ <;> clear H <;> intro hh H)
    | (refine req_go H ?_; clear H; intro hh H)
    | (refine gg_t ho H ?_ ?_ <;> clear H <;> intro hh H)
    | (refine gg_f ho H ?_ ?_ <;> clear H <;> intro hh H)
    | (refine bit_go ho H ?_ ?_ <;> clear H <;> intro hh H; (all_goals cbv))
    | (refine nil_go H ?_; clear H; intro b H; cbv)
    | (refine tok_go ?_; cbv)
    | (refine getA_go (β := UInt8) H ?_; clear H; intro e H; cbv)
    | (obtain ⟨R, hR, H2⟩ := bindR_go H; refine call_in hJ [0] (by decide) rfl rfl rfl (f114_call _ ho _ _ _ _ hR _ _ ?_); clear H hR; rcases R with ⟨_, _⟩; all_goals (replace H := H2; clear H2; dsimp only at H; cbv))
    | (obtain ⟨R, hR, H2⟩ := bindR_go H; refine call_in hJ [] (by decide) rfl rfl rfl (f113_call _ ho _ _ hR _ _ ?_); clear H hR; rcases R with ⟨_, _, _⟩; all_goals (replace H := H2; clear H2; dsimp only at H; cbv))
    | (refine lit_t ?_; cbv)
    | (refine lit_f ?_; cbv)
    | (refine known_t (by assumption) ?_)
    | (refine known_f (by assumption) ?_)
    | (refine known_x (by assumption) ?_)
    | (refine known_y (by assumption) ?_)
    | (refine known_get (by assumption) ?_; cbv)
    | (refine known_and (by assumption) ?_)
    | with_reducible refine And.intro ?_ ?_
    | (intro hh; exact hh)
    | (intro _; assumption)
    | (intro _; clear H h; simp only [ho, stdOps] at *; simp_all))

/-! pontoon/pontoonref05.Any -/
inductive F87R where
  | v0 (y0 : Int) (y1 : List AV) (y2 : Int)
def F87R.av : F87R → AV
  | .v0 y0 _ _ => .int .i64 y0
def F87R.hp : F87R → List Ent
  | .v0 _ y1 y2 => [.var [.sl 1 y1 .no, .int .i64 y2]]
noncomputable def f87 (o : Ops) (fuel : Nat) (a0 : List AV) (a1 : Int) : Option F87R :=
  bindR (f88 o fuel (-9223372036854775808) 9223372036854775807 a0 a1) fun r => match r with
  | .v0 r2 r3 r4 => some (.v0 r2 r3 r4)
set_option maxHeartbeats 4000000 in
set_option maxRecDepth 100000 in
theorem f87_call (o : Ops) (ho : o = stdOps) (fuel : Nat) (a0 : List AV) (a1 : Int) {R : F87R} (H : f87 o fuel a0 a1 = some R) (K : AV → List Ent → Prop) (E : AV → List Ent → Prop) (h : K R.av R.hp) : CallA Try.prog 87 [.ptr 0 0] [.var [.sl 1 a0 .no, .int .i64 a1]] K E := by
  refine call_wk fun K' hK => ?_
  refine call_keep (n₀ := 1) tab_ok Try.func87 rfl rfl rfl rfl ?_
  intro J hJ
  obtain rfl : o = J.o := by rw [ho, hJ]; rfl
  unfold f87 at H
  cbv
  repeat' (first
    | ((with_reducible first | refine awp_go2 ?_ | refine aops_go2 ?_ | refine strip_go2 ?_ | refine draw_go2 ?_ | refine frames_go2 ?_); cbv)
    | with_reducible exact id
    | exact trivial
    | with_reducible exact rfl
    | with_reducible exact ⟨_, rfl⟩
    | exact none_go H
    | (refine KeepQ.mk [] (by decide) ?_; cbv; cases H; refine hK _ _ _ _ ?_ ?_ rfl h <;> cbv)
    | (refine ifB_go H ?_ ?_ <;> clear H <;> intro hh H)
    | (refine ifB_og H ?_ ?_ <;> clear H <;> intro hh H)
    | (refine req_go H ?_; clear H; intro hh H)
    | (refine gg_t ho H ?_ ?_ <;> clear H <;> intro hh H)
    | (refine gg_f ho H ?_ ?_ <;> clear H <;> intro hh H)
    | (refine bit_go ho H ?_ ?_ <;> clear H <;> intro hh H; (all_goals cbv))
    | (refine nil_go H ?_; clear H; intro b H; cbv)
    | (refine tok_go ?_; cbv)
    | (refine getA_go (β := UInt8) H ?_; clear H; intro e H; cbv)
    | (obtain ⟨R, hR, H2⟩ := bindR_go H; refine call_in hJ [0] (by decide) rfl rfl rfl (f88_call _ ho _ _ _ _ _ hR _ _ ?_); clear H hR; rcases R with ⟨_, _, _⟩; all_goals (replace H := H2; clear H2; dsimp only at H; cbv))
    | (refine lit_t ?_; cbv)
    | (refine lit_f ?_; cbv)
    | (refine known_t (by assumption) ?_)
    | (refine known_f (by assumption) ?_)
    | (refine known_x (by assumption) ?_)
    | (refine known_y (by assumption) ?_)
    | (refine known_get (by assumption) ?_; cbv)
    | (refine known_and (by assumption) ?_)
    | with_reducible refine And.intro ?_ ?_
    | (intro hh; exact hh)
    | (intro _; assumption)
    | (intro _; clear H h; simp only [ho, stdOps] at *; simp_all))

/-! (*pontoon/pontoonref01.Unpacker).Close -/
inductive F89R where
  | v0 (y0 : Int) (y1 : List AV) (y2 : Int)
def F89R.av : F89R → AV
  | .v0 y0 _ _ => .int .i64 y0
def F89R.hp : F89R → List Ent
  | .v0 _ y1 y2 => [.var [.sl 1 y1 .no, .int .i64 y2]]
noncomputable def f89 (o : Ops) (_fuel : Nat) (a0 : List AV) (a1 : Int) : Option F89R :=
  ifB (o.cmp .eql a1 0)
  (ifB (o.cmp .gtr (o.len a0) 0)
   (some (.v0 12 a0 a1))
   (some (.v0 a1 a0 a1)))
  (some (.v0 a1 a0 a1))
set_option maxHeartbeats 4000000 in
set_option maxRecDepth 100000 in
theorem f89_call (o : Ops) (ho : o = stdOps) (fuel : Nat) (a0 : List AV) (a1 : Int) {R : F89R} (H : f89 o fuel a0 a1 = some R) (K : AV → List Ent → Prop) (E : AV → List Ent → Prop) (h : K R.av R.hp) : CallA Try.prog 89 [.ptr 0 0] [.var [.sl 1 a0 .no, .int .i64 a1]] K E := by
  refine call_wk fun K' hK => ?_
  refine call_keep (n₀ := 1) tab_ok Try.func89 rfl rfl rfl rfl ?_
  intro J hJ
  obtain rfl : o = J.o := by rw [ho, hJ]; rfl
  unfold f89 at H
  cbv
  repeat' (first
    | ((with_reducible first | refine awp_go2 ?_ | refine aops_go2 ?_ | refine strip_go2 ?_ | refine draw_go2 ?_ | refine frames_go2 ?_); cbv)
    | with_reducible exact id
    | exact trivial
    | with_reducible exact rfl
    | with_reducible exact ⟨_, rfl⟩
    | exact none_go H
    | (refine KeepQ.mk [] (by decide) ?_; cbv; cases H; refine hK _ _ _ _ ?_ ?_ rfl h <;> cbv)
    | (refine ifB_go H ?_ ?_ <;> clear H <;> intro hh H)
    | (refine ifB_og H ?_ ?_ <;> clear H <;> intro hh H)
    | (refine req_go H ?_; clear H; intro hh H)
    | (refine gg_t ho H ?_ ?_ <;> clear H <;> intro hh H)
    | (refine gg_f ho H ?_ ?_ <;> clear H <;> intro hh H)
    | (refine bit_go ho H ?_ ?_ <;> clear H <;> intro hh H; (all_goals cbv))
    | (refine nil_go H ?_; clear H; intro b H; cbv)
    | (refine tok_go ?_; cbv)
    | (refine getA_go (β := UInt8) H ?_; clear H; intro e H; cbv)
    | (refine lit_t ?_; cbv)
    | (refine lit_f ?_; cbv)
    | (refine known_t (by assumption) ?_)
    | (refine known_f (by assumption) ?_)
    | (refine known_x (by assumption) ?_)
    | (refine known_y (by assumption) ?_)
    | (refine known_get (by assumption) ?_; cbv)
    | (refine known_and (by assumption) ?_)
    | with_reducible refine And.intro ?_ ?_
    | (intro hh; exact hh)
    | (intro _; assumption)
    | (intro _; clear H h; simp only [ho, stdOps] at *; simp_all))

/-! pontoon/pontoonref05.Parse -/
inductive F43R where
  | v0 (y0 : Int) (y1 : List AV) (y2 : Int)
def F43R.av : F43R → AV
  | .v0 y0 y1 y2 => .tup [.agg [.int .i64 y0, .sl 5 y1 .no], .int .i64 y2]
def F43R.hp : F43R → List Ent
  | .v0 _ _ _ => []
inductive F43L1 where
  | x0 (y0 : List AV) (y1 : Int) (y2 : List AV) (y3 : Nat)
noncomputable def f43_l1 (o : Ops) (fuel : Nat) (r110 : Int) (r6 : Int) (w94 : Int) (r3 : Int) (w97 : List AV) (w93 : Nat) (r98 : Int) (r101 : Int) (r104 : Int) (r107 : Int) : Nat → Nat → Int → List AV → Int → List AV → Option F43L1
  | 0, _, _, _, _, _ => none
  | n + 1, w125, w126, w127, w128, w129 =>
    ifB (o.cmp .lss w126 r110)
    (ifB (o.cmp .eql w128 0)
     (bindR (f87 o fuel w127 w128) fun r => match r with
      | .v0 r130 r131 r132 => bindR (f87 o fuel r131 r132) fun r => match r with
        | .v0 r133 r134 r135 => req (o.room w129 [.agg [.int .i64 r130, .int .i64 r133]] 16) <|
          f43_l1 o fuel r110 r6 w94 r3 w97 w93 r98 r101 r104 r107 n (o.padd w125 [.agg [.int .i64 r130, .int .i64 r133]]) (o.ar .add .i64 w126 1) r134 r135 (o.apnd w129 [.agg [.int .i64 r130, .int .i64 r133]]))
     (some (.x0 w127 w128 w129 w125)))
    (some (.x0 w127 w128 w129 w125))
theorem f43_l1_go {J : Jd} {n₀ : Nat} (hJ : J = std Try.prog n₀) {fuel : Nat} {r110 : Int} {r6 : Int} {w94 : Int} {r3 : Int} {w97 : List AV} {w93 : Nat} {r98 : Int} {r101 : Int} {r104 : Int} {r107 : Int} {w125i : Nat} {w126i : Int} {w127i : List AV} {w128i : Int} {w129i : List AV} {α : Type} {k : F43L1 → Option α} {r : α} {c : Code} {Q : Ex → St → Prop} {s : St}
    (H : bindR (f43_l1 J.o fuel r110 r6 w94 r3 w97 w93 r98 r101 r104 r107 fuel w125i w126i w127i w128i w129i) k = some r) (hn : n₀ ≤ 6) (hle : Turn n₀ s ⟨[(10, .int .i64 w126i), (9, .int .i64 r110), (8, .ptr 4 0), (7, .int .i64 w94), (6, .int .i64 r6), (5, .ptr 2 0), (4, .ptr 1 0), (2, .ptr 0 0)], [.var [.int .i64 0, .nils], .var [.sl 1 w127i .no, .int .i64 w128i], .var [.int .i64 r3, .sl 5 w97 (.tip 3 w93)], .tip w93, .var [.int .i64 r98, .int .i64 r101, .int .i64 r104, .int .i64 r107, .sl 2 w129i (.tip 5 w125i)], .tip w125i], 94⟩)
    (round : ∀ X, k X = some r → ∀ (n : Nat) (w125 : Nat) (w126 : Int) (w127 : List AV) (w128 : Int) (w129 : List AV), f43_l1 J.o fuel r110 r6 w94 r3 w97 w93 r98 r101 r104 r107 (n + 1) w125 w126 w127 w128 w129 = some X → ∀ N : St → Prop,
      (∀ (env : List (Nat × AV)) (w125' : Nat) (w126' : Int) (w127' : List AV) (w128' : Int) (w129' : List AV) (v : List Ent), f43_l1 J.o fuel r110 r6 w94 r3 w97 w93 r98 r101 r104 r107 n w125' w126' w127' w128' w129' = some X → wkEnv env [(10, .int .i64 w126'), (9, .int .i64 r110), (8, .ptr 4 0), (7, .int .i64 w94), (6, .int .i64 r6), (5, .ptr 2 0), (4, .ptr 1 0), (2, .ptr 0 0)] → N ⟨env, [.var [.int .i64 0, .nils], .var [.sl 1 w127' .no, .int .i64 w128'], .var [.int .i64 r3, .sl 5 w97 (.tip 3 w93)], .tip w93, .var [.int .i64 r98, .int .i64 r101, .int .i64 r104, .int .i64 r107, .sl 2 w129' (.tip 5 w125')], .tip w125'] ++ v, 94⟩) → awp J tab c (thenQ N Q) ⟨[(10, .int .i64 w126), (9, .int .i64 r110), (8, .ptr 4 0), (7, .int .i64 w94), (6, .int .i64 r6), (5, .ptr 2 0), (4, .ptr 1 0), (2, .ptr 0 0)], [.var [.int .i64 0, .nils], .var [.sl 1 w127 .no, .int .i64 w128], .var [.int .i64 r3, .sl 5 w97 (.tip 3 w93)], .tip w93, .var [.int .i64 r98, .int .i64 r101, .int .i64 r104, .int .i64 r107, .sl 2 w129 (.tip 5 w125)], .tip w125], 94⟩) : J.code (.loop c) Q s := by
  obtain ⟨X, hX, HX⟩ := bindR_go H
  refine loop_turn_at (β := Nat × Nat × Int × List AV × Int × List AV) hJ tab_ok (fun | (_, w125, w126, w127, w128, w129) => ⟨[(10, .int .i64 w126), (9, .int .i64 r110), (8, .ptr 4 0), (7, .int .i64 w94), (6, .int .i64 r6), (5, .ptr 2 0), (4, .ptr 1 0), (2, .ptr 0 0)], [.var [.int .i64 0, .nils], .var [.sl 1 w127 .no, .int .i64 w128], .var [.int .i64 r3, .sl 5 w97 (.tip 3 w93)], .tip w93, .var [.int .i64 r98, .int .i64 r101, .int .i64 r104, .int .i64 r107, .sl 2 w129 (.tip 5 w125)], .tip w125], 94⟩) (fun | (n, w125, w126, w127, w128, w129) => f43_l1 J.o fuel r110 r6 w94 r3 w97 w93 r98 r101 r104 r107 n w125 w126 w127 w128 w129 = some X) (fun | (n, _, _, _, _, _) => n) (fuel, w125i, w126i, w127i, w128i, w129i) hX hle (by rintro ⟨_, _, _, _, _, _⟩; exact hn) ?_
  rintro ⟨n, w125, w126, w127, w128, w129⟩ hb N hN
  rcases n with _ | n
  · exact none_go (show (none : Option F43L1) = some X from hb)
  exact round X HX n w125 w126 w127 w128 w129 hb N fun env w125' w126' w127' w128' w129' v h1 h2 => hN _ (n, w125', w126', w127', w128', w129') h1 (Nat.lt_succ_self n) (Turn.le ⟨h2, by cbv; repeat' (first | exact trivial | exact rfl | apply And.intro), rfl, rfl⟩ (by simp; omega))

inductive F43L0 where
  | x0 (y0 : List AV) (y1 : Int) (y2 : List AV) (y3 : Nat)
noncomputable def f43_l0 (o : Ops) (fuel : Nat) (r6 : Int) (r3 : Int) : Nat → Nat → Int → List AV → Int → List AV → Option F43L0
  | 0, _, _, _, _, _ => none
  | n + 1, w93, w94, w95, w96, w97 =>
    ifB (o.cmp .lss w94 r6)
    (ifB (o.cmp .eql w96 0)
     (bindR (f87 o fuel w95 w96) fun r => match r with
      | .v0 r98 r99 r100 => bindR (f87 o fuel r99 r100) fun r => match r with
        | .v0 r101 r102 r103 => bindR (f87 o fuel r102 r103) fun r => match r with
          | .v0 r104 r105 r106 => bindR (f87 o fuel r105 r106) fun r => match r with
            | .v0 r107 r108 r109 => bindR (f88 o fuel 0 1024 r108 r109) fun r => match r with
              | .v0 r110 r111 r112 => bindR (f43_l1 o fuel r110 r6 w94 r3 w97 w93 r98 r101 r104 r107 fuel 0 0 r111 r112 []) fun r => match r with
                | .x0 y136 y137 y138 _ => req (o.room w97 [.agg [.int .i64 r98, .int .i64 r101, .int .i64 r104, .int .i64 r107, .sl 2 y138 .no]] 56) <|
                  f43_l0 o fuel r6 r3 n (o.padd w93 [.agg [.int .i64 r98, .int .i64 r101, .int .i64 r104, .int .i64 r107, .sl 2 y138 .no]]) (o.ar .add .i64 w94 1) y136 y137 (o.apnd w97 [.agg [.int .i64 r98, .int .i64 r101, .int .i64 r104, .int .i64 r107, .sl 2 y138 .no]]))
     (some (.x0 w95 w96 w97 w93)))
    (some (.x0 w95 w96 w97 w93))
theorem f43_l0_go {J : Jd} {n₀ : Nat} (hJ : J = std Try.prog n₀) {fuel : Nat} {r6 : Int} {r3 : Int} {w93i : Nat} {w94i : Int} {w95i : List AV} {w96i : Int} {w97i : List AV} {α : Type} {k : F43L0 → Option α} {r : α} {c : Code} {Q : Ex → St → Prop} {s : St}
    (H : bindR (f43_l0 J.o fuel r6 r3 fuel w93i w94i w95i w96i w97i) k = some r) (hn : n₀ ≤ 4) (hle : Turn n₀ s ⟨[(7, .int .i64 w94i), (6, .int .i64 r6), (5, .ptr 2 0), (4, .ptr 1 0), (2, .ptr 0 0)], [.var [.int .i64 0, .nils], .var [.sl 1 w95i .no, .int .i64 w96i], .var [.int .i64 r3, .sl 5 w97i (.tip 3 w93i)], .tip w93i], 94⟩)
    (round : ∀ X, k X = some r → ∀ (n : Nat) (w93 : Nat) (w94 : Int) (w95 : List AV) (w96 : Int) (w97 : List AV), f43_l0 J.o fuel r6 r3 (n + 1) w93 w94 w95 w96 w97 = some X → ∀ N : St → Prop,
      (∀ (env : List (Nat × AV)) (w93' : Nat) (w94' : Int) (w95' : List AV) (w96' : Int) (w97' : List AV) (v : List Ent), f43_l0 J.o fuel r6 r3 n w93' w94' w95' w96' w97' = some X → wkEnv env [(7, .int .i64 w94'), (6, .int .i64 r6), (5, .ptr 2 0), (4, .ptr 1 0), (2, .ptr 0 0)] → N ⟨env, [.var [.int .i64 0, .nils], .var [.sl 1 w95' .no, .int .i64 w96'], .var [.int .i64 r3, .sl 5 w97' (.tip 3 w93')], .tip w93'] ++ v, 94⟩) → awp J tab c (thenQ N Q) ⟨[(7, .int .i64 w94), (6, .int .i64 r6), (5, .ptr 2 0), (4, .ptr 1 0), (2, .ptr 0 0)], [.var [.int .i64 0, .nils], .var [.sl 1 w95 .no, .int .i64 w96], .var [.int .i64 r3, .sl 5 w97 (.tip 3 w93)], .tip w93], 94⟩) : J.code (.loop c) Q s := by
  obtain ⟨X, hX, HX⟩ := bindR_go H
  refine loop_turn_at (β := Nat × Nat × Int × List AV × Int × List AV) hJ tab_ok (fun | (_, w93, w94, w95, w96, w97) => ⟨[(7, .int .i64 w94), (6, .int .i64 r6), (5, .ptr 2 0), (4, .ptr 1 0), (2, .ptr 0 0)], [.var [.int .i64 0, .nils], .var [.sl 1 w95 .no, .int .i64 w96], .var [.int .i64 r3, .sl 5 w97 (.tip 3 w93)], .tip w93], 94⟩) (fun | (n, w93, w94, w95, w96, w97) => f43_l0 J.o fuel r6 r3 n w93 w94 w95 w96 w97 = some X) (fun | (n, _, _, _, _, _) => n) (fuel, w93i, w94i, w95i, w96i, w97i) hX hle (by rintro ⟨_, _, _, _, _, _⟩; exact hn) ?_
  rintro ⟨n, w93, w94, w95, w96, w97⟩ hb N hN
  rcases n with _ | n
  · exact none_go (show (none : Option F43L0) = some X from hb)
  exact round X HX n w93 w94 w95 w96 w97 hb N fun env w93' w94' w95' w96' w97' v h1 h2 => hN _ (n, w93', w94', w95', w96', w97') h1 (Nat.lt_succ_self n) (Turn.le ⟨h2, by cbv; repeat' (first | exact trivial | exact rfl | apply And.intro), rfl, rfl⟩ (by simp; omega))

noncomputable def f43 (o : Ops) (fuel : Nat) (a0 : List AV) : Option F43R :=
  bindR (f86 o fuel a0) fun r => match r with
  | .v0 r1 r2 => bindR (f87 o fuel r1 r2) fun r => match r with
    | .v0 r3 r4 r5 => bindR (f88 o fuel 0 1024 r4 r5) fun r => match r with
      | .v0 r6 r7 r8 => bindR (f43_l0 o fuel r6 r3 fuel 0 0 r7 r8 []) fun r => match r with
        | .x0 y140 y141 y142 _ => bindR (f89 o fuel y140 y141) fun r => match r with
          | .v0 r144 _ _ => ifB (o.bnot (o.cmp .eql r144 0))
            (some (.v0 0 [] r144))
            (bindR (f27 o fuel r3 y142) fun r => match r with
             | .v0 _ r148 => ifB (o.bnot (o.cmp .eql r148 0))
               (some (.v0 0 [] r148))
               (some (.v0 r3 y142 0)))
set_option maxHeartbeats 4000000 in
set_option maxRecDepth 100000 in
theorem f43_call (o : Ops) (ho : o = stdOps) (fuel : Nat) (a0 : List AV) {R : F43R} (H : f43 o fuel a0 = some R) (K : AV → List Ent → Prop) (E : AV → List Ent → Prop) (h : K R.av R.hp) : CallA Try.prog 43 [.sl 1 a0 .no] [] K E := by
  refine call_wk fun K' hK => ?_
  refine call_keep (n₀ := 0) tab_ok Try.func43 rfl rfl rfl rfl ?_
  intro J hJ
  obtain rfl : o = J.o := by rw [ho, hJ]; rfl
  unfold f43 at H
  cbv
  repeat' (first
    | ((with_reducible first | refine awp_go2 ?_ | refine aops_go2 ?_ | refine strip_go2 ?_ | refine draw_go2 ?_ | refine frames_go2 ?_); cbv)
    | with_reducible exact id
    | exact trivial
    | with_reducible exact rfl
    | with_reducible exact ⟨_, rfl⟩
    | exact none_go H
    | (cases H; replace H := HX1; clear HX1; dsimp only at H)
    | (cases H; replace H := HX0; clear HX0; dsimp only at H)
    | (refine KeepQ.mk [] (by decide) ?_; cbv; cases H; refine hK _ _ _ _ ?_ ?_ rfl h <;> cbv)
    | (refine hN0 _ _ _ _ _ _ _ H ?_; with_reducible refine wkEnv_go2 ?_; cbv)
    | (refine hN1 _ _ _ _ _ _ _ H ?_; with_reducible refine wkEnv_go2 ?_; cbv)
    | (refine ifB_go H ?_ ?_ <;> clear H <;> intro hh H)
    | (refine ifB_og H ?_ ?_ <;> clear H <;> intro hh H)
    | (refine req_go H ?_; clear H; intro hh H)
    | (refine gg_t ho H ?_ ?_ <;> clear H <;> intro hh H)
    | (refine gg_f ho H ?_ ?_ <;> clear H <;> intro hh H)
    | (refine bit_go ho H ?_ ?_ <;> clear H <;> intro hh H; (all_goals cbv))
    | (refine nil_go H ?_; clear H; intro b H; cbv)
    | (refine tok_go ?_; cbv)
    | (refine getA_go (β := UInt8) H ?_; clear H; intro e H; cbv)
    | (obtain ⟨R, hR, H2⟩ := bindR_go H; refine call_in hJ [1] (by decide) rfl rfl rfl (f87_call _ ho _ _ _ hR _ _ ?_); clear H hR; rcases R with ⟨_, _, _⟩; all_goals (replace H := H2; clear H2; dsimp only at H; cbv))
    | (obtain ⟨R, hR, H2⟩ := bindR_go H; refine call_in hJ [1] (by decide) rfl rfl rfl (f88_call _ ho _ _ _ _ _ hR _ _ ?_); clear H hR; rcases R with ⟨_, _, _⟩; all_goals (replace H := H2; clear H2; dsimp only at H; cbv))
    | (obtain ⟨R, hR, H2⟩ := bindR_go H; refine call_in hJ [] (by decide) rfl rfl rfl (f27_call _ ho _ _ _ hR _ _ ?_); clear H hR; rcases R with ⟨_, _⟩; all_goals (replace H := H2; clear H2; dsimp only at H; cbv))
    | (obtain ⟨R, hR, H2⟩ := bindR_go H; refine call_in hJ [1] (by decide) rfl rfl rfl (f89_call _ ho _ _ _ hR _ _ ?_); clear H hR; rcases R with ⟨_, _, _⟩; all_goals (replace H := H2; clear H2; dsimp only at H; cbv))
    | (obtain ⟨R, hR, H2⟩ := bindR_go H; refine call_in hJ [] (by decide) rfl rfl rfl (f86_call _ ho _ _ hR _ _ ?_); clear H hR; rcases R with ⟨_, _⟩; all_goals (replace H := H2; clear H2; dsimp only at H; cbv))
    | (refine f43_l0_go hJ H (by decide) (Turn.trans (turn_tip 2 1 5 rfl rfl (Nat.le_of_ble_eq_true rfl)) (Turn.le ⟨?_, ?_, rfl, rfl⟩ (Nat.le_of_ble_eq_true rfl))) ?_
       · cbv
         repeat' (first | exact trivial | exact rfl | apply And.intro)
       · cbv
         repeat' (first | exact trivial | exact rfl | apply And.intro)
       clear H
       intro X0 HX0 n _ _ _ _ _ H Nx0 hN0
       rw [f43_l0] at H
       cbv)
    | (refine f43_l1_go hJ H (by decide) (Turn.trans (turn_tip 4 4 2 rfl rfl (Nat.le_of_ble_eq_true rfl)) (Turn.le ⟨?_, ?_, rfl, rfl⟩ (Nat.le_of_ble_eq_true rfl))) ?_
       · cbv
         repeat' (first | exact trivial | exact rfl | apply And.intro)
       · cbv
         repeat' (first | exact trivial | exact rfl | apply And.intro)
       clear H
       intro X1 HX1 n _ _ _ _ _ H Nx1 hN1
       rw [f43_l1] at H
       cbv)
    | (refine lit_t ?_; cbv)
    | (refine lit_f ?_; cbv)
    | (refine known_t (by assumption) ?_)
    | (refine known_f (by assumption) ?_)
    | (refine known_x (by assumption) ?_)
    | (refine known_y (by assumption) ?_)
    | (refine known_get (by assumption) ?_; cbv)
    | (refine known_and (by assumption) ?_)
    | with_reducible refine And.intro ?_ ?_
    | (intro hh; exact hh)
    | (intro _; assumption)
    | (intro _; clear H h; (try clear hN0); (try clear HX0); (try clear hN1); (try clear HX1); simp only [ho, stdOps] at *; simp_all))

/-! slices.Clone[[]byte,byte] -/
inductive F108R where
  | v0 (y0 : List AV)
def F108R.av : F108R → AV
  | .v0 y0 => .sl 1 y0 .no
def F108R.hp : F108R → List Ent
  | .v0 _ => []
noncomputable def f108 (o : Ops) (_fuel : Nat) (a0 : List AV) : Option F108R :=
  isNil a0 false fun b1 =>
  ifB b1
  (some (.v0 []))
  (req (o.room [] a0 1) <|
   some (.v0 (o.apnd [] a0)))
set_option maxHeartbeats 4000000 in
set_option maxRecDepth 100000 in
theorem f108_call (o : Ops) (ho : o = stdOps) (fuel : Nat) (a0 : List AV) {R : F108R} (H : f108 o fuel a0 = some R) (K : AV → List Ent → Prop) (E : AV → List Ent → Prop) (h : K R.av R.hp) : CallA Try.prog 108 [.sl 1 a0 .no] [] K E := by
  refine call_wk fun K' hK => ?_
  refine call_keep (n₀ := 0) tab_ok Try.func108 rfl rfl rfl rfl ?_
  intro J hJ
  obtain rfl : o = J.o := by rw [ho, hJ]; rfl
  unfold f108 at H
  cbv
  repeat' (first
    | ((with_reducible first | refine awp_go2 ?_ | refine aops_go2 ?_ | refine strip_go2 ?_ | refine draw_go2 ?_ | refine frames_go2 ?_); cbv)
    | with_reducible exact id
    | exact trivial
    | with_reducible exact rfl
    | with_reducible exact ⟨_, rfl⟩
    | exact none_go H
    | (refine KeepQ.mk [] (by decide) ?_; cbv; cases H; refine hK _ _ _ _ ?_ ?_ rfl h <;> cbv)
    | (refine ifB_go H ?_ ?_ <;> clear H <;> intro hh H)
    | (refine ifB_og H ?_ ?_ <;> clear H <;> intro hh H)
    | (refine req_go H ?_; clear H; intro hh H)
    | (refine gg_t ho H ?_ ?_ <;> clear H <;> intro hh H)
    | (refine gg_f ho H ?_ ?_ <;> clear H <;> intro hh H)
    | (refine bit_go ho H ?_ ?_ <;> clear H <;> intro hh H; (all_goals cbv))
    | (refine nil_go H ?_; clear H; intro b H; cbv)
    | (refine tok_go ?_; cbv)
    | (refine getA_go (β := UInt8) H ?_; clear H; intro e H; cbv)
    | (refine lit_t ?_; cbv)
    | (refine lit_f ?_; cbv)
    | (refine known_t (by assumption) ?_)
    | (refine known_f (by assumption) ?_)
    | (refine known_x (by assumption) ?_)
    | (refine known_y (by assumption) ?_)
    | (refine known_get (by assumption) ?_; cbv)
    | (refine known_and (by assumption) ?_)
    | with_reducible refine And.intro ?_ ?_
    | (intro hh; exact hh)
    | (intro _; assumption)
    | (intro _; clear H h; simp only [ho, stdOps] at *; simp_all))

/-! pontoon/pack.Open -/
inductive F77R where
  | v0 (y0 : List AV) (y1 : Int) (y2 : Bool)
def F77R.av : F77R → AV
  | .v0 _ _ _ => .ptr 0 0
def F77R.hp : F77R → List Ent
  | .v0 y0 y1 y2 => [.var [.sl 1 y0 .no, .int .i64 y1, .bool y2]]
noncomputable def f77 (o : Ops) (fuel : Nat) (a0 : List AV) : Option F77R :=
  bindR (f108 o fuel a0) fun r => match r with
  | .v0 r1 => some (.v0 r1 0 true)
set_option maxHeartbeats 4000000 in
set_option maxRecDepth 100000 in
theorem f77_call (o : Ops) (ho : o = stdOps) (fuel : Nat) (a0 : List AV) {R : F77R} (H : f77 o fuel a0 = some R) (K : AV → List Ent → Prop) (E : AV → List Ent → Prop) (h : K R.av R.hp) : CallA Try.prog 77 [.sl 1 a0 .no] [] K E := by
  refine call_wk fun K' hK => ?_
  refine call_keep (n₀ := 0) tab_ok Try.func77 rfl rfl rfl rfl ?_
  intro J hJ
  obtain rfl : o = J.o := by rw [ho, hJ]; rfl
  unfold f77 at H
  cbv
  repeat' (first
    | ((with_reducible first | refine awp_go2 ?_ | refine aops_go2 ?_ | refine strip_go2 ?_ | refine draw_go2 ?_ | refine frames_go2 ?_); cbv)
    | with_reducible exact id
    | exact trivial
    | with_reducible exact rfl
    | with_reducible exact ⟨_, rfl⟩
    | exact none_go H
    | (refine KeepQ.mk [0] (by decide) ?_; cbv; cases H; refine hK _ _ _ _ ?_ ?_ rfl h <;> cbv)
    | (refine ifB_go H ?_ ?_ <;> clear H <;> intro hh H)
    | (refine ifB_og H ?_ ?_ <;> clear H <;> intro hh H)
    | (refine req_go H ?_; clear H; intro hh H)
    | (refine gg_t ho H ?_ ?_ <;> clear H <;> intro hh H)
    | (refine gg_f ho H ?_ ?_ <;> clear H <;> intro hh H)
    | (refine bit_go ho H ?_ ?_ <;> clear H <;> intro hh H; (all_goals cbv))
    | (refine nil_go H ?_; clear H; intro b H; cbv)
    | (refine tok_go ?_; cbv)
    | (refine getA_go (β := UInt8) H ?_; clear H; intro e H; cbv)
    | (obtain ⟨R, hR, H2⟩ := bindR_go H; refine call_in hJ [] (by decide) rfl rfl rfl (f108_call _ ho _ _ hR _ _ ?_); clear H hR; rcases R with ⟨_⟩; all_goals (replace H := H2; clear H2; dsimp only at H; cbv))
    | (refine lit_t ?_; cbv)
    | (refine lit_f ?_; cbv)
    | (refine known_t (by assumption) ?_)
    | (refine known_f (by assumption) ?_)
    | (refine known_x (by assumption) ?_)
    | (refine known_y (by assumption) ?_)
    | (refine known_get (by assumption) ?_; cbv)
    | (refine known_and (by assumption) ?_)
    | with_reducible refine And.intro ?_ ?_
    | (intro hh; exact hh)
    | (intro _; assumption)
    | (intro _; clear H h; simp only [ho, stdOps] at *; simp_all))

/-! (*pontoon/pack.Unpacker).Err -/
inductive F80R where
  | v0 (y0 : Int) (y1 : List AV) (y2 : Int) (y3 : Bool)
def F80R.av : F80R → AV
  | .v0 y0 _ _ _ => .int .i64 y0
def F80R.hp : F80R → List Ent
  | .v0 _ y1 y2 y3 => [.var [.sl 1 y1 .no, .int .i64 y2, .bool y3]]
noncomputable def f80 (o : Ops) (_fuel : Nat) (a0 : List AV) (a1 : Int) (a2 : Bool) : Option F80R :=
  ifB false
  (some (.v0 2 a0 a1 a2))
  (ifB (o.bnot a2)
   (some (.v0 2 a0 a1 a2))
   (some (.v0 a1 a0 a1 a2)))
set_option maxHeartbeats 4000000 in
set_option maxRecDepth 100000 in
theorem f80_call (o : Ops) (ho : o = stdOps) (fuel : Nat) (a0 : List AV) (a1 : Int) (a2 : Bool) {R : F80R} (H : f80 o fuel a0 a1 a2 = some R) (K : AV → List Ent → Prop) (E : AV → List Ent → Prop) (h : K R.av R.hp) : CallA Try.prog 80 [.ptr 0 0] [.var [.sl 1 a0 .no, .int .i64 a1, .bool a2]] K E := by
  refine call_wk fun K' hK => ?_
  refine call_keep (n₀ := 1) tab_ok Try.func80 rfl rfl rfl rfl ?_
  intro J hJ
  obtain rfl : o = J.o := by rw [ho, hJ]; rfl
  unfold f80 at H
  cbv
  repeat' (first
    | ((with_reducible first | refine awp_go2 ?_ | refine aops_go2 ?_ | refine strip_go2 ?_ | refine draw_go2 ?_ | refine frames_go2 ?_); cbv)
    | with_reducible exact id
    | exact trivial
    | with_reducible exact rfl
    | with_reducible exact ⟨_, rfl⟩
    | exact none_go H
    | (refine KeepQ.mk [] (by decide) ?_; cbv; cases H; refine hK _ _ _ _ ?_ ?_ rfl h <;> cbv)
    | (refine ifB_go H ?_ ?_ <;> clear H <;> intro hh H)
    | (refine ifB_og H ?_ ?_ <;> clear H <;> intro hh H)
    | (refine req_go H ?_; clear H; intro hh H)
    | (refine gg_t ho H ?_ ?_ <;> clear H <;> intro hh H)
    | (refine gg_f ho H ?_ ?_ <;> clear H <;> intro hh H)
    | (refine bit_go ho H ?_ ?_ <;> clear H <;> intro hh H; (all_goals cbv))
    | (refine nil_go H ?_; clear H; intro b H; cbv)
    | (refine tok_go ?_; cbv)
    | (refine getA_go (β := UInt8) H ?_; clear H; intro e H; cbv)
    | (refine lit_t ?_; cbv)
    | (refine lit_f ?_; cbv)
    | (refine known_t (by assumption) ?_)
    | (refine known_f (by assumption) ?_)
    | (refine known_x (by assumption) ?_)
    | (refine known_y (by assumption) ?_)
    | (refine known_get (by assumption) ?_; cbv)
    | (refine known_and (by assumption) ?_)
    | with_reducible refine And.intro ?_ ?_
    | (intro hh; exact hh)
    | (intro _; assumption)
    | (intro _; clear H h; simp only [ho, stdOps] at *; simp_all))

/-! (*pontoon/pack.Unpacker).stuck -/
inductive F109R where
  | v0 (y0 : Bool) (y1 : List AV) (y2 : Int) (y3 : Bool)
def F109R.av : F109R → AV
  | .v0 y0 _ _ _ => .bool y0
def F109R.hp : F109R → List Ent
  | .v0 _ y1 y2 y3 => [.var [.sl 1 y1 .no, .int .i64 y2, .bool y3]]
noncomputable def f109 (o : Ops) (fuel : Nat) (a0 : List AV) (a1 : Int) (a2 : Bool) : Option F109R :=
  bindR (f80 o fuel a0 a1 a2) fun r => match r with
  | .v0 r3 r4 r5 r6 => some (.v0 (o.bnot (o.cmp .eql r3 0)) r4 r5 r6)
set_option maxHeartbeats 4000000 in
set_option maxRecDepth 100000 in
theorem f109_call (o : Ops) (ho : o = stdOps) (fuel : Nat) (a0 : List AV) (a1 : Int) (a2 : Bool) {R : F109R} (H : f109 o fuel a0 a1 a2 = some R) (K : AV → List Ent → Prop) (E : AV → List Ent → Prop) (h : K R.av R.hp) : CallA Try.prog 109 [.ptr 0 0] [.var [.sl 1 a0 .no, .int .i64 a1, .bool a2]] K E := by
  refine call_wk fun K' hK => ?_
  refine call_keep (n₀ := 1) tab_ok Try.func109 rfl rfl rfl rfl ?_
  intro J hJ
  obtain rfl : o = J.o := by rw [ho, hJ]; rfl
  unfold f109 at H
  cbv
  repeat' (first
    | ((with_reducible first | refine awp_go2 ?_ | refine aops_go2 ?_ | refine strip_go2 ?_ | refine draw_go2 ?_ | refine frames_go2 ?_); cbv)
    | with_reducible exact id
    | exact trivial
    | with_reducible exact rfl
    | with_reducible exact ⟨_, rfl⟩
    | exact none_go H
    | (refine KeepQ.mk [] (by decide) ?_; cbv; cases H; refine hK _ _ _ _ ?_ ?_ rfl h <;> cbv)
    | (refine ifB_go H ?_ ?_ <;> clear H <;> intro hh H)
    | (refine ifB_og H ?_ ?_ <;> clear H <;> intro hh H)
    | (refine req_go H ?_; clear H; intro hh H)
    | (refine gg_t ho H ?_ ?_ <;> clear H <;> intro hh H)
    | (refine gg_f ho H ?_ ?_ <;> clear H <;> intro hh H)
    | (refine bit_go ho H ?_ ?_ <;> clear H <;> intro hh H; (all_goals cbv))
    | (refine nil_go H ?_; clear H; intro b H; cbv)
    | (refine tok_go ?_; cbv)
    | (refine getA_go (β := UInt8) H ?_; clear H; intro e H; cbv)
    | (obtain ⟨R, hR, H2⟩ := bindR_go H; refine call_in hJ [0] (by decide) rfl rfl rfl (f80_call _ ho _ _ _ _ hR _ _ ?_); clear H hR; rcases R with ⟨_, _, _, _⟩; all_goals (replace H := H2; clear H2; dsimp only at H; cbv))
    | (refine lit_t ?_; cbv)
    | (refine lit_f ?_; cbv)
    | (refine known_t (by assumption) ?_)
    | (refine known_f (by assumption) ?_)
    | (refine known_x (by assumption) ?_)
    | (refine known_y (by assumption) ?_)
    | (refine known_get (by assumption) ?_; cbv)
    | (refine known_and (by assumption) ?_)
    | with_reducible refine And.intro ?_ ?_
    | (intro hh; exact hh)
    | (intro _; assumption)
    | (intro _; clear H h; simp only [ho, stdOps] at *; simp_all))

/-! pontoon/pack.signed -/
inductive F124R where
  | v0 (y0 : Int)
def F124R.av : F124R → AV
  | .v0 y0 => .int .i64 y0
def F124R.hp : F124R → List Ent
  | .v0 _ => []
noncomputable def f124 (o : Ops) (_fuel : Nat) (a0 : Int) : Option F124R :=
  req (o.nn 1) <|
  bit2 (o.ar .and .u64 a0 1)
  (some (.v0 (o.ar .xor .i64 (o.wrap .i64 (o.sh .shr .u64 a0 1)) (o.neg .i64 (o.wrap .i64 0)))))
  (some (.v0 (o.ar .xor .i64 (o.wrap .i64 (o.sh .shr .u64 a0 1)) (o.neg .i64 (o.wrap .i64 1)))))
set_option maxHeartbeats 4000000 in
set_option maxRecDepth 100000 in
theorem f124_call (o : Ops) (ho : o = stdOps) (fuel : Nat) (a0 : Int) {R : F124R} (H : f124 o fuel a0 = some R) (K : AV → List Ent → Prop) (E : AV → List Ent → Prop) (h : K R.av R.hp) : CallA Try.prog 124 [.int .u64 a0] [] K E := by
  refine call_wk fun K' hK => ?_
  refine call_keep (n₀ := 0) tab_ok Try.func124 rfl rfl rfl rfl ?_
  intro J hJ
  obtain rfl : o = J.o := by rw [ho, hJ]; rfl
  unfold f124 at H
  cbv
  repeat' (first
    | ((with_reducible first | refine awp_go2 ?_ | refine aops_go2 ?_ | refine strip_go2 ?_ | refine draw_go2 ?_ | refine frames_go2 ?_); cbv)
    | with_reducible exact id
    | exact trivial
    | with_reducible exact rfl
    | with_reducible exact ⟨_, rfl⟩
    | exact none_go H
    | (refine KeepQ.mk [] (by decide) ?_; cbv; cases H; refine hK _ _ _ _ ?_ ?_ rfl h <;> cbv)
    | (refine ifB_go H ?_ ?_ <;> clear H <;> intro hh H)
    | (refine ifB_og H ?_ ?_ <;> clear H <;> intro hh H)
    | (refine req_go H ?_; clear H; intro hh H)
    | (refine gg_t ho H ?_ ?_ <;> clear H <;> intro hh H)
    | (refine gg_f ho H ?_ ?_ <;> clear H <;> intro hh H)
    | (refine bit_go ho H ?_ ?_ <;> clear H <;> intro hh H; (all_goals cbv))
    | (refine nil_go H ?_; clear H; intro b H; cbv)
    | (refine tok_go ?_; cbv)
    | (refine getA_go (β := UInt8) H ?_; clear H; intro e H; cbv)
    | (refine lit_t ?_; cbv)
    | (refine lit_f ?_; cbv)
    | (refine known_t (by assumption) ?_)
    | (refine known_f (by assumption) ?_)
    | (refine known_x (by assumption) ?_)
    | (refine known_y (by assumption) ?_)
    | (refine known_get (by assumption) ?_; cbv)
    | (refine known_and (by assumption) ?_)
    | with_reducible refine And.intro ?_ ?_
    | (intro hh; exact hh)
    | (intro _; assumption)
    | (intro _; clear H h; simp only [ho, stdOps] at *; simp_all))

/-! pontoon/pack.First -/
inductive F110R where
  | v0 (y0 : Int) (y1 : Int) (y2 : Int)
def F110R.av : F110R → AV
  | .v0 y0 y1 y2 => .tup [.int .i64 y0, .int .i64 y1, .int .i64 y2]
def F110R.hp : F110R → List Ent
  | .v0 _ _ _ => []
inductive F110L0 where
  | x0 (y0 : Int) (y1 : Int) (y2 : Int)
noncomputable def f110_l0 (o : Ops) (fuel : Nat) (a0 : List AV) : Nat → Int → Int → Option F110L0
  | 0, _, _ => none
  | n + 1, w8, w9 =>
    ifB (o.cmp .geq w9 (o.len a0))
    (some (.x0 0 0 10))
    (ifB (o.cmp .eql w9 0)
     (req (o.inb w9 (o.len a0)) <|
      getA (o.get a0 w9) fun e => sh5 e fun v10 =>
      ifB (o.pick (o.cmp .eql v10 128) true (o.cmp .gtr w8 144115188075855871))
      (some (.x0 0 0 11))
      (req (o.nn 7) <|
       req (o.inb w9 (o.len a0)) <|
       getA (o.get a0 w9) fun e => sh5 e fun v11 =>
       req (o.inb w9 (o.len a0)) <|
       getA (o.get a0 w9) fun e => sh5 e fun v12 =>
       ifB (o.cmp .lss v12 128)
       (bindR (f124 o fuel (o.ar .or .u64 (o.sh .shl .u64 w8 7) (o.wrap .u64 (o.ar .and .u8 v11 127)))) fun r => match r with
        | .v0 r13 => some (.x0 r13 (o.ar .add .i64 w9 1) 0))
       (f110_l0 o fuel a0 n (o.ar .or .u64 (o.sh .shl .u64 w8 7) (o.wrap .u64 (o.ar .and .u8 v11 127))) (o.ar .add .i64 w9 1))))
     (ifB (o.cmp .gtr w8 144115188075855871)
      (some (.x0 0 0 11))
      (req (o.nn 7) <|
       req (o.inb w9 (o.len a0)) <|
       getA (o.get a0 w9) fun e => sh5 e fun v14 =>
       req (o.inb w9 (o.len a0)) <|
       getA (o.get a0 w9) fun e => sh5 e fun v15 =>
       ifB (o.cmp .lss v15 128)
       (bindR (f124 o fuel (o.ar .or .u64 (o.sh .shl .u64 w8 7) (o.wrap .u64 (o.ar .and .u8 v14 127)))) fun r => match r with
        | .v0 r16 => some (.x0 r16 (o.ar .add .i64 w9 1) 0))
       (f110_l0 o fuel a0 n (o.ar .or .u64 (o.sh .shl .u64 w8 7) (o.wrap .u64 (o.ar .and .u8 v14 127))) (o.ar .add .i64 w9 1)))))
theorem f110_l0_go {J : Jd} {n₀ : Nat} (hJ : J = std Try.prog n₀) {fuel : Nat} {a0 : List AV} {w8i : Int} {w9i : Int} {α : Type} {k : F110L0 → Option α} {r : α} {c : Code} {Q : Ex → St → Prop} {s : St}
    (H : bindR (f110_l0 J.o fuel a0 fuel w8i w9i) k = some r) (hn : n₀ ≤ 0) (hle : Le s ⟨[(6, .int .i64 w9i), (5, .int .u64 w8i), (0, .sl 1 a0 .no)], [], 46⟩)
    (round : ∀ X, k X = some r → ∀ (n : Nat) (w8 : Int) (w9 : Int), f110_l0 J.o fuel a0 (n + 1) w8 w9 = some X → ∀ N : St → Prop,
      (∀ (env : List (Nat × AV)) (w8' : Int) (w9' : Int) (v : List Ent), f110_l0 J.o fuel a0 n w8' w9' = some X → wkEnv env [(6, .int .i64 w9'), (5, .int .u64 w8'), (0, .sl 1 a0 .no)] → N ⟨env, [] ++ v, 46⟩) → awp J tab c (thenQ N Q) ⟨[(6, .int .i64 w9), (5, .int .u64 w8), (0, .sl 1 a0 .no)], [], 46⟩) : J.code (.loop c) Q s := by
  obtain ⟨X, hX, HX⟩ := bindR_go H
  refine loop_at (β := Nat × Int × Int) hJ tab_ok (fun | (_, w8, w9) => ⟨[(6, .int .i64 w9), (5, .int .u64 w8), (0, .sl 1 a0 .no)], [], 46⟩) (fun | (n, w8, w9) => f110_l0 J.o fuel a0 n w8 w9 = some X) (fun | (n, _, _) => n) (fuel, w8i, w9i) hX hle (by rintro ⟨_, _, _⟩; exact hn) ?_
  rintro ⟨n, w8, w9⟩ hb N hN
  rcases n with _ | n
  · exact none_go (show (none : Option F110L0) = some X from hb)
  exact round X HX n w8 w9 hb N fun env w8' w9' v h1 h2 => hN _ (n, w8', w9') h1 (Nat.lt_succ_self n) ⟨h2, by cbv, rfl, rfl⟩

noncomputable def f110 (o : Ops) (fuel : Nat) (a0 : List AV) : Option F110R :=
  bindR (f110_l0 o fuel a0 fuel 0 0) fun r => match r with
  | .x0 y17 y18 y19 => some (.v0 y17 y18 y19)
set_option maxHeartbeats 4000000 in
set_option maxRecDepth 100000 in
theorem f110_call (o : Ops) (ho : o = stdOps) (fuel : Nat) (a0 : List AV) {R : F110R} (H : f110 o fuel a0 = some R) (K : AV → List Ent → Prop) (E : AV → List Ent → Prop) (h : K R.av R.hp) : CallA Try.prog 110 [.sl 1 a0 .no] [] K E := by
  refine call_wk fun K' hK => ?_
  refine call_keep (n₀ := 0) tab_ok Try.func110 rfl rfl rfl rfl ?_
  intro J hJ
  obtain rfl : o = J.o := by rw [ho, hJ]; rfl
  unfold f110 at H
  cbv
  repeat' (first
    | ((with_reducible first | refine awp_go2 ?_ | refine aops_go2 ?_ | refine strip_go2 ?_ | refine draw_go2 ?_ | refine frames_go2 ?_); cbv)
    | with_reducible exact id
    | exact trivial
    | with_reducible exact rfl
    | with_reducible exact ⟨_, rfl⟩
    | exact none_go H
    | (cases H; replace H := HX0; clear HX0; dsimp only at H)
    | (refine KeepQ.mk [] (by decide) ?_; cbv; cases H; refine hK _ _ _ _ ?_ ?_ rfl h <;> cbv)
    | (refine hN0 _ _ _ _ H ?_; with_reducible refine wkEnv_go2 ?_; cbv)
    | (refine ifB_go H ?_ ?_ <;> clear H <;> intro hh H)
    | (refine ifB_og H ?_ ?_ <;> clear H <;> intro hh H)
    | (refine req_go H ?_; clear H; intro hh H)
    | (refine gg_t ho H ?_ ?_ <;> clear H <;> intro hh H)
    | (refine gg_f ho H ?_ ?_ <;> clear H <;> intro hh H)
    | (refine bit_go ho H ?_ ?_ <;> clear H <;> intro hh H; (all_goals cbv))
    | (refine nil_go H ?_; clear H; intro b H; cbv)
    | (refine tok_go ?_; cbv)
    | (refine sh5_get H ?_; clear H; intro _ he H; cbv)
    | (refine sh5_find H ?_ ?_ <;> clear H; (intro _ H; cbv); (intro H; cbv))
    | (refine getA_go (β := UInt8) H ?_; clear H; intro e H; cbv)
    | (obtain ⟨R, hR, H2⟩ := bindR_go H; refine call_in hJ [] (by decide) rfl rfl rfl (f124_call _ ho _ _ hR _ _ ?_); clear H hR; rcases R with ⟨_⟩; all_goals (replace H := H2; clear H2; dsimp only at H; cbv))
    | (refine f110_l0_go hJ H (by decide) ⟨?_, ?_, rfl, rfl⟩ ?_
       · cbv
         repeat' (first | exact trivial | exact rfl | apply And.intro)
       · cbv
         repeat' (first | exact trivial | exact rfl | apply And.intro)
       clear H
       intro X0 HX0 n _ _ H Nx0 hN0
       rw [f110_l0] at H
       cbv)
    | (refine lit_t ?_; cbv)
    | (refine lit_f ?_; cbv)
    | (refine known_t (by assumption) ?_)
    | (refine known_f (by assumption) ?_)
    | (refine known_x (by assumption) ?_)
    | (refine known_y (by assumption) ?_)
    | (refine known_get (by assumption) ?_; cbv)
    | (refine known_and (by assumption) ?_)
    | with_reducible refine And.intro ?_ ?_
    | (intro hh; exact hh)
    | (intro _; assumption)
    | (intro _; clear H h; (try clear hN0); (try clear HX0); simp only [ho, stdOps] at *; simp_all))

/-! (*pontoon/pack.Unpacker).Spoil -/
inductive F111R where
  | v0 (y0 : List AV) (y1 : Int) (y2 : Bool)
def F111R.av : F111R → AV
  | .v0 _ _ _ => .tup []
def F111R.hp : F111R → List Ent
  | .v0 y0 y1 y2 => [.var [.sl 1 y0 .no, .int .i64 y1, .bool y2]]
noncomputable def f111 (o : Ops) (fuel : Nat) (a0 : Int) (a1 : List AV) (a2 : Int) (a3 : Bool) : Option F111R :=
  bindR (f109 o fuel a1 a2 a3) fun r => match r with
  | .v0 r4 r5 r6 r7 => ifB (o.bnot r4)
    (some (.v0 r5 a0 r7))
    (some (.v0 r5 r6 r7))
set_option maxHeartbeats 4000000 in
set_option maxRecDepth 100000 in
theorem f111_call (o : Ops) (ho : o = stdOps) (fuel : Nat) (a0 : Int) (a1 : List AV) (a2 : Int) (a3 : Bool) {R : F111R} (H : f111 o fuel a0 a1 a2 a3 = some R) (K : AV → List Ent → Prop) (E : AV → List Ent → Prop) (h : K R.av R.hp) : CallA Try.prog 111 [.ptr 0 0, .int .i64 a0] [.var [.sl 1 a1 .no, .int .i64 a2, .bool a3]] K E := by
  refine call_wk fun K' hK => ?_
  refine call_keep (n₀ := 1) tab_ok Try.func111 rfl rfl rfl rfl ?_
  intro J hJ
  obtain rfl : o = J.o := by rw [ho, hJ]; rfl
  unfold f111 at H
  cbv
  repeat' (first
    | ((with_reducible first | refine awp_go2 ?_ | refine aops_go2 ?_ | refine strip_go2 ?_ | refine draw_go2 ?_ | refine frames_go2 ?_); cbv)
    | with_reducible exact id
    | exact trivial
    | with_reducible exact rfl
    | with_reducible exact ⟨_, rfl⟩
    | exact none_go H
    | (refine KeepQ.mk [] (by decide) ?_; cbv; cases H; refine hK _ _ _ _ ?_ ?_ rfl h <;> cbv)
    | (refine ifB_go H ?_ ?_ <;> clear H <;> intro hh H)
    | (refine ifB_og H ?_ ?_ <;> clear H <;> intro hh H)
    | (refine req_go H ?_; clear H; intro hh H)
    | (refine gg_t ho H ?_ ?_ <;> clear H <;> intro hh H)
    | (refine gg_f ho H ?_ ?_ <;> clear H <;> intro hh H)
    | (refine bit_go ho H ?_ ?_ <;> clear H <;> intro hh H; (all_goals cbv))
    | (refine nil_go H ?_; clear H; intro b H; cbv)
    | (refine tok_go ?_; cbv)
    | (refine getA_go (β := UInt8) H ?_; clear H; intro e H; cbv)
    | (obtain ⟨R, hR, H2⟩ := bindR_go H; refine call_in hJ [0] (by decide) rfl rfl rfl (f109_call _ ho _ _ _ _ hR _ _ ?_); clear H hR; rcases R with ⟨_, _, _, _⟩; all_goals (replace H := H2; clear H2; dsimp only at H; cbv))
    | (refine lit_t ?_; cbv)
    | (refine lit_f ?_; cbv)
    | (refine known_t (by assumption) ?_)
    | (refine known_f (by assumption) ?_)
    | (refine known_x (by assumption) ?_)
    | (refine known_y (by assumption) ?_)
    | (refine known_get (by assumption) ?_; cbv)
    | (refine known_and (by assumption) ?_)
    | with_reducible refine And.intro ?_ ?_
    | (intro hh; exact hh)
    | (intro _; assumption)
    | (intro _; clear H h; simp only [ho, stdOps] at *; simp_all))

/-! (*pontoon/pack.Unpacker).Int -/
inductive F79R where
  | v0 (y0 : Int) (y1 : List AV) (y2 : Int) (y3 : Bool)
def F79R.av : F79R → AV
  | .v0 y0 _ _ _ => .int .i64 y0
def F79R.hp : F79R → List Ent
  | .v0 _ y1 y2 y3 => [.var [.sl 1 y1 .no, .int .i64 y2, .bool y3]]
noncomputable def f79 (o : Ops) (fuel : Nat) (a0 : Int) (a1 : Int) (a2 : List AV) (a3 : Int) (a4 : Bool) : Option F79R :=
  bindR (f109 o fuel a2 a3 a4) fun r => match r with
  | .v0 r5 r6 r7 r8 => ifB r5
    (some (.v0 0 r6 r7 r8))
    (bindR (f110 o fuel r6) fun r => match r with
     | .v0 r9 r10 r11 => ifB (o.pick (o.cmp .eql r11 0) (o.pick (o.cmp .lss r9 a0) true (o.cmp .gtr r9 a1)) false)
       (ifB (o.bnot (o.cmp .eql 11 0))
        (bindR (f111 o fuel 11 r6 r7 r8) fun r => match r with
         | .v0 r12 r13 r14 => some (.v0 0 r12 r13 r14))
        (req (o.le 0 r10) <|
         req (o.le r10 (o.len r6)) <|
         some (.v0 r9 (o.drop r6 r10) r7 r8)))
       (ifB (o.bnot (o.cmp .eql r11 0))
        (bindR (f111 o fuel r11 r6 r7 r8) fun r => match r with
         | .v0 r15 r16 r17 => some (.v0 0 r15 r16 r17))
        (req (o.le 0 r10) <|
         req (o.le r10 (o.len r6)) <|
         some (.v0 r9 (o.drop r6 r10) r7 r8))))
set_option maxHeartbeats 4000000 in
set_option maxRecDepth 100000 in
theorem f79_call (o : Ops) (ho : o = stdOps) (fuel : Nat) (a0 : Int) (a1 : Int) (a2 : List AV) (a3 : Int) (a4 : Bool) {R : F79R} (H : f79 o fuel a0 a1 a2 a3 a4 = some R) (K : AV → List Ent → Prop) (E : AV → List Ent → Prop) (h : K R.av R.hp) : CallA Try.prog 79 [.ptr 0 0, .int .i64 a0, .int .i64 a1] [.var [.sl 1 a2 .no, .int .i64 a3, .bool a4]] K E := by
  refine call_wk fun K' hK => ?_
  refine call_keep (n₀ := 1) tab_ok Try.func79 rfl rfl rfl rfl ?_
  intro J hJ
  obtain rfl : o = J.o := by rw [ho, hJ]; rfl
  unfold f79 at H
  cbv
  repeat' (first
    | ((with_reducible first | refine awp_go2 ?_ | refine aops_go2 ?_ | refine strip_go2 ?_ | refine draw_go2 ?_ | refine frames_go2 ?_); cbv)
    | with_reducible exact id
    | exact trivial
    | with_reducible exact rfl
    | with_reducible exact ⟨_, rfl⟩
    | exact none_go H
    | (refine KeepQ.mk [] (by decide) ?_; cbv; cases H; refine hK _ _ _ _ ?_ ?_ rfl h <;> cbv)
    | (refine ifB_go H ?_ ?_ <;> clear H <;> intro hh H)
    | (refine ifB_og H ?_ ?_ <;> clear H <;> intro hh H)
    | (refine req_go H ?_; clear H; intro hh H)
    | (refine gg_t ho H ?_ ?_ <;> clear H <;> intro hh H)
    | (refine gg_f ho H ?_ ?_ <;> clear H <;> intro hh H)
    | (refine bit_go ho H ?_ ?_ <;> clear H <;> intro hh H; (all_goals cbv))
    | (refine nil_go H ?_; clear H; intro b H; cbv)
    | (refine tok_go ?_; cbv)
    | (refine getA_go (β := UInt8) H ?_; clear H; intro e H; cbv)
    | (obtain ⟨R, hR, H2⟩ := bindR_go H; refine call_in hJ [0] (by decide) rfl rfl rfl (f111_call _ ho _ _ _ _ _ hR _ _ ?_); clear H hR; rcases R with ⟨_, _, _⟩; all_goals (replace H := H2; clear H2; dsimp only at H; cbv))
    | (obtain ⟨R, hR, H2⟩ := bindR_go H; refine call_in hJ [] (by decide) rfl rfl rfl (f110_call _ ho _ _ hR _ _ ?_); clear H hR; rcases R with ⟨_, _, _⟩; all_goals (replace H := H2; clear H2; dsimp only at H; cbv))
    | (obtain ⟨R, hR, H2⟩ := bindR_go H; refine call_in hJ [0] (by decide) rfl rfl rfl (f109_call _ ho _ _ _ _ hR _ _ ?_); clear H hR; rcases R with ⟨_, _, _, _⟩; all_goals (replace H := H2; clear H2; dsimp only at H; cbv))
    | (refine lit_t ?_; cbv)
    | (refine lit_f ?_; cbv)
    | (refine known_t (by assumption) ?_)
    | (refine known_f (by assumption) ?_)
    | (refine known_x (by assumption) ?_)
    | (refine known_y (by assumption) ?_)
    | (refine known_get (by assumption) ?_; cbv)
    | (refine known_and (by assumption) ?_)
    | with_reducible refine And.intro ?_ ?_
    | (intro hh; exact hh)
    | (intro _; assumption)
    | (intro _; clear H h; simp only [ho, stdOps] at *; simp_all))

/-! pontoon/graph.Parse$1 -/
inductive F78R where
  | v0 (y0 : Int) (y1 : List AV) (y2 : Int) (y3 : Bool)
def F78R.av : F78R → AV
  | .v0 y0 _ _ _ => .int .i64 y0
def F78R.hp : F78R → List Ent
  | .v0 _ y1 y2 y3 => [.var [.ptr 1 0], .var [.sl 1 y1 .no, .int .i64 y2, .bool y3]]
noncomputable def f78 (o : Ops) (fuel : Nat) (a0 : List AV) (a1 : Int) (a2 : Bool) : Option F78R :=
  bindR (f79 o fuel (-9223372036854775808) 9223372036854775807 a0 a1 a2) fun r => match r with
  | .v0 r3 r4 r5 r6 => some (.v0 r3 r4 r5 r6)
set_option maxHeartbeats 4000000 in
set_option maxRecDepth 100000 in
theorem f78_call (o : Ops) (ho : o = stdOps) (fuel : Nat) (a0 : List AV) (a1 : Int) (a2 : Bool) {R : F78R} (H : f78 o fuel a0 a1 a2 = some R) (K : AV → List Ent → Prop) (E : AV → List Ent → Prop) (h : K R.av R.hp) : CallA Try.prog 78 [.ptr 0 0] [.var [.ptr 1 0], .var [.sl 1 a0 .no, .int .i64 a1, .bool a2]] K E := by
  refine call_wk fun K' hK => ?_
  refine call_keep (n₀ := 2) tab_ok Try.func78 rfl rfl rfl rfl ?_
  intro J hJ
  obtain rfl : o = J.o := by rw [ho, hJ]; rfl
  unfold f78 at H
  cbv
  repeat' (first
    | ((with_reducible first | refine awp_go2 ?_ | refine aops_go2 ?_ | refine strip_go2 ?_ | refine draw_go2 ?_ | refine frames_go2 ?_); cbv)
    | with_reducible exact id
    | exact trivial
    | with_reducible exact rfl
    | with_reducible exact ⟨_, rfl⟩
    | exact none_go H
    | (refine KeepQ.mk [] (by decide) ?_; cbv; cases H; refine hK _ _ _ _ ?_ ?_ rfl h <;> cbv)
    | (refine ifB_go H ?_ ?_ <;> clear H <;> intro hh H)
    | (refine ifB_og H ?_ ?_ <;> clear H <;> intro hh H)
    | (refine req_go H ?_; clear H; intro hh H)
    | (refine gg_t ho H ?_ ?_ <;> clear H <;> intro hh H)
    | (refine gg_f ho H ?_ ?_ <;> clear H <;> intro hh H)
    | (refine bit_go ho H ?_ ?_ <;> clear H <;> intro hh H; (all_goals cbv))
    | (refine nil_go H ?_; clear H; intro b H; cbv)
    | (refine tok_go ?_; cbv)
    | (refine getA_go (β := UInt8) H ?_; clear H; intro e H; cbv)
    | (obtain ⟨R, hR, H2⟩ := bindR_go H; refine call_in hJ [1] (by decide) rfl rfl rfl (f79_call _ ho _ _ _ _ _ _ hR _ _ ?_); clear H hR; rcases R with ⟨_, _, _, _⟩; all_goals (replace H := H2; clear H2; dsimp only at H; cbv))
    | (refine lit_t ?_; cbv)
    | (refine lit_f ?_; cbv)
    | (refine known_t (by assumption) ?_)
    | (refine known_f (by assumption) ?_)
    | (refine known_x (by assumption) ?_)
    | (refine known_y (by assumption) ?_)
    | (refine known_get (by assumption) ?_; cbv)
    | (refine known_and (by assumption) ?_)
    | with_reducible refine And.intro ?_ ?_
    | (intro hh; exact hh)
    | (intro _; assumption)
    | (intro _; clear H h; simp only [ho, stdOps] at *; simp_all))

/-! (*pontoon/pack.Unpacker).Close -/
inductive F81R where
  | v0 (y0 : Int) (y1 : List AV) (y2 : Int) (y3 : Bool)
def F81R.av : F81R → AV
  | .v0 y0 _ _ _ => .int .i64 y0
def F81R.hp : F81R → List Ent
  | .v0 _ y1 y2 y3 => [.var [.sl 1 y1 .no, .int .i64 y2, .bool y3]]
noncomputable def f81 (o : Ops) (fuel : Nat) (a0 : List AV) (a1 : Int) (a2 : Bool) : Option F81R :=
  bindR (f80 o fuel a0 a1 a2) fun r => match r with
  | .v0 r3 r4 r5 r6 => ifB (o.bnot (o.cmp .eql r3 0))
    (some (.v0 r3 r4 r5 r6))
    (ifB (o.cmp .gtr (o.len r4) 0)
     (some (.v0 12 r4 r5 r6))
     (some (.v0 0 r4 r5 r6)))
set_option maxHeartbeats 4000000 in
set_option maxRecDepth 100000 in
theorem f81_call (o : Ops) (ho : o = stdOps) (fuel : Nat) (a0 : List AV) (a1 : Int) (a2 : Bool) {R : F81R} (H : f81 o fuel a0 a1 a2 = some R) (K : AV → List Ent → Prop) (E : AV → List Ent → Prop) (h : K R.av R.hp) : CallA Try.prog 81 [.ptr 0 0] [.var [.sl 1 a0 .no, .int .i64 a1, .bool a2]] K E := by
  refine call_wk fun K' hK => ?_
  refine call_keep (n₀ := 1) tab_ok Try.func81 rfl rfl rfl rfl ?_
  intro J hJ
  obtain rfl : o = J.o := by rw [ho, hJ]; rfl
  unfold f81 at H
  cbv
  repeat' (first
    | ((with_reducible first | refine awp_go2 ?_ | refine aops_go2 ?_ | refine strip_go2 ?_ | refine draw_go2 ?_ | refine frames_go2 ?_); cbv)
    | with_reducible exact id
    | exact trivial
    | with_reducible exact rfl
    | with_reducible exact ⟨_, rfl⟩
    | exact none_go H
    | (refine KeepQ.mk [] (by decide) ?_; cbv; cases H; refine hK _ _ _ _ ?_ ?_ rfl h <;> cbv)
    | (refine ifB_go H ?_ ?_ <;> clear H <;> intro hh H)
    | (refine ifB_og H ?_ ?_ <;> clear H <;> intro hh H)
    | (refine req_go H ?_; clear H; intro hh H)
    | (refine gg_t ho H ?_ ?_ <;> clear H <;> intro hh H)
    | (refine gg_f ho H ?_ ?_ <;> clear H <;> intro hh H)
    | (refine bit_go ho H ?_ ?_ <;> clear H <;> intro hh H; (all_goals cbv))
    | (refine nil_go H ?_; clear H; intro b H; cbv)
    | (refine tok_go ?_; cbv)
    | (refine getA_go (β := UInt8) H ?_; clear H; intro e H; cbv)
    | (obtain ⟨R, hR, H2⟩ := bindR_go H; refine call_in hJ [0] (by decide) rfl rfl rfl (f80_call _ ho _ _ _ _ hR _ _ ?_); clear H hR; rcases R with ⟨_, _, _, _⟩; all_goals (replace H := H2; clear H2; dsimp only at H; cbv))
    | (refine lit_t ?_; cbv)
    | (refine lit_f ?_; cbv)
    | (refine known_t (by assumption) ?_)
    | (refine known_f (by assumption) ?_)
    | (refine known_x (by assumption) ?_)
    | (refine known_y (by assumption) ?_)
    | (refine known_get (by assumption) ?_; cbv)
    | (refine known_and (by assumption) ?_)
    | with_reducible refine And.intro ?_ ?_
    | (intro hh; exact hh)
    | (intro _; assumption)
    | (intro _; clear H h; simp only [ho, stdOps] at *; simp_all))

/-! pontoon/graph.Parse -/
inductive F38R where
  | v0 (y0 : Int) (y1 : List AV) (y2 : Int)
def F38R.av : F38R → AV
  | .v0 y0 y1 y2 => .tup [.agg [.int .i64 y0, .sl 5 y1 .no], .int .i64 y2]
def F38R.hp : F38R → List Ent
  | .v0 _ _ _ => []
inductive F38L1 where
  | x0 (y0 : List AV) (y1 : Int) (y2 : Bool) (y3 : List AV) (y4 : Nat)
  | x1 (y0 : List AV) (y1 : Int) (y2 : Bool) (y3 : List AV) (y4 : Nat)
noncomputable def f38_l1 (o : Ops) (fuel : Nat) (r194 : Int) (r8 : Int) (w173 : Int) (r4 : Int) (w177 : List AV) (w172 : Nat) (r178 : Int) (r182 : Int) (r186 : Int) (r190 : Int) : Nat → Nat → Int → List AV → Int → Bool → List AV → Option F38L1
  | 0, _, _, _, _, _, _ => none
  | n + 1, w222, w223, w224, w225, w226, w227 =>
    ifB (o.cmp .lss w223 r194)
    (bindR (f78 o fuel w224 w225 w226) fun r => match r with
     | .v0 r228 r229 r230 r231 => bindR (f78 o fuel r229 r230 r231) fun r => match r with
       | .v0 r232 r233 r234 r235 => req (o.room w227 [.agg [.int .i64 r228, .int .i64 r232]] 16) <|
         bindR (f80 o fuel r233 r234 r235) fun r => match r with
         | .v0 r236 r237 r238 r239 => ifB (o.bnot (o.cmp .eql r236 0))
           (some (.x0 r237 r238 r239 (o.apnd w227 [.agg [.int .i64 r228, .int .i64 r232]]) (o.padd w222 [.agg [.int .i64 r228, .int .i64 r232]])))
           (f38_l1 o fuel r194 r8 w173 r4 w177 w172 r178 r182 r186 r190 n (o.padd w222 [.agg [.int .i64 r228, .int .i64 r232]]) (o.ar .add .i64 w223 1) r237 r238 r239 (o.apnd w227 [.agg [.int .i64 r228, .int .i64 r232]])))
    (some (.x1 w224 w225 w226 w227 w222))
theorem f38_l1_go {J : Jd} {n₀ : Nat} (hJ : J = std Try.prog n₀) {fuel : Nat} {r194 : Int} {r8 : Int} {w173 : Int} {r4 : Int} {w177 : List AV} {w172 : Nat} {r178 : Int} {r182 : Int} {r186 : Int} {r190 : Int} {w222i : Nat} {w223i : Int} {w224i : List AV} {w225i : Int} {w226i : Bool} {w227i : List AV} {α : Type} {k : F38L1 → Option α} {r : α} {c : Code} {Q : Ex → St → Prop} {s : St}
    (H : bindR (f38_l1 J.o fuel r194 r8 w173 r4 w177 w172 r178 r182 r186 r190 fuel w222i w223i w224i w225i w226i w227i) k = some r) (hn : n₀ ≤ 7) (hle : Turn n₀ s ⟨[(34, .int .i64 w223i), (33, .int .i64 r194), (20, .int .i64 w173), (19, .int .i64 r8), (7, .ptr 5 0), (6, .ptr 3 0), (5, .func 78 [.ptr 2 0]), (4, .ptr 2 0), (2, .ptr 0 0)], [.var [.int .i64 0, .nils], .var [.sl 1 w224i .no, .int .i64 w225i, .bool w226i], .var [.ptr 1 0], .var [.int .i64 r4, .sl 5 w177 (.tip 4 w172)], .tip w172, .var [.int .i64 r178, .int .i64 r182, .int .i64 r186, .int .i64 r190, .sl 2 w227i (.tip 6 w222i)], .tip w222i], 78⟩)
    (round : ∀ X, k X = some r → ∀ (n : Nat) (w222 : Nat) (w223 : Int) (w224 : List AV) (w225 : Int) (w226 : Bool) (w227 : List AV), f38_l1 J.o fuel r194 r8 w173 r4 w177 w172 r178 r182 r186 r190 (n + 1) w222 w223 w224 w225 w226 w227 = some X → ∀ N : St → Prop,
      (∀ (env : List (Nat × AV)) (w222' : Nat) (w223' : Int) (w224' : List AV) (w225' : Int) (w226' : Bool) (w227' : List AV) (v : List Ent), f38_l1 J.o fuel r194 r8 w173 r4 w177 w172 r178 r182 r186 r190 n w222' w223' w224' w225' w226' w227' = some X → wkEnv env [(34, .int .i64 w223'), (33, .int .i64 r194), (20, .int .i64 w173), (19, .int .i64 r8), (7, .ptr 5 0), (6, .ptr 3 0), (5, .func 78 [.ptr 2 0]), (4, .ptr 2 0), (2, .ptr 0 0)] → N ⟨env, [.var [.int .i64 0, .nils], .var [.sl 1 w224' .no, .int .i64 w225', .bool w226'], .var [.ptr 1 0], .var [.int .i64 r4, .sl 5 w177 (.tip 4 w172)], .tip w172, .var [.int .i64 r178, .int .i64 r182, .int .i64 r186, .int .i64 r190, .sl 2 w227' (.tip 6 w222')], .tip w222'] ++ v, 78⟩) → awp J tab c (thenQ N Q) ⟨[(34, .int .i64 w223), (33, .int .i64 r194), (20, .int .i64 w173), (19, .int .i64 r8), (7, .ptr 5 0), (6, .ptr 3 0), (5, .func 78 [.ptr 2 0]), (4, .ptr 2 0), (2, .ptr 0 0)], [.var [.int .i64 0, .nils], .var [.sl 1 w224 .no, .int .i64 w225, .bool w226], .var [.ptr 1 0], .var [.int .i64 r4, .sl 5 w177 (.tip 4 w172)], .tip w172, .var [.int .i64 r178, .int .i64 r182, .int .i64 r186, .int .i64 r190, .sl 2 w227 (.tip 6 w222)], .tip w222], 78⟩) : J.code (.loop c) Q s := by
  obtain ⟨X, hX, HX⟩ := bindR_go H
  refine loop_turn_at (β := Nat × Nat × Int × List AV × Int × Bool × List AV) hJ tab_ok (fun | (_, w222, w223, w224, w225, w226, w227) => ⟨[(34, .int .i64 w223), (33, .int .i64 r194), (20, .int .i64 w173), (19, .int .i64 r8), (7, .ptr 5 0), (6, .ptr 3 0), (5, .func 78 [.ptr 2 0]), (4, .ptr 2 0), (2, .ptr 0 0)], [.var [.int .i64 0, .nils], .var [.sl 1 w224 .no, .int .i64 w225, .bool w226], .var [.ptr 1 0], .var [.int .i64 r4, .sl 5 w177 (.tip 4 w172)], .tip w172, .var [.int .i64 r178, .int .i64 r182, .int .i64 r186, .int .i64 r190, .sl 2 w227 (.tip 6 w222)], .tip w222], 78⟩) (fun | (n, w222, w223, w224, w225, w226, w227) => f38_l1 J.o fuel r194 r8 w173 r4 w177 w172 r178 r182 r186 r190 n w222 w223 w224 w225 w226 w227 = some X) (fun | (n, _, _, _, _, _, _) => n) (fuel, w222i, w223i, w224i, w225i, w226i, w227i) hX hle (by rintro ⟨_, _, _, _, _, _, _⟩; exact hn) ?_
  rintro ⟨n, w222, w223, w224, w225, w226, w227⟩ hb N hN
  rcases n with _ | n
  · exact none_go (show (none : Option F38L1) = some X from hb)
  exact round X HX n w222 w223 w224 w225 w226 w227 hb N fun env w222' w223' w224' w225' w226' w227' v h1 h2 => hN _ (n, w222', w223', w224', w225', w226', w227') h1 (Nat.lt_succ_self n) (Turn.le ⟨h2, by cbv; repeat' (first | exact trivial | exact rfl | apply And.intro), rfl, rfl⟩ (by simp; omega))

inductive F38L0 where
  | x0 (y0 : List AV) (y1 : Int) (y2 : Bool) (y3 : List AV) (y4 : Nat)
  | x1 (y0 : List AV) (y1 : Int) (y2 : Bool) (y3 : List AV) (y4 : Nat)
  | x2 (y0 : List AV) (y1 : Int) (y2 : Bool) (y3 : List AV) (y4 : Nat)
noncomputable def f38_l0 (o : Ops) (fuel : Nat) (r8 : Int) (r4 : Int) : Nat → Nat → Int → List AV → Int → Bool → List AV → Option F38L0
  | 0, _, _, _, _, _, _ => none
  | n + 1, w172, w173, w174, w175, w176, w177 =>
    ifB (o.cmp .lss w173 r8)
    (bindR (f78 o fuel w174 w175 w176) fun r => match r with
     | .v0 r178 r179 r180 r181 => bindR (f78 o fuel r179 r180 r181) fun r => match r with
       | .v0 r182 r183 r184 r185 => bindR (f78 o fuel r183 r184 r185) fun r => match r with
         | .v0 r186 r187 r188 r189 => bindR (f78 o fuel r187 r188 r189) fun r => match r with
           | .v0 r190 r191 r192 r193 => bindR (f79 o fuel 0 1024 r191 r192 r193) fun r => match r with
             | .v0 r194 r195 r196 r197 => bindR (f38_l1 o fuel r194 r8 w173 r4 w177 w172 r178 r182 r186 r190 fuel 0 0 r195 r196 r197 []) fun r => match r with
               | .x0 y240 y241 y242 y243 _ => req (o.room w177 [.agg [.int .i64 r178, .int .i64 r182, .int .i64 r186, .int .i64 r190, .sl 2 y243 .no]] 56) <|
                 bindR (f80 o fuel y240 y241 y242) fun r => match r with
                 | .v0 r245 r246 r247 r248 => ifB (o.bnot (o.cmp .eql r245 0))
                   (some (.x0 r246 r247 r248 (o.apnd w177 [.agg [.int .i64 r178, .int .i64 r182, .int .i64 r186, .int .i64 r190, .sl 2 y243 .no]]) (o.padd w172 [.agg [.int .i64 r178, .int .i64 r182, .int .i64 r186, .int .i64 r190, .sl 2 y243 .no]])))
                   (f38_l0 o fuel r8 r4 n (o.padd w172 [.agg [.int .i64 r178, .int .i64 r182, .int .i64 r186, .int .i64 r190, .sl 2 y243 .no]]) (o.ar .add .i64 w173 1) r246 r247 r248 (o.apnd w177 [.agg [.int .i64 r178, .int .i64 r182, .int .i64 r186, .int .i64 r190, .sl 2 y243 .no]]))
               | .x1 y249 y250 y251 y252 _ => req (o.room w177 [.agg [.int .i64 r178, .int .i64 r182, .int .i64 r186, .int .i64 r190, .sl 2 y252 .no]] 56) <|
                 bindR (f80 o fuel y249 y250 y251) fun r => match r with
                 | .v0 r254 r255 r256 r257 => ifB (o.bnot (o.cmp .eql r254 0))
                   (some (.x1 r255 r256 r257 (o.apnd w177 [.agg [.int .i64 r178, .int .i64 r182, .int .i64 r186, .int .i64 r190, .sl 2 y252 .no]]) (o.padd w172 [.agg [.int .i64 r178, .int .i64 r182, .int .i64 r186, .int .i64 r190, .sl 2 y252 .no]])))
                   (f38_l0 o fuel r8 r4 n (o.padd w172 [.agg [.int .i64 r178, .int .i64 r182, .int .i64 r186, .int .i64 r190, .sl 2 y252 .no]]) (o.ar .add .i64 w173 1) r255 r256 r257 (o.apnd w177 [.agg [.int .i64 r178, .int .i64 r182, .int .i64 r186, .int .i64 r190, .sl 2 y252 .no]])))
    (some (.x2 w174 w175 w176 w177 w172))
theorem f38_l0_go {J : Jd} {n₀ : Nat} (hJ : J = std Try.prog n₀) {fuel : Nat} {r8 : Int} {r4 : Int} {w172i : Nat} {w173i : Int} {w174i : List AV} {w175i : Int} {w176i : Bool} {w177i : List AV} {α : Type} {k : F38L0 → Option α} {r : α} {c : Code} {Q : Ex → St → Prop} {s : St}
    (H : bindR (f38_l0 J.o fuel r8 r4 fuel w172i w173i w174i w175i w176i w177i) k = some r) (hn : n₀ ≤ 5) (hle : Turn n₀ s ⟨[(20, .int .i64 w173i), (19, .int .i64 r8), (6, .ptr 3 0), (5, .func 78 [.ptr 2 0]), (4, .ptr 2 0), (2, .ptr 0 0)], [.var [.int .i64 0, .nils], .var [.sl 1 w174i .no, .int .i64 w175i, .bool w176i], .var [.ptr 1 0], .var [.int .i64 r4, .sl 5 w177i (.tip 4 w172i)], .tip w172i], 78⟩)
    (round : ∀ X, k X = some r → ∀ (n : Nat) (w172 : Nat) (w173 : Int) (w174 : List AV) (w175 : Int) (w176 : Bool) (w177 : List AV), f38_l0 J.o fuel r8 r4 (n + 1) w172 w173 w174 w175 w176 w177 = some X → ∀ N : St → Prop,
      (∀ (env : List (Nat × AV)) (w172' : Nat) (w173' : Int) (w174' : List AV) (w175' : Int) (w176' : Bool) (w177' : List AV) (v : List Ent), f38_l0 J.o fuel r8 r4 n w172' w173' w174' w175' w176' w177' = some X → wkEnv env [(20, .int .i64 w173'), (19, .int .i64 r8), (6, .ptr 3 0), (5, .func 78 [.ptr 2 0]), (4, .ptr 2 0), (2, .ptr 0 0)] → N ⟨env, [.var [.int .i64 0, .nils], .var [.sl 1 w174' .no, .int .i64 w175', .bool w176'], .var [.ptr 1 0], .var [.int .i64 r4, .sl 5 w177' (.tip 4 w172')], .tip w172'] ++ v, 78⟩) → awp J tab c (thenQ N Q) ⟨[(20, .int .i64 w173), (19, .int .i64 r8), (6, .ptr 3 0), (5, .func 78 [.ptr 2 0]), (4, .ptr 2 0), (2, .ptr 0 0)], [.var [.int .i64 0, .nils], .var [.sl 1 w174 .no, .int .i64 w175, .bool w176], .var [.ptr 1 0], .var [.int .i64 r4, .sl 5 w177 (.tip 4 w172)], .tip w172], 78⟩) : J.code (.loop c) Q s := by
  obtain ⟨X, hX, HX⟩ := bindR_go H
  refine loop_turn_at (β := Nat × Nat × Int × List AV × Int × Bool × List AV) hJ tab_ok (fun | (_, w172, w173, w174, w175, w176, w177) => ⟨[(20, .int .i64 w173), (19, .int .i64 r8), (6, .ptr 3 0), (5, .func 78 [.ptr 2 0]), (4, .ptr 2 0), (2, .ptr 0 0)], [.var [.int .i64 0, .nils], .var [.sl 1 w174 .no, .int .i64 w175, .bool w176], .var [.ptr 1 0], .var [.int .i64 r4, .sl 5 w177 (.tip 4 w172)], .tip w172], 78⟩) (fun | (n, w172, w173, w174, w175, w176, w177) => f38_l0 J.o fuel r8 r4 n w172 w173 w174 w175 w176 w177 = some X) (fun | (n, _, _, _, _, _, _) => n) (fuel, w172i, w173i, w174i, w175i, w176i, w177i) hX hle (by rintro ⟨_, _, _, _, _, _, _⟩; exact hn) ?_
  rintro ⟨n, w172, w173, w174, w175, w176, w177⟩ hb N hN
  rcases n with _ | n
  · exact none_go (show (none : Option F38L0) = some X from hb)
  exact round X HX n w172 w173 w174 w175 w176 w177 hb N fun env w172' w173' w174' w175' w176' w177' v h1 h2 => hN _ (n, w172', w173', w174', w175', w176', w177') h1 (Nat.lt_succ_self n) (Turn.le ⟨h2, by cbv; repeat' (first | exact trivial | exact rfl | apply And.intro), rfl, rfl⟩ (by simp; omega))

noncomputable def f38 (o : Ops) (fuel : Nat) (a0 : List AV) : Option F38R :=
  bindR (f77 o fuel a0) fun r => match r with
  | .v0 r1 r2 r3 => bindR (f78 o fuel r1 r2 r3) fun r => match r with
    | .v0 r4 r5 r6 r7 => bindR (f79 o fuel 0 1024 r5 r6 r7) fun r => match r with
      | .v0 r8 r9 r10 r11 => bindR (f38_l0 o fuel r8 r4 fuel 0 0 r9 r10 r11 []) fun r => match r with
        | .x0 y258 y259 y260 y261 _ => bindR (f81 o fuel y258 y259 y260) fun r => match r with
          | .v0 r263 _ _ _ => ifB (o.bnot (o.cmp .eql r263 0))
            (some (.v0 0 [] r263))
            (bindR (f26 o fuel r4 y261) fun r => match r with
             | .v0 _ r268 => ifB (o.bnot (o.cmp .eql r268 0))
               (some (.v0 0 [] r268))
               (some (.v0 r4 y261 0)))
        | .x1 y269 y270 y271 y272 _ => bindR (f81 o fuel y269 y270 y271) fun r => match r with
          | .v0 r274 _ _ _ => ifB (o.bnot (o.cmp .eql r274 0))
            (some (.v0 0 [] r274))
            (bindR (f26 o fuel r4 y272) fun r => match r with
             | .v0 _ r279 => ifB (o.bnot (o.cmp .eql r279 0))
               (some (.v0 0 [] r279))
               (some (.v0 r4 y272 0)))
        | .x2 y280 y281 y282 y283 _ => bindR (f81 o fuel y280 y281 y282) fun r => match r with
          | .v0 r285 _ _ _ => ifB (o.bnot (o.cmp .eql r285 0))
            (some (.v0 0 [] r285))
            (bindR (f26 o fuel r4 y283) fun r => match r with
             | .v0 _ r290 => ifB (o.bnot (o.cmp .eql r290 0))
               (some (.v0 0 [] r290))
               (some (.v0 r4 y283 0)))
set_option maxHeartbeats 4000000 in
set_option maxRecDepth 100000 in
theorem f38_call (o : Ops) (ho : o = stdOps) (fuel : Nat) (a0 : List AV) {R : F38R} (H : f38 o fuel a0 = some R) (K : AV → List Ent → Prop) (E : AV → List Ent → Prop) (h : K R.av R.hp) : CallA Try.prog 38 [.sl 1 a0 .no] [] K E := by
  refine call_wk fun K' hK => ?_
  refine call_keep (n₀ := 0) tab_ok Try.func38 rfl rfl rfl rfl ?_
  intro J hJ
  obtain rfl : o = J.o := by rw [ho, hJ]; rfl
  unfold f38 at H
  cbv
  repeat' (first
    | ((with_reducible first | refine awp_go2 ?_ | refine aops_go2 ?_ | refine strip_go2 ?_ | refine draw_go2 ?_ | refine frames_go2 ?_); cbv)
    | with_reducible exact id
    | exact trivial
    | with_reducible exact rfl
    | with_reducible exact ⟨_, rfl⟩
    | exact none_go H
    | (cases H; replace H := HX1; clear HX1; dsimp only at H)
    | (cases H; replace H := HX0; clear HX0; dsimp only at H)
    | (refine KeepQ.mk [] (by decide) ?_; cbv; cases H; refine hK _ _ _ _ ?_ ?_ rfl h <;> cbv)
    | (refine hN0 _ _ _ _ _ _ _ _ H ?_; with_reducible refine wkEnv_go2 ?_; cbv)
    | (refine hN1 _ _ _ _ _ _ _ _ H ?_; with_reducible refine wkEnv_go2 ?_; cbv)
    | (refine ifB_go H ?_ ?_ <;> clear H <;> intro hh H)
    | (refine ifB_og H ?_ ?_ <;> clear H <;> intro hh H)
    | (refine req_go H ?_; clear H; intro hh H)
    | (refine gg_t ho H ?_ ?_ <;> clear H <;> intro hh H)
    | (refine gg_f ho H ?_ ?_ <;> clear H <;> intro hh H)
    | (refine bit_go ho H ?_ ?_ <;> clear H <;> intro hh H; (all_goals cbv))
    | (refine nil_go H ?_; clear H; intro b H; cbv)
    | (refine tok_go ?_; cbv)
    | (refine getA_go (β := UInt8) H ?_; clear H; intro e H; cbv)
    | (obtain ⟨R, hR, H2⟩ := bindR_go H; refine call_in hJ [1] (by decide) rfl rfl rfl (f80_call _ ho _ _ _ _ hR _ _ ?_); clear H hR; rcases R with ⟨_, _, _, _⟩; all_goals (replace H := H2; clear H2; dsimp only at H; cbv))
    | (obtain ⟨R, hR, H2⟩ := bindR_go H; refine call_in hJ [2, 1] (by decide) rfl rfl rfl (f78_call _ ho _ _ _ _ hR _ _ ?_); clear H hR; rcases R with ⟨_, _, _, _⟩; all_goals (replace H := H2; clear H2; dsimp only at H; cbv))
    | (obtain ⟨R, hR, H2⟩ := bindR_go H; refine call_in hJ [1] (by decide) rfl rfl rfl (f79_call _ ho _ _ _ _ _ _ hR _ _ ?_); clear H hR; rcases R with ⟨_, _, _, _⟩; all_goals (replace H := H2; clear H2; dsimp only at H; cbv))
    | (obtain ⟨R, hR, H2⟩ := bindR_go H; refine call_in hJ [] (by decide) rfl rfl rfl (f26_call _ ho _ _ _ hR _ _ ?_); clear H hR; rcases R with ⟨_, _⟩; all_goals (replace H := H2; clear H2; dsimp only at H; cbv))
    | (obtain ⟨R, hR, H2⟩ := bindR_go H; refine call_in hJ [1] (by decide) rfl rfl rfl (f81_call _ ho _ _ _ _ hR _ _ ?_); clear H hR; rcases R with ⟨_, _, _, _⟩; all_goals (replace H := H2; clear H2; dsimp only at H; cbv))
    | (obtain ⟨R, hR, H2⟩ := bindR_go H; refine call_in hJ [] (by decide) rfl rfl rfl (f77_call _ ho _ _ hR _ _ ?_); clear H hR; rcases R with ⟨_, _, _⟩; all_goals (replace H := H2; clear H2; dsimp only at H; cbv))
    | (refine f38_l0_go hJ H (by decide) (Turn.trans (turn_tip 3 1 5 rfl rfl (Nat.le_of_ble_eq_true rfl)) (Turn.le ⟨?_, ?_, rfl, rfl⟩ (Nat.le_of_ble_eq_true rfl))) ?_
       · cbv
         repeat' (first | exact trivial | exact rfl | apply And.intro)
       · cbv
         repeat' (first | exact trivial | exact rfl | apply And.intro)
       clear H
       intro X0 HX0 n _ _ _ _ _ _ H Nx0 hN0
       rw [f38_l0] at H
       cbv)
    | (refine f38_l1_go hJ H (by decide) (Turn.trans (turn_tip 5 4 2 rfl rfl (Nat.le_of_ble_eq_true rfl)) (Turn.le ⟨?_, ?_, rfl, rfl⟩ (Nat.le_of_ble_eq_true rfl))) ?_
       · cbv
         repeat' (first | exact trivial | exact rfl | apply And.intro)
       · cbv
         repeat' (first | exact trivial | exact rfl | apply And.intro)
       clear H
       intro X1 HX1 n _ _ _ _ _ _ H Nx1 hN1
       rw [f38_l1] at H
       cbv)
    | (refine lit_t ?_; cbv)
    | (refine lit_f ?_; cbv)
    | (refine known_t (by assumption) ?_)
    | (refine known_f (by assumption) ?_)
    | (refine known_x (by assumption) ?_)
    | (refine known_y (by assumption) ?_)
    | (refine known_get (by assumption) ?_; cbv)
    | (refine known_and (by assumption) ?_)
    | with_reducible refine And.intro ?_ ?_
    | (intro hh; exact hh)
    | (intro _; assumption)
    | (intro _; clear H h; (try clear hN0); (try clear HX0); (try clear hN1); (try clear HX1); simp only [ho, stdOps] at *; simp_all))

end Go.Proofs.Ytilffanmaicakaa.A
