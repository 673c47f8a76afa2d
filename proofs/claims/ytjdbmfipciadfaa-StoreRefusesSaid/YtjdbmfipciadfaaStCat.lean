/- slices.Concat at bytes, as a plain function. Written by lift.py. -/import Derived.Test.YtjdbmfipciadfaaAmTab
import Derived.Test.YtjdbmfipciadfaaMa4
namespace Go.Proofs.Ytjdbmfipciadfaa.A
open Go Go.Pt
def tabC : Nat → Ty := fun t => match beN t 69 with | true => { tab t with md := 2 } | false => tab t
theorem tabC_ok : TabOk Try.prog tabC := tab_ok.md 69 2 rfl
set_option maxHeartbeats 4000000
set_option maxRecDepth 100000
namespace C
inductive F158cR where
  | v0 (y0 y1 y2 : Int) (y3 : List AV)
  | v1
def F158cR.av : F158cR → AV
  | .v0 y0 y1 y2 _ => .vs 0 1 y0 y1 y2
  | .v1  => .nils
def F158cR.hp : F158cR → List Ent
  | .v0 _ _ _ y3 => [.vec 1 y3]
  | .v1  => []
noncomputable def f158c (o : Ops) (_fuel : Nat) (a0 : Int) : Option F158cR :=
  ifB (o.cmp .lss a0 0)
  (none)
  (ifB (o.cmp .gtr (o.ar .sub .i64 a0 (o.ar .sub .i64 0 0)) 0)
   (req (o.le 0 0) <|
    req (o.le 0 (o.len [])) <|
    req (o.mks (o.ar .sub .i64 a0 (o.ar .sub .i64 0 0)) (o.ar .sub .i64 a0 (o.ar .sub .i64 0 0)) 1) <|
    req (o.le 0 0) <|
    req (o.le (o.sum 0 0) (o.ar .sub .i64 a0 (o.ar .sub .i64 0 0))) <|
    some (.v0 0 0 (o.ar .sub .i64 a0 (o.ar .sub .i64 0 0)) (o.rep (o.ar .sub .i64 a0 (o.ar .sub .i64 0 0)) (.int .u8 0))))
   (some (.v1 )))
theorem f158c_call (o : Ops) (ho : o = stdOps) (fuel : Nat) (a0 : Int) {R : F158cR} (H : f158c o fuel a0 = some R) (K : AV → List Ent → Prop) (E : AV → List Ent → Prop) (h : K R.av R.hp) : CallA Try.prog 158 [.nils, .int .i64 a0] [] K E := by
  refine call_wk fun K' hK => ?_
  refine call_keep (n₀ := 0) tabC_ok Try.func158 rfl rfl rfl rfl ?_
  intro J hJ
  obtain rfl : o = J.o := by rw [ho, hJ]; rfl
  unfold f158c at H
  cbv
  repeat' (first
    | ((with_reducible refine awp_go2 ?_); cbv)
    | exact none_go H
    | (refine KeepQ.mk [0] (by decide) ?_; cbv; cases H; refine hK _ _ _ _ ?_ ?_ rfl h <;> cbv)
    | (refine KeepQ.mk [] (by decide) ?_; cbv; cases H; refine hK _ _ _ _ ?_ ?_ rfl h <;> cbv)
    | (refine ifB_go H ?_ ?_ <;> clear H <;> intro hh H)
    | (refine req_go H ?_; clear H; intro hh H))
def sh69 {α : Type} (e : AV) (k : List AV → Option α) : Option α := match e with | .sl 1 x0 .no => k x0 | _ => none
theorem sh69_go {α : Type} {e : AV} {k : List AV → Option α} {r : α} {G : AV → Prop} (H : sh69 e k = some r) (h : ∀ (x0 : List AV), k x0 = some r → G (.sl 1 x0 .no)) : G e := by
  unfold sh69 at H
  split at H
  · exact h _ H
  · exact nomatch H
theorem sh69_get {α : Type} {x : Option AV} {k : List AV → Option α} {r : α} {G : AV → Prop} (H : getA x (fun e => sh69 e k) = some r) (h : ∀ (x0 : List AV), x = some (.sl 1 x0 .no) → k x0 = some r → G (.sl 1 x0 .no)) : ∀ e, x = some e → G e := fun e he => by
  have H2 : sh69 e k = some r := by rw [he] at H; exact H
  unfold sh69 at H2
  split at H2
  · exact h _ he H2
  · exact nomatch H2
theorem sh69_find {α : Type} {x : Option AV} {k : List AV → Option α} {z : Option α} {r : α} {G1 : AV → Prop} {G2 : Prop} (H : findA x (fun e => sh69 e k) z = some r) (h1 : ∀ (x0 : List AV), k x0 = some r → G1 (.sl 1 x0 .no)) (h2 : z = some r → G2) : (∀ e, x = some e → G1 e) ∧ (x = none → G2) :=
  findA_go H (fun _ He => sh69_go He h1) h2
inductive F139cR where
  | v0 (y0 y1 y2 : Int) (y3 : List AV)
def F139cR.av : F139cR → AV
  | .v0 y0 y1 y2 _ => .vs 0 1 y0 y1 y2
def F139cR.hp : F139cR → List Ent
  | .v0 _ _ _ y3 => [.vec 1 y3]
inductive F139cL0 where
  | x0 (y0 : Int)
noncomputable def f139c_l0 (o : Ops) (fuel : Nat) (a0 : List AV) : Nat → Int → Int → Option F139cL0
  | 0, _, _ => none
  | n + 1, w2, w3 =>
    ifB (o.cmp .lss w3 (o.len a0))
    (req (o.inb w3 (o.len a0)) <|
     getA (o.get a0 w3) fun e => sh69 e fun v4 =>
     ifB (o.cmp .lss (o.ar .add .i64 w2 (o.len v4)) 0)
     (none)
     (f139c_l0 o fuel a0 n (o.ar .add .i64 w2 (o.len v4)) (o.ar .add .i64 w3 1)))
    (some (.x0 w2))
theorem f139c_l0_go {J : Jd} {n₀ : Nat} (hJ : J = std Try.prog n₀) {o : Ops} (hJo : J.o = o) {fuel : Nat} {a0 : List AV} {w2i : Int} {w3i : Int} {α : Type} {k : F139cL0 → Option α} {r : α} {c : Code} {Q : Ex → St → Prop} {s : St}
    (H : bindR (f139c_l0 o fuel a0 fuel w2i w3i) k = some r) (hn : n₀ ≤ 0) (hle : Le s ⟨[(11, .int .i64 w3i), (10, .int .i64 (o.len a0)), (9, .sl 1 a0 .no), (3, .int .i64 w2i), (0, .sl 1 a0 .no)], [], 36⟩)
    (round : ∀ X, k X = some r → ∀ (n : Nat) (w2 : Int) (w3 : Int), f139c_l0 o fuel a0 (n + 1) w2 w3 = some X → ∀ N : St → Prop,
      (∀ (env : List (Nat × AV)) (w2' : Int) (w3' : Int) (v : List Ent), f139c_l0 o fuel a0 n w2' w3' = some X → wkEnv env [(11, .int .i64 w3'), (10, .int .i64 (o.len a0)), (9, .sl 1 a0 .no), (3, .int .i64 w2'), (0, .sl 1 a0 .no)] → N ⟨env, [] ++ v, 36⟩) → awp J tabC c (thenQ N Q) ⟨[(11, .int .i64 w3), (10, .int .i64 (o.len a0)), (9, .sl 1 a0 .no), (3, .int .i64 w2), (0, .sl 1 a0 .no)], [], 36⟩) : J.code (.loop c) Q s := by
  subst hJo
  obtain ⟨X, hX, HX⟩ := bindR_go H
  refine loop_at (β := Nat × Int × Int) hJ tabC_ok (fun | (_, w2, w3) => ⟨[(11, .int .i64 w3), (10, .int .i64 (J.o.len a0)), (9, .sl 1 a0 .no), (3, .int .i64 w2), (0, .sl 1 a0 .no)], [], 36⟩) (fun | (n, w2, w3) => f139c_l0 J.o fuel a0 n w2 w3 = some X) (fun | (n, _, _) => n) (fuel, w2i, w3i) hX hle (by rintro ⟨_, _, _⟩; exact hn) ?_
  rintro ⟨n, w2, w3⟩ hb N hN
  rcases n with _ | n
  · exact none_go (show (none : Option F139cL0) = some X from hb)
  exact round X HX n w2 w3 hb N fun env w2' w3' v h1 h2 => hN _ (n, w2', w3') h1 (Nat.lt_succ_self n) ⟨h2, by first | (cbv; done) | (cbv; repeat' (first | exact trivial | exact rfl | apply And.intro)), rfl, rfl⟩
inductive F139cL1 where
  | x0 (y0 : Int) (y1 : List AV)
noncomputable def f139c_l1 (o : Ops) (fuel : Nat) (a0 : List AV) (r6 r8 : Int) : Nat → Int → Int → List AV → Option F139cL1
  | 0, _, _, _ => none
  | n + 1, w11, w12, w13 =>
    ifB (o.cmp .lss w12 (o.len a0))
    (req (o.inb w12 (o.len a0)) <|
     getA (o.get a0 w12) fun e => sh69 e fun v14 =>
     req (o.le 0 r6) <|
     req (o.le 0 w11) <|
     req (o.le (o.sum (o.sum r6 w11) (o.len v14)) r8) <|
     req (o.le (o.sum (o.sum r6 w11) (o.len v14)) (o.len w13)) <|
     req (o.room w13 v14 1) <|
     f139c_l1 o fuel a0 r6 r8 n (o.sum w11 (o.len v14)) (o.ar .add .i64 w12 1) (o.lay w13 (o.sum r6 w11) v14))
    (some (.x0 w11 w13))
theorem f139c_l1_go {J : Jd} {n₀ : Nat} (hJ : J = std Try.prog n₀) {o : Ops} (hJo : J.o = o) {fuel : Nat} {a0 : List AV} {r6 r8 : Int} {w11i : Int} {w12i : Int} {w13i : List AV} {α : Type} {k : F139cL1 → Option α} {r : α} {c : Code} {Q : Ex → St → Prop} {s : St}
    (H : bindR (f139c_l1 o fuel a0 r6 r8 fuel w11i w12i w13i) k = some r) (hn : n₀ ≤ 1) (hle : Le s ⟨[(27, .int .i64 w12i), (26, .int .i64 (o.len a0)), (25, .sl 1 a0 .no), (6, .vs 0 1 r6 w11i r8)], [.vec 1 w13i], 36⟩)
    (round : ∀ X, k X = some r → ∀ (n : Nat) (w11 : Int) (w12 : Int) (w13 : List AV), f139c_l1 o fuel a0 r6 r8 (n + 1) w11 w12 w13 = some X → ∀ N : St → Prop,
      (∀ (env : List (Nat × AV)) (w11' : Int) (w12' : Int) (w13' : List AV) (v : List Ent), f139c_l1 o fuel a0 r6 r8 n w11' w12' w13' = some X → wkEnv env [(27, .int .i64 w12'), (26, .int .i64 (o.len a0)), (25, .sl 1 a0 .no), (6, .vs 0 1 r6 w11' r8)] → N ⟨env, [.vec 1 w13'] ++ v, 36⟩) → awp J tabC c (thenQ N Q) ⟨[(27, .int .i64 w12), (26, .int .i64 (o.len a0)), (25, .sl 1 a0 .no), (6, .vs 0 1 r6 w11 r8)], [.vec 1 w13], 36⟩) : J.code (.loop c) Q s := by
  subst hJo
  obtain ⟨X, hX, HX⟩ := bindR_go H
  refine loop_at (β := Nat × Int × Int × List AV) hJ tabC_ok (fun | (_, w11, w12, w13) => ⟨[(27, .int .i64 w12), (26, .int .i64 (J.o.len a0)), (25, .sl 1 a0 .no), (6, .vs 0 1 r6 w11 r8)], [.vec 1 w13], 36⟩) (fun | (n, w11, w12, w13) => f139c_l1 J.o fuel a0 r6 r8 n w11 w12 w13 = some X) (fun | (n, _, _, _) => n) (fuel, w11i, w12i, w13i) hX hle (by rintro ⟨_, _, _, _⟩; exact hn) ?_
  rintro ⟨n, w11, w12, w13⟩ hb N hN
  rcases n with _ | n
  · exact none_go (show (none : Option F139cL1) = some X from hb)
  exact round X HX n w11 w12 w13 hb N fun env w11' w12' w13' v h1 h2 => hN _ (n, w11', w12', w13') h1 (Nat.lt_succ_self n) ⟨h2, by first | (cbv; done) | (cbv; repeat' (first | exact trivial | exact rfl | apply And.intro)), rfl, rfl⟩
inductive F139cL2 where
  | x0 (y0 : Int) (y1 : List AV)
noncomputable def f139c_l2 (o : Ops) (fuel : Nat) (a0 : List AV) : Nat → Int → Int → List AV → Option F139cL2
  | 0, _, _, _ => none
  | n + 1, w19, w20, w21 =>
    ifB (o.cmp .lss w20 (o.len a0))
    (req (o.inb w20 (o.len a0)) <|
     getA (o.get a0 w20) fun e => sh69 e fun v22 =>
     req (o.le 0 0) <|
     req (o.le 0 w19) <|
     req (o.le (o.sum (o.sum 0 w19) (o.len v22)) 0) <|
     req (o.le (o.sum (o.sum 0 w19) (o.len v22)) (o.len w21)) <|
     req (o.room w21 v22 1) <|
     f139c_l2 o fuel a0 n (o.sum w19 (o.len v22)) (o.ar .add .i64 w20 1) (o.lay w21 (o.sum 0 w19) v22))
    (some (.x0 w19 w21))
theorem f139c_l2_go {J : Jd} {n₀ : Nat} (hJ : J = std Try.prog n₀) {o : Ops} (hJo : J.o = o) {fuel : Nat} {a0 : List AV} {w19i : Int} {w20i : Int} {w21i : List AV} {α : Type} {k : F139cL2 → Option α} {r : α} {c : Code} {Q : Ex → St → Prop} {s : St}
    (H : bindR (f139c_l2 o fuel a0 fuel w19i w20i w21i) k = some r) (hn : n₀ ≤ 1) (hle : Turn n₀ s ⟨[(27, .int .i64 w20i), (26, .int .i64 (o.len a0)), (25, .sl 1 a0 .no), (6, .vs 0 1 0 w19i 0)], [.vec 1 w21i], 36⟩)
    (round : ∀ X, k X = some r → ∀ (n : Nat) (w19 : Int) (w20 : Int) (w21 : List AV), f139c_l2 o fuel a0 (n + 1) w19 w20 w21 = some X → ∀ N : St → Prop,
      (∀ (env : List (Nat × AV)) (w19' : Int) (w20' : Int) (w21' : List AV) (v : List Ent), f139c_l2 o fuel a0 n w19' w20' w21' = some X → wkEnv env [(27, .int .i64 w20'), (26, .int .i64 (o.len a0)), (25, .sl 1 a0 .no), (6, .vs 0 1 0 w19' 0)] → N ⟨env, [.vec 1 w21'] ++ v, 36⟩) → awp J tabC c (thenQ N Q) ⟨[(27, .int .i64 w20), (26, .int .i64 (o.len a0)), (25, .sl 1 a0 .no), (6, .vs 0 1 0 w19 0)], [.vec 1 w21], 36⟩) : J.code (.loop c) Q s := by
  subst hJo
  obtain ⟨X, hX, HX⟩ := bindR_go H
  refine loop_turn_at (β := Nat × Int × Int × List AV) hJ tabC_ok (fun | (_, w19, w20, w21) => ⟨[(27, .int .i64 w20), (26, .int .i64 (J.o.len a0)), (25, .sl 1 a0 .no), (6, .vs 0 1 0 w19 0)], [.vec 1 w21], 36⟩) (fun | (n, w19, w20, w21) => f139c_l2 J.o fuel a0 n w19 w20 w21 = some X) (fun | (n, _, _, _) => n) (fuel, w19i, w20i, w21i) hX hle (by rintro ⟨_, _, _, _⟩; exact hn) ?_
  rintro ⟨n, w19, w20, w21⟩ hb N hN
  rcases n with _ | n
  · exact none_go (show (none : Option F139cL2) = some X from hb)
  exact round X HX n w19 w20 w21 hb N fun env w19' w20' w21' v h1 h2 => hN _ (n, w19', w20', w21') h1 (Nat.lt_succ_self n) (Turn.le ⟨h2, by cbv; repeat' (first | exact trivial | exact rfl | apply And.intro), rfl, rfl⟩ (by simp; omega))
noncomputable def f139c (o : Ops) (fuel : Nat) (a0 : List AV) : Option F139cR :=
  bindR (f139c_l0 o fuel a0 fuel 0 0) fun r => match r with
  | .x0 y5 => bindR (f158c o fuel y5) fun r => match r with
    | .v0 r6 r7 r8 r9 => bindR (f139c_l1 o fuel a0 r6 r8 fuel r7 0 r9) fun r => match r with
      | .x0 y15 y16 => some (.v0 r6 y15 r8 y16)
    | .v1  => bindR (f139c_l2 o fuel a0 fuel 0 0 []) fun r => match r with
      | .x0 y23 y24 => some (.v0 0 y23 0 y24)
theorem f139c_call (o : Ops) (ho : o = stdOps) (fuel : Nat) (a0 : List AV) {R : F139cR} (H : f139c o fuel a0 = some R) (K : AV → List Ent → Prop) (E : AV → List Ent → Prop) (h : K R.av R.hp) : CallA Try.prog 139 [.sl 1 a0 .no] [] K E := by
  refine call_wk fun K' hK => ?_
  refine call_keep (n₀ := 0) tabC_ok Try.func139 rfl rfl rfl rfl ?_
  intro J hJ
  obtain rfl : o = J.o := by rw [ho, hJ]; rfl
  unfold f139c at H
  cbv
  repeat' (first
    | ((with_reducible refine awp_go2 ?_); cbv)
    | exact none_go H
    | (cases H; replace H := HX2; clear HX2; (try dsimp only at H))
    | (cases H; replace H := HX1; clear HX1; (try dsimp only at H))
    | (cases H; replace H := HX0; clear HX0; (try dsimp only at H))
    | (refine KeepQ.mk [0] (by decide) ?_; cbv; cases H; refine hK _ _ _ _ ?_ ?_ rfl h <;> cbv)
    | (refine hN0 _ _ _ _ H ?_; with_reducible refine wkEnv_go2 ?_; cbv)
    | (refine hN1 _ _ _ _ _ H ?_; with_reducible refine wkEnv_go2 ?_; cbv)
    | (refine hN2 _ _ _ _ _ H ?_; with_reducible refine wkEnv_go2 ?_; cbv)
    | (refine ifB_go H ?_ ?_ <;> clear H <;> intro hh H)
    | (refine req_go H ?_; clear H; intro hh H)
    | (refine sh69_get H ?_; clear H; intro _ he H; cbv)
    | (obtain ⟨R, hR, H2⟩ := bindR_go H; refine call_in hJ [] (by decide) rfl rfl rfl (f158c_call _ ho _ _ hR _ _ ?_); clear H hR; rcases R with ⟨_, _, _, _⟩ | ⟨⟩; all_goals (replace H := H2; clear H2; (try dsimp only at H); cbv))
    | (refine f139c_l0_go hJ (o := J.o) rfl H (by decide) ⟨?_, ?_, rfl, rfl⟩ ?_
       · cbv; (repeat' (first | exact trivial | exact rfl | apply And.intro))
       · cbv; (repeat' (first | exact trivial | exact rfl | apply And.intro))
       clear H
       intro X0 HX0 n _ _ H Nx0 hN0
       rw [f139c_l0] at H
       cbv)
    | (refine f139c_l1_go hJ (o := J.o) rfl H (by decide) ⟨?_, ?_, rfl, rfl⟩ ?_
       · cbv; (repeat' (first | exact trivial | exact rfl | apply And.intro))
       · cbv; (repeat' (first | exact trivial | exact rfl | apply And.intro))
       clear H
       intro X1 HX1 n _ _ _ H Nx1 hN1
       rw [f139c_l1] at H
       cbv)
    | (refine f139c_l2_go hJ (o := J.o) rfl H (by decide) (Turn.trans (turn_nilr 6 1 rfl (leN_t rfl)) (Turn.le ⟨?_, ?_, rfl, rfl⟩ (leN_t rfl))) ?_
       · cbv; (repeat' (first | exact trivial | exact rfl | apply And.intro))
       · cbv; (repeat' (first | exact trivial | exact rfl | apply And.intro))
       clear H
       intro X2 HX2 n _ _ _ H Nx2 hN2
       rw [f139c_l2] at H
       cbv))
end C
end Go.Proofs.Ytjdbmfipciadfaa.A
