/- Functions of the program and of the document's answer, as plain ones. Written by lift.py. -/
import Derived.Test.YtjdbmfipciadfaaSx0
import Derived.Test.YtjdbmfipciadfaaSx11
import Derived.Test.YtjdbmfipciadfaaSx6

namespace Go.Proofs.Ytjdbmfipciadfaa.A
open Go Go.Pt

/-! pontoon/pontoonref15.Above -/
inductive F29R where
  | v0 (y0 : Bool)
def F29R.av : F29R → AV
  | .v0 y0 => .bool y0
def F29R.hp : F29R → List Ent
  | .v0 _ => []
inductive F29L0 where
  | x0 
  | x1 
noncomputable def f29_l0 (o : Ops) (fuel : Nat) (a0 : List AV) (a1 : List AV) : Nat → Int → Option F29L0
  | 0, _ => none
  | n + 1, w4 =>
    ifB (o.cmp .lss w4 (o.len a0))
    (req (o.inb w4 (o.len a0)) <|
     getA (o.get a0 w4) fun e => sh2 e fun v5 =>
     req (o.inb w4 (o.len a1)) <|
     getA (o.get a1 w4) fun e => sh2 e fun v6 =>
     ifB (o.cmp .lss v5 v6)
     (some (.x0 ))
     (f29_l0 o fuel a0 a1 n (o.ar .add .i64 w4 1)))
    (some (.x1 ))
theorem f29_l0_go {J : Jd} {n₀ : Nat} (hJ : J = std Try.prog n₀) {o : Ops} (hJo : J.o = o) {fuel : Nat} {a0 : List AV} {a1 : List AV} {w4i : Int} {α : Type} {k : F29L0 → Option α} {r : α} {c : Code} {Q : Ex → St → Prop} {s : St}
    (H : bindR (f29_l0 o fuel a0 a1 fuel w4i) k = some r) (hn : n₀ ≤ 0) (hle : Le s ⟨[(5, .int .i64 w4i), (1, .sl 1 a1 .no), (0, .sl 1 a0 .no)], [], 26⟩)
    (round : ∀ X, k X = some r → ∀ (n : Nat) (w4 : Int), f29_l0 o fuel a0 a1 (n + 1) w4 = some X → ∀ N : St → Prop,
      (∀ (env : List (Nat × AV)) (w4' : Int) (v : List Ent), f29_l0 o fuel a0 a1 n w4' = some X → wkEnv env [(5, .int .i64 w4'), (1, .sl 1 a1 .no), (0, .sl 1 a0 .no)] → N ⟨env, [] ++ v, 26⟩) → awp J tab c (thenQ N Q) ⟨[(5, .int .i64 w4), (1, .sl 1 a1 .no), (0, .sl 1 a0 .no)], [], 26⟩) : J.code (.loop c) Q s := by
  subst hJo
  obtain ⟨X, hX, HX⟩ := bindR_go H
  refine loop_at (β := Nat × Int) hJ tab_ok (fun | (_, w4) => ⟨[(5, .int .i64 w4), (1, .sl 1 a1 .no), (0, .sl 1 a0 .no)], [], 26⟩) (fun | (n, w4) => f29_l0 J.o fuel a0 a1 n w4 = some X) (fun | (n, _) => n) (fuel, w4i) hX hle (by rintro ⟨_, _⟩; exact hn) ?_
  rintro ⟨n, w4⟩ hb N hN
  rcases n with _ | n
  · exact none_go (show (none : Option F29L0) = some X from hb)
  exact round X HX n w4 hb N fun env w4' v h1 h2 => hN _ (n, w4') h1 (Nat.lt_succ_self n) ⟨h2, by first | (cbv; done) | (cbv; repeat' (first | exact trivial | exact rfl | apply And.intro)), rfl, rfl⟩

noncomputable def f29 (o : Ops) (fuel : Nat) (a0 : List AV) (a1 : List AV) : Option F29R :=
  ifB (o.bnot (o.cmp .eql (o.len a0) (o.len a1)))
  (some (.v0 false))
  (bindR (f29_l0 o fuel a0 a1 fuel 0) fun r => match r with
   | .x0  => some (.v0 false)
   | .x1  => some (.v0 true))
set_option maxHeartbeats 4000000 in
set_option maxRecDepth 100000 in
theorem f29_call (o : Ops) (ho : o = stdOps) (fuel : Nat) (a0 : List AV) (a1 : List AV) {R : F29R} (H : f29 o fuel a0 a1 = some R) (K : AV → List Ent → Prop) (E : AV → List Ent → Prop) (h : K R.av R.hp) : CallA Try.prog 29 [.sl 1 a0 .no, .sl 1 a1 .no] [] K E := by
  refine call_wk fun K' hK => ?_
  refine call_keep (n₀ := 0) tab_ok Try.func29 rfl rfl rfl rfl ?_
  intro J hJ
  obtain rfl : o = J.o := by rw [ho, hJ]; rfl
  unfold f29 at H
  cbv
  repeat' (first
    | ((with_reducible first | refine awp_go2 ?_ | refine aops_go2 ?_ | refine strip_go2 ?_ | refine draw_go2 ?_ | refine frames_go2 ?_); cbv)
    | (with_reducible refine hold_go hJ ?_; cbv)
    | with_reducible exact id
    | exact trivial
    | with_reducible exact rfl
    | with_reducible exact ⟨_, rfl⟩
    | exact none_go H
    | (cases H; replace H := HX0; clear HX0; (try dsimp only at H))
    | (refine KeepQ.mk [] (by decide) ?_; cbv; cases H; refine hK _ _ _ _ ?_ ?_ rfl h <;> cbv)
    | (refine hN0 _ _ _ H ?_; with_reducible refine wkEnv_go2 ?_; cbv)
    | (refine ifB_go H ?_ ?_ <;> clear H <;> intro hh H)
    | (refine ifB_og H ?_ ?_ <;> clear H <;> intro hh H)
    | (refine req_go H ?_; clear H; intro hh H)
    | (refine gg_t ho H ?_ ?_ <;> clear H <;> intro hh H)
    | (refine gg_f ho H ?_ ?_ <;> clear H <;> intro hh H)
    | (refine bit_go ho H ?_ ?_ <;> clear H <;> intro hh H; (all_goals cbv))
    | (refine nil_go H ?_; clear H; intro b H; cbv)
    | (refine tok_go ?_; cbv)
    | (refine sh2_get H ?_; clear H; intro _ he H; cbv)
    | (refine sh2_find H ?_ ?_ <;> clear H; (intro _ H; cbv); rotate_left; (intro H; cbv))
    | (refine getA_go (β := UInt8) H ?_; clear H; intro e H; cbv)
    | (refine f29_l0_go hJ (o := J.o) rfl H (by decide) ⟨?_, ?_, rfl, rfl⟩ ?_
       · cbv
         repeat' (first | exact trivial | exact rfl | apply And.intro)
       · cbv
         repeat' (first | exact trivial | exact rfl | apply And.intro)
       clear H
       intro X0 HX0 n _ H Nx0 hN0
       rw [f29_l0] at H
       cbv)
    | (refine lit_t ?_; cbv)
    | (refine lit_f ?_; cbv)
    | (refine known_t (by assumption) ?_)
    | (refine known_f (by assumption) ?_)
    | (refine known_x (by assumption) ?_)
    | (refine known_y (by assumption) ?_)
    | (refine known_get (by assumption) ?_; cbv)
    | (refine known_and (by assumption) ?_)
    | with_reducible refine And.intro ?_ ?_
    | (intro hh; exact hh)
    | (intro _; assumption)
    | (intro hx; first | exact tf_absurd hx (by assumption) | exact tf_absurd (by assumption) hx)
    | (intro _; clear H h; (try clear hN0); (try clear HX0); simp only [ho, stdOps] at *; simp_all)
    | (cbv; with_reducible refine hold_go hJ ?_; cbv))

/-! (*pontoon/pontoonref15.Sink).suits -/
inductive F132R where
  | v0 (y0 : Int)
def F132R.av : F132R → AV
  | .v0 y0 => .int .i64 y0
def F132R.hp (a5 : Int) (a6 : Int) (a7 : List AV) (a8 : List AV) (a9 : List AV) (a10 : List AV) : F132R → List Ent
  | .v0 _ => [.var [.int .i64 a5, .int .i64 a6, .sl 2 a7 .no, .sl 1 a8 .no, .sl 1 a9 .no, .sl 5 a10 .no]]
inductive F132L0 where
  | x0 
  | x1 
noncomputable def f132_l0 (o : Ops) (fuel : Nat) (a3 : List AV) (a5 : Int) (a6 : Int) (a7 : List AV) (a8 : List AV) (a9 : List AV) (a10 : List AV) (a2 : Int) (a0 : Int) (a1 : Int) (a4 : List AV) : Nat → Int → Option F132L0
  | 0, _ => none
  | n + 1, w19 =>
    ifB (o.cmp .lss w19 (o.len a3))
    (bindR (f106 o fuel a5 a6 a7 a8 a9 a10) fun r => match r with
     | .v0 r20 => ifB (o.pick (o.cmp .lss w19 (o.len a3)) (o.cmp .lss (o.ar .add .i64 a2 w19) r20) false)
       (req (o.inb (o.ar .add .i64 a2 w19) (o.len a7)) <|
        getA (o.get a7 (o.ar .add .i64 a2 w19)) fun e => sh57 e fun v21 v22 =>
        req (o.inb w19 (o.len a3)) <|
        getA (o.get a3 w19) fun e => sh57 e fun v23 v24 =>
        ifB (o.bnot (o.band (o.cmp .eql v21 v23) (o.cmp .eql v22 v24)))
        (some (.x0 ))
        (f132_l0 o fuel a3 a5 a6 a7 a8 a9 a10 a2 a0 a1 a4 n (o.ar .add .i64 w19 1)))
       (some (.x1 )))
    (some (.x1 ))
theorem f132_l0_go {J : Jd} {n₀ : Nat} (hJ : J = std Try.prog n₀) {o : Ops} (hJo : J.o = o) {fuel : Nat} {a3 : List AV} {a5 : Int} {a6 : Int} {a7 : List AV} {a8 : List AV} {a9 : List AV} {a10 : List AV} {a2 : Int} {a0 : Int} {a1 : Int} {a4 : List AV} {w19i : Int} {α : Type} {k : F132L0 → Option α} {r : α} {c : Code} {Q : Ex → St → Prop} {s : St}
    (H : bindR (f132_l0 o fuel a3 a5 a6 a7 a8 a9 a10 a2 a0 a1 a4 fuel w19i) k = some r) (hn : n₀ ≤ 2) (hle : Le s ⟨[(6, .int .i64 w19i), (5, .int .i64 (o.ar .add .i64 a2 (o.len a3))), (3, .ptr 1 0), (0, .ptr 0 0)], [.var [.int .i64 a5, .int .i64 a6, .sl 2 a7 .no, .sl 1 a8 .no, .sl 1 a9 .no, .sl 5 a10 .no], .var [.int .i64 a0, .int .i64 a1, .int .i64 a2, .sl 2 a3 .no, .sl 1 a4 .no]], 68⟩)
    (round : ∀ X, k X = some r → ∀ (n : Nat) (w19 : Int), f132_l0 o fuel a3 a5 a6 a7 a8 a9 a10 a2 a0 a1 a4 (n + 1) w19 = some X → ∀ N : St → Prop,
      (∀ (env : List (Nat × AV)) (w19' : Int) (v : List Ent), f132_l0 o fuel a3 a5 a6 a7 a8 a9 a10 a2 a0 a1 a4 n w19' = some X → wkEnv env [(6, .int .i64 w19'), (5, .int .i64 (o.ar .add .i64 a2 (o.len a3))), (3, .ptr 1 0), (0, .ptr 0 0)] → N ⟨env, [.var [.int .i64 a5, .int .i64 a6, .sl 2 a7 .no, .sl 1 a8 .no, .sl 1 a9 .no, .sl 5 a10 .no], .var [.int .i64 a0, .int .i64 a1, .int .i64 a2, .sl 2 a3 .no, .sl 1 a4 .no]] ++ v, 68⟩) → awp J tab c (thenQ N Q) ⟨[(6, .int .i64 w19), (5, .int .i64 (o.ar .add .i64 a2 (o.len a3))), (3, .ptr 1 0), (0, .ptr 0 0)], [.var [.int .i64 a5, .int .i64 a6, .sl 2 a7 .no, .sl 1 a8 .no, .sl 1 a9 .no, .sl 5 a10 .no], .var [.int .i64 a0, .int .i64 a1, .int .i64 a2, .sl 2 a3 .no, .sl 1 a4 .no]], 68⟩) : J.code (.loop c) Q s := by
  subst hJo
  obtain ⟨X, hX, HX⟩ := bindR_go H
  refine loop_at (β := Nat × Int) hJ tab_ok (fun | (_, w19) => ⟨[(6, .int .i64 w19), (5, .int .i64 (J.o.ar .add .i64 a2 (J.o.len a3))), (3, .ptr 1 0), (0, .ptr 0 0)], [.var [.int .i64 a5, .int .i64 a6, .sl 2 a7 .no, .sl 1 a8 .no, .sl 1 a9 .no, .sl 5 a10 .no], .var [.int .i64 a0, .int .i64 a1, .int .i64 a2, .sl 2 a3 .no, .sl 1 a4 .no]], 68⟩) (fun | (n, w19) => f132_l0 J.o fuel a3 a5 a6 a7 a8 a9 a10 a2 a0 a1 a4 n w19 = some X) (fun | (n, _) => n) (fuel, w19i) hX hle (by rintro ⟨_, _⟩; exact hn) ?_
  rintro ⟨n, w19⟩ hb N hN
  rcases n with _ | n
  · exact none_go (show (none : Option F132L0) = some X from hb)
  exact round X HX n w19 hb N fun env w19' v h1 h2 => hN _ (n, w19') h1 (Nat.lt_succ_self n) ⟨h2, by first | (cbv; done) | (cbv; repeat' (first | exact trivial | exact rfl | apply And.intro)), rfl, rfl⟩

noncomputable def f132 (o : Ops) (fuel : Nat) (a0 : Int) (a1 : Int) (a2 : Int) (a3 : List AV) (a4 : List AV) (a5 : Int) (a6 : Int) (a7 : List AV) (a8 : List AV) (a9 : List AV) (a10 : List AV) : Option F132R :=
  bindR (f106 o fuel a5 a6 a7 a8 a9 a10) fun r => match r with
  | .v0 r11 => ifB (o.cmp .gtr a2 r11)
    (some (.v0 151))
    (bindR (f29 o fuel a4 a8) fun r => match r with
     | .v0 r12 => ifB (o.bnot (o.bnot r12))
       (bindR (f106 o fuel a5 a6 a7 a8 a9 a10) fun r => match r with
        | .v0 r13 => ifB (o.pick (o.bnot r12) true (o.cmp .lss (o.ar .add .i64 a2 (o.len a3)) r13))
          (some (.v0 152))
          (bindR (f132_l0 o fuel a3 a5 a6 a7 a8 a9 a10 a2 a0 a1 a4 fuel 0) fun r => match r with
           | .x0  => some (.v0 153)
           | .x1  => ifB (o.cmp .gtr (o.ar .add .i64 a2 (o.len a3)) 4096)
             (some (.v0 30))
             (some (.v0 0))))
       (some (.v0 152)))
set_option maxHeartbeats 4000000 in
set_option maxRecDepth 100000 in
theorem f132_call (o : Ops) (ho : o = stdOps) (fuel : Nat) (a0 : Int) (a1 : Int) (a2 : Int) (a3 : List AV) (a4 : List AV) (a5 : Int) (a6 : Int) (a7 : List AV) (a8 : List AV) (a9 : List AV) (a10 : List AV) {R : F132R} (H : f132 o fuel a0 a1 a2 a3 a4 a5 a6 a7 a8 a9 a10 = some R) (K : AV → List Ent → Prop) (E : AV → List Ent → Prop) (h : K R.av (F132R.hp a5 a6 a7 a8 a9 a10 R)) : CallA Try.prog 132 [.ptr 0 0, .agg [.int .i64 a0, .int .i64 a1, .int .i64 a2, .sl 2 a3 .no, .sl 1 a4 .no]] [.var [.int .i64 a5, .int .i64 a6, .sl 2 a7 .no, .sl 1 a8 .no, .sl 1 a9 .no, .sl 5 a10 .no]] K E := by
  refine call_wk fun K' hK => ?_
  refine call_keep (n₀ := 1) tab_ok Try.func132 rfl rfl rfl rfl ?_
  intro J hJ
  obtain rfl : o = J.o := by rw [ho, hJ]; rfl
  unfold f132 at H
  cbv
  repeat' (first
    | ((with_reducible first | refine awp_go2 ?_ | refine aops_go2 ?_ | refine strip_go2 ?_ | refine draw_go2 ?_ | refine frames_go2 ?_); cbv)
    | (with_reducible refine hold_go hJ ?_; cbv)
    | with_reducible exact id
    | exact trivial
    | with_reducible exact rfl
    | with_reducible exact ⟨_, rfl⟩
    | exact none_go H
    | (cases H; replace H := HX0; clear HX0; (try dsimp only at H))
    | (refine KeepQ.mk [] (by decide) ?_; cbv; cases H; refine hK _ _ _ _ ?_ ?_ rfl h <;> cbv)
    | (refine hN0 _ _ _ H ?_; with_reducible refine wkEnv_go2 ?_; cbv)
    | (first | refine known_f (kn_pick_f ho (by assumption) rfl) ?_ | refine known_x (kn_pick_f ho (by assumption) rfl) ?_)
    | (first | refine known_t (kn_pick_t ho (ku_bnot_f ho (by assumption)) rfl) ?_ | refine known_y (kn_pick_t ho (ku_bnot_f ho (by assumption)) rfl) ?_)
    | (refine ifB_go H ?_ ?_ <;> clear H <;> intro hh H)
    | (refine ifB_og H ?_ ?_ <;> clear H <;> intro hh H)
    | (refine req_go H ?_; clear H; intro hh H)
    | (refine gg_t ho H ?_ ?_ <;> clear H <;> intro hh H)
    | (refine gg_f ho H ?_ ?_ <;> clear H <;> intro hh H)
    | (refine bit_go ho H ?_ ?_ <;> clear H <;> intro hh H; (all_goals cbv))
    | (refine nil_go H ?_; clear H; intro b H; cbv)
    | (refine tok_go ?_; cbv)
    | (refine sh57_get H ?_; clear H; intro _ _ he H; cbv)
    | (refine sh57_find H ?_ ?_ <;> clear H; (intro _ _ H; cbv); rotate_left; (intro H; cbv))
    | (refine getA_go (β := UInt8) H ?_; clear H; intro e H; cbv)
    | (obtain ⟨R, hR, H2⟩ := bindR_go H; refine call_in hJ [0] (by decide) rfl rfl rfl (f106_call _ ho _ _ _ _ _ _ _ hR _ _ ?_); clear H hR; rcases R with ⟨_⟩; all_goals (replace H := H2; clear H2; (try dsimp only at H); cbv))
    | (obtain ⟨R, hR, H2⟩ := bindR_go H; refine call_in hJ [] (by decide) rfl rfl rfl (f29_call _ ho _ _ _ hR _ _ ?_); clear H hR; rcases R with ⟨_⟩; all_goals (replace H := H2; clear H2; (try dsimp only at H); cbv))
    | (refine f132_l0_go hJ (o := J.o) rfl H (by decide) ⟨?_, ?_, rfl, rfl⟩ ?_
       · cbv
         repeat' (first | exact trivial | exact rfl | apply And.intro)
       · cbv
         repeat' (first | exact trivial | exact rfl | apply And.intro)
       clear H
       intro X0 HX0 n _ H Nx0 hN0
       rw [f132_l0] at H
       cbv)
    | (refine lit_t ?_; cbv)
    | (refine lit_f ?_; cbv)
    | (refine known_t (by assumption) ?_)
    | (refine known_f (by assumption) ?_)
    | (refine known_x (by assumption) ?_)
    | (refine known_y (by assumption) ?_)
    | (refine known_get (by assumption) ?_; cbv)
    | (refine known_and (by assumption) ?_)
    | with_reducible refine And.intro ?_ ?_
    | (intro hh; exact hh)
    | (intro _; assumption)
    | (intro hx; first | exact tf_absurd hx (by assumption) | exact tf_absurd (by assumption) hx)
    | (intro _; clear H h; (try clear hN0); (try clear HX0); simp only [ho, stdOps] at *; simp_all)
    | (cbv; with_reducible refine hold_go hJ ?_; cbv))

/-! pontoon/pontoonref15.clone -/
inductive F104R where
  | v0 (y0 : Int) (y1 : Int) (y2 : Int) (y3 : List AV) (y4 : List AV)
def F104R.av : F104R → AV
  | .v0 y0 y1 y2 y3 y4 => .agg [.int .i64 y0, .int .i64 y1, .int .i64 y2, .sl 2 y3 .no, .sl 1 y4 .no]
def F104R.hp : F104R → List Ent
  | .v0 _ _ _ _ _ => []
noncomputable def f104 (o : Ops) (_fuel : Nat) (a0 : Int) (a1 : Int) (a2 : Int) (a3 : List AV) (a4 : List AV) : Option F104R :=
  req (o.room [] a3 16) <|
  req (o.room [] a4 8) <|
  some (.v0 a0 a1 a2 (o.apnd [] a3) (o.apnd [] a4))
set_option maxHeartbeats 4000000 in
set_option maxRecDepth 100000 in
theorem f104_call (o : Ops) (ho : o = stdOps) (fuel : Nat) (a0 : Int) (a1 : Int) (a2 : Int) (a3 : List AV) (a4 : List AV) {R : F104R} (H : f104 o fuel a0 a1 a2 a3 a4 = some R) (K : AV → List Ent → Prop) (E : AV → List Ent → Prop) (h : K R.av R.hp) : CallA Try.prog 104 [.agg [.int .i64 a0, .int .i64 a1, .int .i64 a2, .sl 2 a3 .no, .sl 1 a4 .no]] [] K E := by
  refine call_wk fun K' hK => ?_
  refine call_keep (n₀ := 0) tab_ok Try.func104 rfl rfl rfl rfl ?_
  intro J hJ
  obtain rfl : o = J.o := by rw [ho, hJ]; rfl
  unfold f104 at H
  cbv
  repeat' (first
    | ((with_reducible first | refine awp_go2 ?_ | refine aops_go2 ?_ | refine strip_go2 ?_ | refine draw_go2 ?_ | refine frames_go2 ?_); cbv)
    | (with_reducible refine hold_go hJ ?_; cbv)
    | with_reducible exact id
    | exact trivial
    | with_reducible exact rfl
    | with_reducible exact ⟨_, rfl⟩
    | exact none_go H
    | (refine KeepQ.mk [] (by decide) ?_; cbv; cases H; refine hK _ _ _ _ ?_ ?_ rfl h <;> cbv)
    | (refine ifB_go H ?_ ?_ <;> clear H <;> intro hh H)
    | (refine ifB_og H ?_ ?_ <;> clear H <;> intro hh H)
    | (refine req_go H ?_; clear H; intro hh H)
    | (refine gg_t ho H ?_ ?_ <;> clear H <;> intro hh H)
    | (refine gg_f ho H ?_ ?_ <;> clear H <;> intro hh H)
    | (refine bit_go ho H ?_ ?_ <;> clear H <;> intro hh H; (all_goals cbv))
    | (refine nil_go H ?_; clear H; intro b H; cbv)
    | (refine tok_go ?_; cbv)
    | (refine getA_go (β := UInt8) H ?_; clear H; intro e H; cbv)
    | (refine lit_t ?_; cbv)
    | (refine lit_f ?_; cbv)
    | (refine known_t (by assumption) ?_)
    | (refine known_f (by assumption) ?_)
    | (refine known_x (by assumption) ?_)
    | (refine known_y (by assumption) ?_)
    | (refine known_get (by assumption) ?_; cbv)
    | (refine known_and (by assumption) ?_)
    | with_reducible refine And.intro ?_ ?_
    | (intro hh; exact hh)
    | (intro _; assumption)
    | (intro hx; first | exact tf_absurd hx (by assumption) | exact tf_absurd (by assumption) hx)
    | (intro _; clear H h; simp only [ho, stdOps] at *; simp_all)
    | (cbv; with_reducible refine hold_go hJ ?_; cbv))

/-! (*pontoon/pontoonref15.Sink).Pre -/
inductive F88R where
  | v0 (y0 : Int) (y1 : Int) (y2 : List AV) (y3 : List AV)
def F88R.av : F88R → AV
  | .v0 y0 _ _ _ => .int .i64 y0
def F88R.hp (a5 : Int) (a7 : List AV) (a8 : List AV) : F88R → List Ent
  | .v0 _ y1 y2 y3 => [.var [.int .i64 a5, .int .i64 y1, .sl 2 a7 .no, .sl 1 a8 .no, .sl 1 y2 .no, .sl 5 y3 .no]]
inductive F88L0 where
  | x0 (y0 : Int)
noncomputable def f88_l0 (o : Ops) (fuel : Nat) (r15 : List AV) (a1 : Int) (a5 : Int) (r13 : Int) (a7 : List AV) (a8 : List AV) (r14 : List AV) (a0 : Int) (a2 : Int) (a3 : List AV) (a4 : List AV) : Nat → Int → Option F88L0
  | 0, _ => none
  | n + 1, w30 =>
    ifB (o.cmp .lss w30 (o.len r15))
    (req (o.inb w30 (o.len r15)) <|
     getA (o.get r15 w30) fun e => sh31 e fun _ v32 _ _ _ =>
     ifB (o.pick (o.cmp .lss w30 (o.len r15)) (o.cmp .lss v32 a1) false)
     (f88_l0 o fuel r15 a1 a5 r13 a7 a8 r14 a0 a2 a3 a4 n (o.ar .add .i64 w30 1))
     (some (.x0 w30)))
    (some (.x0 w30))
theorem f88_l0_go {J : Jd} {n₀ : Nat} (hJ : J = std Try.prog n₀) {o : Ops} (hJo : J.o = o) {fuel : Nat} {r15 : List AV} {a1 : Int} {a5 : Int} {r13 : Int} {a7 : List AV} {a8 : List AV} {r14 : List AV} {a0 : Int} {a2 : Int} {a3 : List AV} {a4 : List AV} {w30i : Int} {α : Type} {k : F88L0 → Option α} {r : α} {c : Code} {Q : Ex → St → Prop} {s : St}
    (H : bindR (f88_l0 o fuel r15 a1 a5 r13 a7 a8 r14 a0 a2 a3 a4 fuel w30i) k = some r) (hn : n₀ ≤ 2) (hle : Le s ⟨[(8, .int .i64 w30i), (3, .ptr 1 0), (0, .ptr 0 0)], [.var [.int .i64 a5, .int .i64 r13, .sl 2 a7 .no, .sl 1 a8 .no, .sl 1 r14 .no, .sl 5 r15 .no], .var [.int .i64 a0, .int .i64 a1, .int .i64 a2, .sl 2 a3 .no, .sl 1 a4 .no]], 107⟩)
    (round : ∀ X, k X = some r → ∀ (n : Nat) (w30 : Int), f88_l0 o fuel r15 a1 a5 r13 a7 a8 r14 a0 a2 a3 a4 (n + 1) w30 = some X → ∀ N : St → Prop,
      (∀ (env : List (Nat × AV)) (w30' : Int) (v : List Ent), f88_l0 o fuel r15 a1 a5 r13 a7 a8 r14 a0 a2 a3 a4 n w30' = some X → wkEnv env [(8, .int .i64 w30'), (3, .ptr 1 0), (0, .ptr 0 0)] → N ⟨env, [.var [.int .i64 a5, .int .i64 r13, .sl 2 a7 .no, .sl 1 a8 .no, .sl 1 r14 .no, .sl 5 r15 .no], .var [.int .i64 a0, .int .i64 a1, .int .i64 a2, .sl 2 a3 .no, .sl 1 a4 .no]] ++ v, 107⟩) → awp J tab c (thenQ N Q) ⟨[(8, .int .i64 w30), (3, .ptr 1 0), (0, .ptr 0 0)], [.var [.int .i64 a5, .int .i64 r13, .sl 2 a7 .no, .sl 1 a8 .no, .sl 1 r14 .no, .sl 5 r15 .no], .var [.int .i64 a0, .int .i64 a1, .int .i64 a2, .sl 2 a3 .no, .sl 1 a4 .no]], 107⟩) : J.code (.loop c) Q s := by
  subst hJo
  obtain ⟨X, hX, HX⟩ := bindR_go H
  refine loop_at (β := Nat × Int) hJ tab_ok (fun | (_, w30) => ⟨[(8, .int .i64 w30), (3, .ptr 1 0), (0, .ptr 0 0)], [.var [.int .i64 a5, .int .i64 r13, .sl 2 a7 .no, .sl 1 a8 .no, .sl 1 r14 .no, .sl 5 r15 .no], .var [.int .i64 a0, .int .i64 a1, .int .i64 a2, .sl 2 a3 .no, .sl 1 a4 .no]], 107⟩) (fun | (n, w30) => f88_l0 J.o fuel r15 a1 a5 r13 a7 a8 r14 a0 a2 a3 a4 n w30 = some X) (fun | (n, _) => n) (fuel, w30i) hX hle (by rintro ⟨_, _⟩; exact hn) ?_
  rintro ⟨n, w30⟩ hb N hN
  rcases n with _ | n
  · exact none_go (show (none : Option F88L0) = some X from hb)
  exact round X HX n w30 hb N fun env w30' v h1 h2 => hN _ (n, w30') h1 (Nat.lt_succ_self n) ⟨h2, by first | (cbv; done) | (cbv; repeat' (first | exact trivial | exact rfl | apply And.intro)), rfl, rfl⟩

noncomputable def f88 (o : Ops) (fuel : Nat) (a0 : Int) (a1 : Int) (a2 : Int) (a3 : List AV) (a4 : List AV) (a5 : Int) (a6 : Int) (a7 : List AV) (a8 : List AV) (a9 : List AV) (a10 : List AV) : Option F88R :=
  bindR (f21 o fuel a0 a1 a2 a3 a4 a5 a6 a7 a8 a9 a10) fun r => match r with
  | .v0 r11 => ifB (o.bnot r11)
    (some (.v0 1 a6 a9 a10))
    (bindR (f130 o fuel a0 a5 a6 a7 a8 a9 a10) fun r => match r with
     | .v0 r12 r13 r14 r15 => ifB (o.bnot (o.cmp .eql r12 0))
       (some (.v0 r12 r13 r14 r15))
       (bindR (f109 o fuel a0 a1 a5 r13 a7 a8 r14 r15) fun r => match r with
        | .v0 r16 => ifB r16
          (some (.v0 0 r13 r14 r15))
          (bindR (f131 o fuel a1 a5 r13 a7 a8 r14 r15) fun r => match r with
           | .v0 r17 => ifB (o.cmp .geq r17 0)
             (req (o.inb r17 (o.len r15)) <|
              getA (o.get r15 r17) fun e => sh31 e fun v18 v19 v20 v21 v22 =>
              bindR (f61 o fuel v18 v19 v20 v21 v22 a0 a1 a2 a3 a4) fun r => match r with
              | .v0 r23 => ifB r23
                (some (.v0 0 r13 r14 r15))
                (some (.v0 5 r13 r14 r15)))
             (bindR (f132 o fuel a0 a1 a2 a3 a4 a5 r13 a7 a8 r14 r15) fun r => match r with
              | .v0 r24 => ifB (o.bnot (o.cmp .eql r24 0))
                (some (.v0 r24 r13 r14 r15))
                (ifB (o.cmp .geq (o.len r15) 8)
                 (some (.v0 6 r13 r14 r15))
                 (bindR (f88_l0 o fuel r15 a1 a5 r13 a7 a8 r14 a0 a2 a3 a4 fuel 0) fun r => match r with
                  | .x0 y36 => req (o.le 0 y36) <|
                    req (o.le y36 (o.len r15)) <|
                    req (o.room [] (o.sub r15 0 y36) 72) <|
                    bindR (f104 o fuel a0 a1 a2 a3 a4) fun r => match r with
                    | .v0 r37 r38 r39 r40 r41 => req (o.room (o.apnd [] (o.sub r15 0 y36)) [.agg [.int .i64 r37, .int .i64 r38, .int .i64 r39, .sl 2 r40 .no, .sl 1 r41 .no]] 72) <|
                      req (o.le 0 y36) <|
                      req (o.le y36 (o.len r15)) <|
                      req (o.room (o.apnd (o.apnd [] (o.sub r15 0 y36)) [.agg [.int .i64 r37, .int .i64 r38, .int .i64 r39, .sl 2 r40 .no, .sl 1 r41 .no]]) (o.drop r15 y36) 72) <|
                      some (.v0 0 r13 r14 (o.apnd (o.apnd (o.apnd [] (o.sub r15 0 y36)) [.agg [.int .i64 r37, .int .i64 r38, .int .i64 r39, .sl 2 r40 .no, .sl 1 r41 .no]]) (o.drop r15 y36)))))))))
set_option maxHeartbeats 4000000 in
set_option maxRecDepth 100000 in
theorem f88_call (o : Ops) (ho : o = stdOps) (fuel : Nat) (a0 : Int) (a1 : Int) (a2 : Int) (a3 : List AV) (a4 : List AV) (a5 : Int) (a6 : Int) (a7 : List AV) (a8 : List AV) (a9 : List AV) (a10 : List AV) {R : F88R} (H : f88 o fuel a0 a1 a2 a3 a4 a5 a6 a7 a8 a9 a10 = some R) (K : AV → List Ent → Prop) (E : AV → List Ent → Prop) (h : K R.av (F88R.hp a5 a7 a8 R)) : CallA Try.prog 88 [.ptr 0 0, .agg [.int .i64 a0, .int .i64 a1, .int .i64 a2, .sl 2 a3 .no, .sl 1 a4 .no]] [.var [.int .i64 a5, .int .i64 a6, .sl 2 a7 .no, .sl 1 a8 .no, .sl 1 a9 .no, .sl 5 a10 .no]] K E := by
  refine call_wk fun K' hK => ?_
  refine call_keep (n₀ := 1) tab_ok Try.func88 rfl rfl rfl rfl ?_
  intro J hJ
  obtain rfl : o = J.o := by rw [ho, hJ]; rfl
  unfold f88 at H
  cbv
  repeat' (first
    | ((with_reducible first | refine awp_go2 ?_ | refine aops_go2 ?_ | refine strip_go2 ?_ | refine draw_go2 ?_ | refine frames_go2 ?_); cbv)
    | (with_reducible refine hold_go hJ ?_; cbv)
    | with_reducible exact id
    | exact trivial
    | with_reducible exact rfl
    | with_reducible exact ⟨_, rfl⟩
    | exact none_go H
    | (cases H; replace H := HX0; clear HX0; (try dsimp only at H))
    | (refine KeepQ.mk [] (by decide) ?_; cbv; cases H; refine hK _ _ _ _ ?_ ?_ rfl h <;> cbv)
    | (refine hN0 _ _ _ H ?_; with_reducible refine wkEnv_go2 ?_; cbv)
    | (first | refine known_f (kn_pick_f ho (by assumption) rfl) ?_ | refine known_x (kn_pick_f ho (by assumption) rfl) ?_)
    | (refine ifB_go H ?_ ?_ <;> clear H <;> intro hh H)
    | (refine ifB_og H ?_ ?_ <;> clear H <;> intro hh H)
    | (refine req_go H ?_; clear H; intro hh H)
    | (refine gg_t ho H ?_ ?_ <;> clear H <;> intro hh H)
    | (refine gg_f ho H ?_ ?_ <;> clear H <;> intro hh H)
    | (refine bit_go ho H ?_ ?_ <;> clear H <;> intro hh H; (all_goals cbv))
    | (refine nil_go H ?_; clear H; intro b H; cbv)
    | (refine tok_go ?_; cbv)
    | (refine sh31_get H ?_; clear H; intro _ _ _ _ _ he H; cbv)
    | (refine sh31_find H ?_ ?_ <;> clear H; (intro _ _ _ _ _ H; cbv); rotate_left; (intro H; cbv))
    | (refine getA_go (β := UInt8) H ?_; clear H; intro e H; cbv)
    | (obtain ⟨R, hR, H2⟩ := bindR_go H; refine call_in hJ [] (by decide) rfl rfl rfl (f61_call _ ho _ _ _ _ _ _ _ _ _ _ _ hR _ _ ?_); clear H hR; rcases R with ⟨_⟩; all_goals (replace H := H2; clear H2; (try dsimp only at H); cbv))
    | (obtain ⟨R, hR, H2⟩ := bindR_go H; refine call_in hJ [] (by decide) rfl rfl rfl (f104_call _ ho _ _ _ _ _ _ hR _ _ ?_); clear H hR; rcases R with ⟨_, _, _, _, _⟩; all_goals (replace H := H2; clear H2; (try dsimp only at H); cbv))
    | (obtain ⟨R, hR, H2⟩ := bindR_go H; refine call_in hJ [0] (by decide) rfl rfl rfl (f132_call _ ho _ _ _ _ _ _ _ _ _ _ _ _ hR _ _ ?_); clear H hR; rcases R with ⟨_⟩; all_goals (replace H := H2; clear H2; (try dsimp only at H); cbv))
    | (obtain ⟨R, hR, H2⟩ := bindR_go H; refine call_in hJ [0] (by decide) rfl rfl rfl (f131_call _ ho _ _ _ _ _ _ _ _ hR _ _ ?_); clear H hR; rcases R with ⟨_⟩; all_goals (replace H := H2; clear H2; (try dsimp only at H); cbv))
    | (obtain ⟨R, hR, H2⟩ := bindR_go H; refine call_in hJ [0] (by decide) rfl rfl rfl (f109_call _ ho _ _ _ _ _ _ _ _ _ hR _ _ ?_); clear H hR; rcases R with ⟨_⟩; all_goals (replace H := H2; clear H2; (try dsimp only at H); cbv))
    | (obtain ⟨R, hR, H2⟩ := bindR_go H; refine call_in hJ [0] (by decide) rfl rfl rfl (f130_call _ ho _ _ _ _ _ _ _ _ hR _ _ ?_); clear H hR; rcases R with ⟨_, _, _, _⟩; all_goals (replace H := H2; clear H2; (try dsimp only at H); cbv))
    | (obtain ⟨R, hR, H2⟩ := bindR_go H; refine call_in hJ [0] (by decide) rfl rfl rfl (f21_call _ ho _ _ _ _ _ _ _ _ _ _ _ _ hR _ _ ?_); clear H hR; rcases R with ⟨_⟩; all_goals (replace H := H2; clear H2; (try dsimp only at H); cbv))
    | (refine f88_l0_go hJ (o := J.o) rfl H (by decide) ⟨?_, ?_, rfl, rfl⟩ ?_
       · cbv
         repeat' (first | exact trivial | exact rfl | apply And.intro)
       · cbv
         repeat' (first | exact trivial | exact rfl | apply And.intro)
       clear H
       intro X0 HX0 n _ H Nx0 hN0
       rw [f88_l0] at H
       cbv)
    | (refine lit_t ?_; cbv)
    | (refine lit_f ?_; cbv)
    | (refine known_t (by assumption) ?_)
    | (refine known_f (by assumption) ?_)
    | (refine known_x (by assumption) ?_)
    | (refine known_y (by assumption) ?_)
    | (refine known_get (by assumption) ?_; cbv)
    | (refine known_and (by assumption) ?_)
    | with_reducible refine And.intro ?_ ?_
    | (intro hh; exact hh)
    | (intro _; assumption)
    | (intro hx; first | exact tf_absurd hx (by assumption) | exact tf_absurd (by assumption) hx)
    | (intro _; clear H h; (try clear hN0); (try clear HX0); simp only [ho, stdOps] at *; simp_all)
    | (cbv; with_reducible refine hold_go hJ ?_; cbv))

end Go.Proofs.Ytjdbmfipciadfaa.A
