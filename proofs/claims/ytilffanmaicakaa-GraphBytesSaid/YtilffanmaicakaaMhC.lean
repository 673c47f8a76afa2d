/- Functions that the law GraphBytes reaches, as plain ones. Written by lift.py. -/
import Derived.Test.YtilffanmaicakaaMbT
import Derived.Test.YtilffanmaicakaaMhB

namespace Go.Proofs.Ytilffanmaicakaa.A
open Go Go.Pt

/-! pontoon/pontoonref05.Same -/
inductive F39R where
  | v0 (y0 : Bool)
def F39R.av : F39R → AV
  | .v0 y0 => .bool y0
def F39R.hp : F39R → List Ent
  | .v0 _ => []
inductive F39L1 where
  | x0 
  | x1 
noncomputable def f39_l1 (o : Ops) (fuel : Nat) (v28 : List AV) (v33 : List AV) (w23 : Int) (a0 : Int) (a1 : List AV) (a2 : Int) (a3 : List AV) (v24 : Int) (v25 : Int) (v26 : Int) (v27 : Int) (v29 : Int) (v30 : Int) (v31 : Int) (v32 : Int) : Nat → Int → Option F39L1
  | 0, _ => none
  | n + 1, w38 =>
    ifB (o.cmp .lss w38 (o.len v28))
    (req (o.inb w38 (o.len v28)) <|
     getA (o.get v28 w38) fun e => sh74 e fun v39 v40 =>
     req (o.inb w38 (o.len v33)) <|
     getA (o.get v33 w38) fun e => sh74 e fun v41 v42 =>
     ifB (o.bnot (o.band (o.cmp .eql v39 v41) (o.cmp .eql v40 v42)))
     (some (.x0 ))
     (f39_l1 o fuel v28 v33 w23 a0 a1 a2 a3 v24 v25 v26 v27 v29 v30 v31 v32 n (o.ar .add .i64 w38 1)))
    (some (.x1 ))
theorem f39_l1_go {J : Jd} {n₀ : Nat} (hJ : J = std Try.prog n₀) {fuel : Nat} {v28 : List AV} {v33 : List AV} {w23 : Int} {a0 : Int} {a1 : List AV} {a2 : Int} {a3 : List AV} {v24 : Int} {v25 : Int} {v26 : Int} {v27 : Int} {v29 : Int} {v30 : Int} {v31 : Int} {v32 : Int} {w38i : Int} {α : Type} {k : F39L1 → Option α} {r : α} {c : Code} {Q : Ex → St → Prop} {s : St}
    (H : bindR (f39_l1 J.o fuel v28 v33 w23 a0 a1 a2 a3 v24 v25 v26 v27 v29 v30 v31 v32 fuel w38i) k = some r) (hn : n₀ ≤ 4) (hle : Le s ⟨[(8, .int .i64 w38i), (7, .ptr 3 0), (6, .ptr 2 0), (5, .int .i64 w23), (3, .ptr 1 0), (2, .ptr 0 0)], [.var [.int .i64 a0, .sl 5 a1 .no], .var [.int .i64 a2, .sl 5 a3 .no], .var [.int .i64 v24, .int .i64 v25, .int .i64 v26, .int .i64 v27, .sl 2 v28 .no], .var [.int .i64 v29, .int .i64 v30, .int .i64 v31, .int .i64 v32, .sl 2 v33 .no]], 93⟩)
    (round : ∀ X, k X = some r → ∀ (n : Nat) (w38 : Int), f39_l1 J.o fuel v28 v33 w23 a0 a1 a2 a3 v24 v25 v26 v27 v29 v30 v31 v32 (n + 1) w38 = some X → ∀ N : St → Prop,
      (∀ (env : List (Nat × AV)) (w38' : Int) (v : List Ent), f39_l1 J.o fuel v28 v33 w23 a0 a1 a2 a3 v24 v25 v26 v27 v29 v30 v31 v32 n w38' = some X → wkEnv env [(8, .int .i64 w38'), (7, .ptr 3 0), (6, .ptr 2 0), (5, .int .i64 w23), (3, .ptr 1 0), (2, .ptr 0 0)] → N ⟨env, [.var [.int .i64 a0, .sl 5 a1 .no], .var [.int .i64 a2, .sl 5 a3 .no], .var [.int .i64 v24, .int .i64 v25, .int .i64 v26, .int .i64 v27, .sl 2 v28 .no], .var [.int .i64 v29, .int .i64 v30, .int .i64 v31, .int .i64 v32, .sl 2 v33 .no]] ++ v, 93⟩) → awp J tab c (thenQ N Q) ⟨[(8, .int .i64 w38), (7, .ptr 3 0), (6, .ptr 2 0), (5, .int .i64 w23), (3, .ptr 1 0), (2, .ptr 0 0)], [.var [.int .i64 a0, .sl 5 a1 .no], .var [.int .i64 a2, .sl 5 a3 .no], .var [.int .i64 v24, .int .i64 v25, .int .i64 v26, .int .i64 v27, .sl 2 v28 .no], .var [.int .i64 v29, .int .i64 v30, .int .i64 v31, .int .i64 v32, .sl 2 v33 .no]], 93⟩) : J.code (.loop c) Q s := by
  obtain ⟨X, hX, HX⟩ := bindR_go H
  refine loop_at (β := Nat × Int) hJ tab_ok (fun | (_, w38) => ⟨[(8, .int .i64 w38), (7, .ptr 3 0), (6, .ptr 2 0), (5, .int .i64 w23), (3, .ptr 1 0), (2, .ptr 0 0)], [.var [.int .i64 a0, .sl 5 a1 .no], .var [.int .i64 a2, .sl 5 a3 .no], .var [.int .i64 v24, .int .i64 v25, .int .i64 v26, .int .i64 v27, .sl 2 v28 .no], .var [.int .i64 v29, .int .i64 v30, .int .i64 v31, .int .i64 v32, .sl 2 v33 .no]], 93⟩) (fun | (n, w38) => f39_l1 J.o fuel v28 v33 w23 a0 a1 a2 a3 v24 v25 v26 v27 v29 v30 v31 v32 n w38 = some X) (fun | (n, _) => n) (fuel, w38i) hX hle (by rintro ⟨_, _⟩; exact hn) ?_
  rintro ⟨n, w38⟩ hb N hN
  rcases n with _ | n
  · exact none_go (show (none : Option F39L1) = some X from hb)
  exact round X HX n w38 hb N fun env w38' v h1 h2 => hN _ (n, w38') h1 (Nat.lt_succ_self n) ⟨h2, by cbv, rfl, rfl⟩

inductive F39L0 where
  | x0 
  | x1 
noncomputable def f39_l0 (o : Ops) (fuel : Nat) (a1 : List AV) (a3 : List AV) (a0 : Int) (a2 : Int) : Nat → Int → Option F39L0
  | 0, _ => none
  | n + 1, w23 =>
    ifB (o.cmp .lss w23 (o.len a1))
    (req (o.inb w23 (o.len a1)) <|
     getA (o.get a1 w23) fun e => sh62 e fun v24 v25 v26 v27 v28 =>
     req (o.inb w23 (o.len a3)) <|
     getA (o.get a3 w23) fun e => sh62 e fun v29 v30 v31 v32 v33 =>
     ifB (o.pick (o.pick (o.pick (o.bnot (o.cmp .eql v24 v29)) true (o.bnot (o.cmp .eql v25 v30))) true (o.bnot (o.cmp .eql v26 v31))) true (o.bnot (o.cmp .eql v27 v32)))
     (some (.x0 ))
     (ifB (o.bnot (o.cmp .eql (o.len v28) (o.len v33)))
      (some (.x0 ))
      (bindR (f39_l1 o fuel v28 v33 w23 a0 a1 a2 a3 v24 v25 v26 v27 v29 v30 v31 v32 fuel 0) fun r => match r with
       | .x0  => some (.x0 )
       | .x1  => f39_l0 o fuel a1 a3 a0 a2 n (o.ar .add .i64 w23 1))))
    (some (.x1 ))
theorem f39_l0_go {J : Jd} {n₀ : Nat} (hJ : J = std Try.prog n₀) {fuel : Nat} {a1 : List AV} {a3 : List AV} {a0 : Int} {a2 : Int} {w23i : Int} {α : Type} {k : F39L0 → Option α} {r : α} {c : Code} {Q : Ex → St → Prop} {s : St}
    (H : bindR (f39_l0 J.o fuel a1 a3 a0 a2 fuel w23i) k = some r) (hn : n₀ ≤ 2) (hle : Le s ⟨[(5, .int .i64 w23i), (3, .ptr 1 0), (2, .ptr 0 0)], [.var [.int .i64 a0, .sl 5 a1 .no], .var [.int .i64 a2, .sl 5 a3 .no]], 93⟩)
    (round : ∀ X, k X = some r → ∀ (n : Nat) (w23 : Int), f39_l0 J.o fuel a1 a3 a0 a2 (n + 1) w23 = some X → ∀ N : St → Prop,
      (∀ (env : List (Nat × AV)) (w23' : Int) (v : List Ent), f39_l0 J.o fuel a1 a3 a0 a2 n w23' = some X → wkEnv env [(5, .int .i64 w23'), (3, .ptr 1 0), (2, .ptr 0 0)] → N ⟨env, [.var [.int .i64 a0, .sl 5 a1 .no], .var [.int .i64 a2, .sl 5 a3 .no]] ++ v, 93⟩) → awp J tab c (thenQ N Q) ⟨[(5, .int .i64 w23), (3, .ptr 1 0), (2, .ptr 0 0)], [.var [.int .i64 a0, .sl 5 a1 .no], .var [.int .i64 a2, .sl 5 a3 .no]], 93⟩) : J.code (.loop c) Q s := by
  obtain ⟨X, hX, HX⟩ := bindR_go H
  refine loop_at (β := Nat × Int) hJ tab_ok (fun | (_, w23) => ⟨[(5, .int .i64 w23), (3, .ptr 1 0), (2, .ptr 0 0)], [.var [.int .i64 a0, .sl 5 a1 .no], .var [.int .i64 a2, .sl 5 a3 .no]], 93⟩) (fun | (n, w23) => f39_l0 J.o fuel a1 a3 a0 a2 n w23 = some X) (fun | (n, _) => n) (fuel, w23i) hX hle (by rintro ⟨_, _⟩; exact hn) ?_
  rintro ⟨n, w23⟩ hb N hN
  rcases n with _ | n
  · exact none_go (show (none : Option F39L0) = some X from hb)
  exact round X HX n w23 hb N fun env w23' v h1 h2 => hN _ (n, w23') h1 (Nat.lt_succ_self n) ⟨h2, by cbv, rfl, rfl⟩

noncomputable def f39 (o : Ops) (fuel : Nat) (a0 : Int) (a1 : List AV) (a2 : Int) (a3 : List AV) : Option F39R :=
  ifB (o.bnot (o.cmp .eql a0 a2))
  (some (.v0 false))
  (ifB (o.bnot (o.cmp .eql (o.len a1) (o.len a3)))
   (some (.v0 false))
   (bindR (f39_l0 o fuel a1 a3 a0 a2 fuel 0) fun r => match r with
    | .x0  => some (.v0 false)
    | .x1  => some (.v0 true)))
set_option maxHeartbeats 4000000 in
set_option maxRecDepth 100000 in
theorem f39_call (o : Ops) (ho : o = stdOps) (fuel : Nat) (a0 : Int) (a1 : List AV) (a2 : Int) (a3 : List AV) {R : F39R} (H : f39 o fuel a0 a1 a2 a3 = some R) (K : AV → List Ent → Prop) (E : AV → List Ent → Prop) (h : K R.av R.hp) : CallA Try.prog 39 [.agg [.int .i64 a0, .sl 5 a1 .no], .agg [.int .i64 a2, .sl 5 a3 .no]] [] K E := by
  refine call_wk fun K' hK => ?_
  refine call_keep (n₀ := 0) tab_ok Try.func39 rfl rfl rfl rfl ?_
  intro J hJ
  obtain rfl : o = J.o := by rw [ho, hJ]; rfl
  unfold f39 at H
  cbv
  repeat' (first
    | ((with_reducible first | refine awp_go2 ?_ | refine aops_go2 ?_ | refine strip_go2 ?_ | refine draw_go2 ?_ | refine frames_go2 ?_); cbv)
    | with_reducible exact id
    | exact trivial
    | with_reducible exact rfl
    | with_reducible exact ⟨_, rfl⟩
    | exact none_go H
    | (cases H; replace H := HX1; clear HX1; dsimp only at H)
    | (cases H; replace H := HX0; clear HX0; dsimp only at H)
    | (refine KeepQ.mk [] (by decide) ?_; cbv; cases H; refine hK _ _ _ _ ?_ ?_ rfl h <;> cbv)
    | (refine hN0 _ _ _ H ?_; with_reducible refine wkEnv_go2 ?_; cbv)
    | (refine hN1 _ _ _ H ?_; with_reducible refine wkEnv_go2 ?_; cbv)
    | (refine ifB_go H ?_ ?_ <;> clear H <;> intro hh H)
    | (refine ifB_og H ?_ ?_ <;> clear H <;> intro hh H)
    | (refine req_go H ?_; clear H; intro hh H)
    | (refine gg_t ho H ?_ ?_ <;> clear H <;> intro hh H)
    | (refine gg_f ho H ?_ ?_ <;> clear H <;> intro hh H)
    | (refine bit_go ho H ?_ ?_ <;> clear H <;> intro hh H; (all_goals cbv))
    | (refine nil_go H ?_; clear H; intro b H; cbv)
    | (refine tok_go ?_; cbv)
    | (refine sh62_get H ?_; clear H; intro _ _ _ _ _ he H; cbv)
    | (refine sh62_find H ?_ ?_ <;> clear H; (intro _ _ _ _ _ H; cbv); (intro H; cbv))
    | (refine sh74_get H ?_; clear H; intro _ _ he H; cbv)
    | (refine sh74_find H ?_ ?_ <;> clear H; (intro _ _ H; cbv); (intro H; cbv))
    | (refine getA_go (β := UInt8) H ?_; clear H; intro e H; cbv)
    | (refine f39_l0_go hJ H (by decide) ⟨?_, ?_, rfl, rfl⟩ ?_
       · cbv
         repeat' (first | exact trivial | exact rfl | apply And.intro)
       · cbv
         repeat' (first | exact trivial | exact rfl | apply And.intro)
       clear H
       intro X0 HX0 n _ H Nx0 hN0
       rw [f39_l0] at H
       cbv)
    | (refine f39_l1_go hJ H (by decide) ⟨?_, ?_, rfl, rfl⟩ ?_
       · cbv
         repeat' (first | exact trivial | exact rfl | apply And.intro)
       · cbv
         repeat' (first | exact trivial | exact rfl | apply And.intro)
       clear H
       intro X1 HX1 n _ H Nx1 hN1
       rw [f39_l1] at H
       cbv)
    | (refine region_pack (id := 6) hJ tab_ok 10 11 [0, 1, 3, 2] rfl (Nat.le_of_ble_eq_true rfl) rfl (by decide) ?_ ?_ <;> intro KK hKK <;> cbv)
    | (refine hKK _ ?_; clear hKK; cbv)
    | (refine lit_t ?_; cbv)
    | (refine lit_f ?_; cbv)
    | (refine lit_t ?_; cbv)
    | (refine lit_f ?_; cbv)
    | (refine known_t (by assumption) ?_)
    | (refine known_f (by assumption) ?_)
    | (refine known_x (by assumption) ?_)
    | (refine known_y (by assumption) ?_)
    | (refine known_get (by assumption) ?_; cbv)
    | (refine known_and (by assumption) ?_)
    | with_reducible refine And.intro ?_ ?_
    | (intro hh; exact hh)
    | (intro _; assumption)
    | (intro _; clear H h; (try clear hN0); (try clear HX0); (try clear hN1); (try clear HX1); simp only [ho, stdOps] at *; simp_all))

end Go.Proofs.Ytilffanmaicakaa.A
