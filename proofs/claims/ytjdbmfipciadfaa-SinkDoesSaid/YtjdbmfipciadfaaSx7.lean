/- Functions of the program and of the document's answer, as plain ones. Written by lift.py. -/
import Derived.Test.YtjdbmfipciadfaaSx0
import Derived.Test.YtjdbmfipciadfaaSx6

namespace Go.Proofs.Ytjdbmfipciadfaa.A
open Go Go.Pt

/-! pontoon/pontoonref15.Same -/
inductive F23R where
  | v0 (y0 : Bool)
def F23R.av : F23R → AV
  | .v0 y0 => .bool y0
def F23R.hp : F23R → List Ent
  | .v0 _ => []
inductive F23L0 where
  | x0 
  | x1 
noncomputable def f23_l0 (o : Ops) (fuel : Nat) (a4 : List AV) (a9 : List AV) (a0 : Int) (a1 : List AV) (a2 : List AV) (a3 : List AV) (a5 : Int) (a6 : List AV) (a7 : List AV) (a8 : List AV) : Nat → Int → Option F23L0
  | 0, _ => none
  | n + 1, w24 =>
    ifB (o.cmp .lss w24 (o.len a4))
    (req (o.inb w24 (o.len a4)) <|
     getA (o.get a4 w24) fun e => sh31 e fun v25 v26 v27 v28 v29 =>
     req (o.inb w24 (o.len a9)) <|
     getA (o.get a9 w24) fun e => sh31 e fun v30 v31 v32 v33 v34 =>
     bindR (f61 o fuel v25 v26 v27 v28 v29 v30 v31 v32 v33 v34) fun r => match r with
     | .v0 r35 => ifB (o.bnot r35)
       (some (.x0 ))
       (f23_l0 o fuel a4 a9 a0 a1 a2 a3 a5 a6 a7 a8 n (o.ar .add .i64 w24 1)))
    (some (.x1 ))
theorem f23_l0_go {J : Jd} {n₀ : Nat} (hJ : J = std Try.prog n₀) {o : Ops} (hJo : J.o = o) {fuel : Nat} {a4 : List AV} {a9 : List AV} {a0 : Int} {a1 : List AV} {a2 : List AV} {a3 : List AV} {a5 : Int} {a6 : List AV} {a7 : List AV} {a8 : List AV} {w24i : Int} {α : Type} {k : F23L0 → Option α} {r : α} {c : Code} {Q : Ex → St → Prop} {s : St}
    (H : bindR (f23_l0 o fuel a4 a9 a0 a1 a2 a3 a5 a6 a7 a8 fuel w24i) k = some r) (hn : n₀ ≤ 2) (hle : Le s ⟨[(5, .int .i64 w24i), (3, .ptr 1 0), (2, .ptr 0 0)], [.var [.int .i64 a0, .sl 2 a1 .no, .sl 1 a2 .no, .sl 1 a3 .no, .sl 5 a4 .no], .var [.int .i64 a5, .sl 2 a6 .no, .sl 1 a7 .no, .sl 1 a8 .no, .sl 5 a9 .no]], 63⟩)
    (round : ∀ X, k X = some r → ∀ (n : Nat) (w24 : Int), f23_l0 o fuel a4 a9 a0 a1 a2 a3 a5 a6 a7 a8 (n + 1) w24 = some X → ∀ N : St → Prop,
      (∀ (env : List (Nat × AV)) (w24' : Int) (v : List Ent), f23_l0 o fuel a4 a9 a0 a1 a2 a3 a5 a6 a7 a8 n w24' = some X → wkEnv env [(5, .int .i64 w24'), (3, .ptr 1 0), (2, .ptr 0 0)] → N ⟨env, [.var [.int .i64 a0, .sl 2 a1 .no, .sl 1 a2 .no, .sl 1 a3 .no, .sl 5 a4 .no], .var [.int .i64 a5, .sl 2 a6 .no, .sl 1 a7 .no, .sl 1 a8 .no, .sl 5 a9 .no]] ++ v, 63⟩) → awp J tab c (thenQ N Q) ⟨[(5, .int .i64 w24), (3, .ptr 1 0), (2, .ptr 0 0)], [.var [.int .i64 a0, .sl 2 a1 .no, .sl 1 a2 .no, .sl 1 a3 .no, .sl 5 a4 .no], .var [.int .i64 a5, .sl 2 a6 .no, .sl 1 a7 .no, .sl 1 a8 .no, .sl 5 a9 .no]], 63⟩) : J.code (.loop c) Q s := by
  subst hJo
  obtain ⟨X, hX, HX⟩ := bindR_go H
  refine loop_at (β := Nat × Int) hJ tab_ok (fun | (_, w24) => ⟨[(5, .int .i64 w24), (3, .ptr 1 0), (2, .ptr 0 0)], [.var [.int .i64 a0, .sl 2 a1 .no, .sl 1 a2 .no, .sl 1 a3 .no, .sl 5 a4 .no], .var [.int .i64 a5, .sl 2 a6 .no, .sl 1 a7 .no, .sl 1 a8 .no, .sl 5 a9 .no]], 63⟩) (fun | (n, w24) => f23_l0 J.o fuel a4 a9 a0 a1 a2 a3 a5 a6 a7 a8 n w24 = some X) (fun | (n, _) => n) (fuel, w24i) hX hle (by rintro ⟨_, _⟩; exact hn) ?_
  rintro ⟨n, w24⟩ hb N hN
  rcases n with _ | n
  · exact none_go (show (none : Option F23L0) = some X from hb)
  exact round X HX n w24 hb N fun env w24' v h1 h2 => hN _ (n, w24') h1 (Nat.lt_succ_self n) ⟨h2, by first | (cbv; done) | (cbv; repeat' (first | exact trivial | exact rfl | apply And.intro)), rfl, rfl⟩

noncomputable def f23 (o : Ops) (fuel : Nat) (a0 : Int) (a1 : List AV) (a2 : List AV) (a3 : List AV) (a4 : List AV) (a5 : Int) (a6 : List AV) (a7 : List AV) (a8 : List AV) (a9 : List AV) : Option F23R :=
  ifB (o.bnot (o.cmp .eql a0 a5))
  (some (.v0 false))
  (bindR (f84 o fuel a1 a6) fun r => match r with
   | .v0 r10 => ifB (o.bnot r10)
     (some (.v0 false))
     (bindR (f85 o fuel a2 a7) fun r => match r with
      | .v0 r11 => ifB (o.bnot r11)
        (some (.v0 false))
        (bindR (f85 o fuel a3 a8) fun r => match r with
         | .v0 r12 => ifB (o.pick (o.bnot r12) true (o.bnot (o.cmp .eql (o.len a4) (o.len a9))))
           (some (.v0 false))
           (bindR (f23_l0 o fuel a4 a9 a0 a1 a2 a3 a5 a6 a7 a8 fuel 0) fun r => match r with
            | .x0  => some (.v0 false)
            | .x1  => some (.v0 true)))))
set_option maxHeartbeats 4000000 in
set_option maxRecDepth 100000 in
theorem f23_call (o : Ops) (ho : o = stdOps) (fuel : Nat) (a0 : Int) (a1 : List AV) (a2 : List AV) (a3 : List AV) (a4 : List AV) (a5 : Int) (a6 : List AV) (a7 : List AV) (a8 : List AV) (a9 : List AV) {R : F23R} (H : f23 o fuel a0 a1 a2 a3 a4 a5 a6 a7 a8 a9 = some R) (K : AV → List Ent → Prop) (E : AV → List Ent → Prop) (h : K R.av R.hp) : CallA Try.prog 23 [.agg [.int .i64 a0, .sl 2 a1 .no, .sl 1 a2 .no, .sl 1 a3 .no, .sl 5 a4 .no], .agg [.int .i64 a5, .sl 2 a6 .no, .sl 1 a7 .no, .sl 1 a8 .no, .sl 5 a9 .no]] [] K E := by
  refine call_wk fun K' hK => ?_
  refine call_keep (n₀ := 0) tab_ok Try.func23 rfl rfl rfl rfl ?_
  intro J hJ
  obtain rfl : o = J.o := by rw [ho, hJ]; rfl
  unfold f23 at H
  cbv
  repeat' (first
    | ((with_reducible first | refine awp_go2 ?_ | refine aops_go2 ?_ | refine strip_go2 ?_ | refine draw_go2 ?_ | refine frames_go2 ?_); cbv)
    | (with_reducible refine hold_go hJ ?_; cbv)
    | with_reducible exact id
    | exact trivial
    | with_reducible exact rfl
    | with_reducible exact ⟨_, rfl⟩
    | exact none_go H
    | (cases H; replace H := HX0; clear HX0; (try dsimp only at H))
    | (refine KeepQ.mk [] (by decide) ?_; cbv; cases H; refine hK _ _ _ _ ?_ ?_ rfl h <;> cbv)
    | (refine hN0 _ _ _ H ?_; with_reducible refine wkEnv_go2 ?_; cbv)
    | (refine ifB_go H ?_ ?_ <;> clear H <;> intro hh H)
    | (refine ifB_og H ?_ ?_ <;> clear H <;> intro hh H)
    | (refine req_go H ?_; clear H; intro hh H)
    | (refine gg_t ho H ?_ ?_ <;> clear H <;> intro hh H)
    | (refine gg_f ho H ?_ ?_ <;> clear H <;> intro hh H)
    | (refine bit_go ho H ?_ ?_ <;> clear H <;> intro hh H; (all_goals cbv))
    | (refine nil_go H ?_; clear H; intro b H; cbv)
    | (refine tok_go ?_; cbv)
    | (refine sh31_get H ?_; clear H; intro _ _ _ _ _ he H; cbv)
    | (refine sh31_find H ?_ ?_ <;> clear H; (intro _ _ _ _ _ H; cbv); rotate_left; (intro H; cbv))
    | (refine getA_go (β := UInt8) H ?_; clear H; intro e H; cbv)
    | (obtain ⟨R, hR, H2⟩ := bindR_go H; refine call_in hJ [] (by decide) rfl rfl rfl (f61_call _ ho _ _ _ _ _ _ _ _ _ _ _ hR _ _ ?_); clear H hR; rcases R with ⟨_⟩; all_goals (replace H := H2; clear H2; (try dsimp only at H); cbv))
    | (obtain ⟨R, hR, H2⟩ := bindR_go H; refine call_in hJ [] (by decide) rfl rfl rfl (f85_call _ ho _ _ _ hR _ _ ?_); clear H hR; rcases R with ⟨_⟩; all_goals (replace H := H2; clear H2; (try dsimp only at H); cbv))
    | (obtain ⟨R, hR, H2⟩ := bindR_go H; refine call_in hJ [] (by decide) rfl rfl rfl (f84_call _ ho _ _ _ hR _ _ ?_); clear H hR; rcases R with ⟨_⟩; all_goals (replace H := H2; clear H2; (try dsimp only at H); cbv))
    | (refine f23_l0_go hJ (o := J.o) rfl H (by decide) ⟨?_, ?_, rfl, rfl⟩ ?_
       · cbv
         repeat' (first | exact trivial | exact rfl | apply And.intro)
       · cbv
         repeat' (first | exact trivial | exact rfl | apply And.intro)
       clear H
       intro X0 HX0 n _ H Nx0 hN0
       rw [f23_l0] at H
       cbv)
    | (refine lit_t ?_; cbv)
    | (refine lit_f ?_; cbv)
    | (refine known_t (by assumption) ?_)
    | (refine known_f (by assumption) ?_)
    | (refine known_x (by assumption) ?_)
    | (refine known_y (by assumption) ?_)
    | (refine known_get (by assumption) ?_; cbv)
    | (refine known_and (by assumption) ?_)
    | with_reducible refine And.intro ?_ ?_
    | (intro hh; exact hh)
    | (intro _; assumption)
    | (intro hx; first | exact tf_absurd hx (by assumption) | exact tf_absurd (by assumption) hx)
    | (intro _; clear H h; (try clear hN0); (try clear HX0); simp only [ho, stdOps] at *; simp_all)
    | (cbv; with_reducible refine hold_go hJ ?_; cbv))

end Go.Proofs.Ytjdbmfipciadfaa.A
