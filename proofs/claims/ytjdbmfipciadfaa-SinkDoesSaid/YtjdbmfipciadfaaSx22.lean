/- Functions of the program and of the document's answer, as plain ones. Written by lift.py. -/
import Derived.Test.YtjdbmfipciadfaaSx0
import Derived.Test.YtjdbmfipciadfaaSx3
import Derived.Test.YtjdbmfipciadfaaSx4
import Derived.Test.YtjdbmfipciadfaaSx1
import Derived.Test.YtjdbmfipciadfaaSx11
import Derived.Test.YtjdbmfipciadfaaSkMan

namespace Go.Proofs.Ytjdbmfipciadfaa.A
open Go Go.Pt

/-! (*pontoon/sink.Sink).Read -/
inductive F57R where
  | v0 (y0 : List AV) (y1 : Int)
def F57R.av : F57R → AV
  | .v0 y0 y1 => .tup [.sl 2 y0 .no, .int .i64 y1]
def F57R.hp (a0 : Nat) (a3 : Int) (a4 : Int) (a5 : List AV) (a6 : List AV) (a7 : List (AV × AV)) (a8 : List (AV × AV)) : F57R → List Ent
  | .v0 _ _ => [.var [.int .i64 a3, .int .i64 a4, .sl 2 a5 (.tip 1 a0), .sl 1 a6 .no, .mp 2, .mp 3], .tip a0, .mp a7, .mp a8]
noncomputable def f57 (o : Ops) (fuel : Nat) (a0 : Nat) (a1 : Int) (a2 : Int) (a3 : Int) (a4 : Int) (a5 : List AV) (a6 : List AV) (a7 : List (AV × AV)) (a8 : List (AV × AV)) : Option F57R :=
  bindR (f70 o fuel a0 a3 a4 a5 a6 a7 a8) fun r => match r with
  | .v0 r9 => ifB r9
    (some (.v0 [] 2))
    (ifB (o.cmp .lss a1 0)
     (some (.v0 [] 1))
     (bindR (f58 o fuel a0 a3 a4 a5 a6 a7 a8) fun r => match r with
      | .v0 r10 => ifB (o.pick (o.cmp .gtr a1 r10) true (o.cmp .lss a2 0))
        (some (.v0 [] 1))
        (req (o.le 0 a1) <|
         req (o.le a1 (o.len a5)) <|
         req (o.le 0 (o.mn a2 (o.len (o.drop a5 a1)))) <|
         req (o.le (o.mn a2 (o.len (o.drop a5 a1))) (o.len (o.drop a5 a1))) <|
         bindR (f79 o fuel (o.sub (o.drop a5 a1) 0 (o.mn a2 (o.len (o.drop a5 a1))))) fun r => match r with
         | .v0 r11 => some (.v0 r11 0))))
set_option maxHeartbeats 4000000 in
set_option maxRecDepth 100000 in
theorem f57_call (o : Ops) (ho : o = stdOps) (fuel : Nat) (a0 : Nat) (a1 : Int) (a2 : Int) (a3 : Int) (a4 : Int) (a5 : List AV) (a6 : List AV) (a7 : List (AV × AV)) (a8 : List (AV × AV)) {R : F57R} (H : f57 o fuel a0 a1 a2 a3 a4 a5 a6 a7 a8 = some R) (K : AV → List Ent → Prop) (E : AV → List Ent → Prop) (h : K R.av (F57R.hp a0 a3 a4 a5 a6 a7 a8 R)) : CallA Try.prog 57 [.ptr 0 0, .int .i64 a1, .int .i64 a2] [.var [.int .i64 a3, .int .i64 a4, .sl 2 a5 (.tip 1 a0), .sl 1 a6 .no, .mp 2, .mp 3], .tip a0, .mp a7, .mp a8] K E := by
  refine call_wk fun K' hK => ?_
  refine call_keep (n₀ := 4) tab_ok Try.func57 rfl rfl rfl rfl ?_
  intro J hJ
  obtain rfl : o = J.o := by rw [ho, hJ]; rfl
  unfold f57 at H
  cbv
  repeat' (first
    | ((with_reducible first | refine awp_go2 ?_ | refine aops_go2 ?_ | refine strip_go2 ?_ | refine draw_go2 ?_ | refine frames_go2 ?_); cbv)
    | (with_reducible refine hold_go hJ ?_; cbv)
    | with_reducible exact id
    | exact trivial
    | with_reducible exact rfl
    | with_reducible exact ⟨_, rfl⟩
    | exact none_go H
    | (refine KeepQ.mk [] (by decide) ?_; cbv; cases H; refine hK _ _ _ _ ?_ ?_ rfl h <;> cbv)
    | (refine ifB_go H ?_ ?_ <;> clear H <;> intro hh H)
    | (refine ifB_og H ?_ ?_ <;> clear H <;> intro hh H)
    | (refine req_go H ?_; clear H; intro hh H)
    | (refine gg_t ho H ?_ ?_ <;> clear H <;> intro hh H)
    | (refine gg_f ho H ?_ ?_ <;> clear H <;> intro hh H)
    | (refine bit_go ho H ?_ ?_ <;> clear H <;> intro hh H; (all_goals cbv))
    | (refine nil_go H ?_; clear H; intro b H; cbv)
    | (refine tok_go ?_; cbv)
    | (refine getA_go (β := UInt8) H ?_; clear H; intro e H; cbv)
    | (obtain ⟨R, hR, H2⟩ := bindR_go H; refine call_in hJ [] (by decide) rfl rfl rfl (f79_call _ ho _ _ hR _ _ ?_); clear H hR; rcases R with ⟨_⟩; all_goals (replace H := H2; clear H2; (try dsimp only at H); cbv))
    | (obtain ⟨R, hR, H2⟩ := bindR_go H; refine call_in hJ [0, 1, 2, 3] (by decide) rfl rfl rfl (f58_call _ ho _ _ _ _ _ _ _ _ hR _ _ ?_); clear H hR; rcases R with ⟨_⟩; all_goals (replace H := H2; clear H2; (try dsimp only at H); cbv))
    | (obtain ⟨R, hR, H2⟩ := bindR_go H; refine call_in hJ [0, 1, 2, 3] (by decide) rfl rfl rfl (f70_call _ ho _ _ _ _ _ _ _ _ hR _ _ ?_); clear H hR; rcases R with ⟨_⟩; all_goals (replace H := H2; clear H2; (try dsimp only at H); cbv))
    | (refine lit_t ?_; cbv)
    | (refine lit_f ?_; cbv)
    | (refine known_t (by assumption) ?_)
    | (refine known_f (by assumption) ?_)
    | (refine known_x (by assumption) ?_)
    | (refine known_y (by assumption) ?_)
    | (refine known_get (by assumption) ?_; cbv)
    | (refine known_and (by assumption) ?_)
    | with_reducible refine And.intro ?_ ?_
    | (intro hh; exact hh)
    | (intro _; assumption)
    | (intro hx; first | exact tf_absurd hx (by assumption) | exact tf_absurd (by assumption) hx)
    | (intro _; clear H h; simp only [ho, stdOps] at *; simp_all)
    | (cbv; with_reducible refine hold_go hJ ?_; cbv))

/-! (*pontoon/pontoonref15.Sink).Read -/
inductive F105R where
  | v0 (y0 : List AV) (y1 : Int)
def F105R.av : F105R → AV
  | .v0 y0 y1 => .tup [.sl 2 y0 .no, .int .i64 y1]
def F105R.hp (a2 : Int) (a3 : Int) (a4 : List AV) (a5 : List AV) (a6 : List AV) (a7 : List AV) : F105R → List Ent
  | .v0 _ _ => [.var [.int .i64 a2, .int .i64 a3, .sl 2 a4 .no, .sl 1 a5 .no, .sl 1 a6 .no, .sl 5 a7 .no]]
noncomputable def f105 (o : Ops) (fuel : Nat) (a0 : Int) (a1 : Int) (a2 : Int) (a3 : Int) (a4 : List AV) (a5 : List AV) (a6 : List AV) (a7 : List AV) : Option F105R :=
  ifB (o.cmp .lss a0 0)
  (some (.v0 [] 1))
  (bindR (f106 o fuel a2 a3 a4 a5 a6 a7) fun r => match r with
   | .v0 r8 => ifB (o.pick (o.cmp .gtr a0 r8) true (o.cmp .lss a1 0))
     (some (.v0 [] 1))
     (req (o.le 0 a0) <|
      req (o.le a0 (o.len a4)) <|
      req (o.le 0 (o.mn a1 (o.len (o.drop a4 a0)))) <|
      req (o.le (o.mn a1 (o.len (o.drop a4 a0))) (o.len (o.drop a4 a0))) <|
      some (.v0 (o.sub (o.drop a4 a0) 0 (o.mn a1 (o.len (o.drop a4 a0)))) 0)))
set_option maxHeartbeats 4000000 in
set_option maxRecDepth 100000 in
theorem f105_call (o : Ops) (ho : o = stdOps) (fuel : Nat) (a0 : Int) (a1 : Int) (a2 : Int) (a3 : Int) (a4 : List AV) (a5 : List AV) (a6 : List AV) (a7 : List AV) {R : F105R} (H : f105 o fuel a0 a1 a2 a3 a4 a5 a6 a7 = some R) (K : AV → List Ent → Prop) (E : AV → List Ent → Prop) (h : K R.av (F105R.hp a2 a3 a4 a5 a6 a7 R)) : CallA Try.prog 105 [.ptr 0 0, .int .i64 a0, .int .i64 a1] [.var [.int .i64 a2, .int .i64 a3, .sl 2 a4 .no, .sl 1 a5 .no, .sl 1 a6 .no, .sl 5 a7 .no]] K E := by
  refine call_wk fun K' hK => ?_
  refine call_keep (n₀ := 1) tab_ok Try.func105 rfl rfl rfl rfl ?_
  intro J hJ
  obtain rfl : o = J.o := by rw [ho, hJ]; rfl
  unfold f105 at H
  cbv
  repeat' (first
    | ((with_reducible first | refine awp_go2 ?_ | refine aops_go2 ?_ | refine strip_go2 ?_ | refine draw_go2 ?_ | refine frames_go2 ?_); cbv)
    | (with_reducible refine hold_go hJ ?_; cbv)
    | with_reducible exact id
    | exact trivial
    | with_reducible exact rfl
    | with_reducible exact ⟨_, rfl⟩
    | exact none_go H
    | (refine KeepQ.mk [] (by decide) ?_; cbv; cases H; refine hK _ _ _ _ ?_ ?_ rfl h <;> cbv)
    | (refine ifB_go H ?_ ?_ <;> clear H <;> intro hh H)
    | (refine ifB_og H ?_ ?_ <;> clear H <;> intro hh H)
    | (refine req_go H ?_; clear H; intro hh H)
    | (refine gg_t ho H ?_ ?_ <;> clear H <;> intro hh H)
    | (refine gg_f ho H ?_ ?_ <;> clear H <;> intro hh H)
    | (refine bit_go ho H ?_ ?_ <;> clear H <;> intro hh H; (all_goals cbv))
    | (refine nil_go H ?_; clear H; intro b H; cbv)
    | (refine tok_go ?_; cbv)
    | (refine getA_go (β := UInt8) H ?_; clear H; intro e H; cbv)
    | (obtain ⟨R, hR, H2⟩ := bindR_go H; refine call_in hJ [0] (by decide) rfl rfl rfl (f106_call _ ho _ _ _ _ _ _ _ hR _ _ ?_); clear H hR; rcases R with ⟨_⟩; all_goals (replace H := H2; clear H2; (try dsimp only at H); cbv))
    | (refine lit_t ?_; cbv)
    | (refine lit_f ?_; cbv)
    | (refine known_t (by assumption) ?_)
    | (refine known_f (by assumption) ?_)
    | (refine known_x (by assumption) ?_)
    | (refine known_y (by assumption) ?_)
    | (refine known_get (by assumption) ?_; cbv)
    | (refine known_and (by assumption) ?_)
    | with_reducible refine And.intro ?_ ?_
    | (intro hh; exact hh)
    | (intro _; assumption)
    | (intro hx; first | exact tf_absurd hx (by assumption) | exact tf_absurd (by assumption) hx)
    | (intro _; clear H h; simp only [ho, stdOps] at *; simp_all)
    | (cbv; with_reducible refine hold_go hJ ?_; cbv))

/-! (*pontoon/sink.Sink).Open -/
inductive F59R where
  | v0 (y0 : List AV) (y1 : List (AV × AV))
def F59R.av : F59R → AV
  | .v0 y0 _ => .sl 2 y0 .no
def F59R.hp (a0 : Nat) (a1 : Int) (a2 : Int) (a3 : List AV) (a4 : List AV) (a5 : List (AV × AV)) : F59R → List Ent
  | .v0 _ y1 => [.var [.int .i64 a1, .int .i64 a2, .sl 2 a3 (.tip 1 a0), .sl 1 a4 .no, .mp 2, .mp 3], .tip a0, .mp a5, .mp y1]
noncomputable def f59 (o : Ops) (fuel : Nat) (a0 : Nat) (a1 : Int) (a2 : Int) (a3 : List AV) (a4 : List AV) (a5 : List (AV × AV)) (a6 : List (AV × AV)) : Option F59R :=
  bindR (f70 o fuel a0 a1 a2 a3 a4 a5 a6) fun r => match r with
  | .v0 r7 => ifB r7
    (some (.v0 [] a6))
    (bindR (f81 o fuel a6) fun r => match r with
     | .v0 r8 r9 => some (.v0 r8 r9))
set_option maxHeartbeats 4000000 in
set_option maxRecDepth 100000 in
theorem f59_call (o : Ops) (ho : o = stdOps) (fuel : Nat) (a0 : Nat) (a1 : Int) (a2 : Int) (a3 : List AV) (a4 : List AV) (a5 : List (AV × AV)) (a6 : List (AV × AV)) {R : F59R} (H : f59 o fuel a0 a1 a2 a3 a4 a5 a6 = some R) (K : AV → List Ent → Prop) (E : AV → List Ent → Prop) (h : K R.av (F59R.hp a0 a1 a2 a3 a4 a5 R)) : CallA Try.prog 59 [.ptr 0 0] [.var [.int .i64 a1, .int .i64 a2, .sl 2 a3 (.tip 1 a0), .sl 1 a4 .no, .mp 2, .mp 3], .tip a0, .mp a5, .mp a6] K E := by
  refine call_wk fun K' hK => ?_
  refine call_keep (n₀ := 4) tab_ok Try.func59 rfl rfl rfl rfl ?_
  intro J hJ
  obtain rfl : o = J.o := by rw [ho, hJ]; rfl
  unfold f59 at H
  cbv
  repeat' (first
    | ((with_reducible first | refine awp_go2 ?_ | refine aops_go2 ?_ | refine strip_go2 ?_ | refine draw_go2 ?_ | refine frames_go2 ?_); cbv)
    | (with_reducible refine hold_go hJ ?_; cbv)
    | with_reducible exact id
    | exact trivial
    | with_reducible exact rfl
    | with_reducible exact ⟨_, rfl⟩
    | exact none_go H
    | (refine KeepQ.mk [] (by decide) ?_; cbv; cases H; refine hK _ _ _ _ ?_ ?_ rfl h <;> cbv)
    | (refine ifB_go H ?_ ?_ <;> clear H <;> intro hh H)
    | (refine ifB_og H ?_ ?_ <;> clear H <;> intro hh H)
    | (refine req_go H ?_; clear H; intro hh H)
    | (refine gg_t ho H ?_ ?_ <;> clear H <;> intro hh H)
    | (refine gg_f ho H ?_ ?_ <;> clear H <;> intro hh H)
    | (refine bit_go ho H ?_ ?_ <;> clear H <;> intro hh H; (all_goals cbv))
    | (refine nil_go H ?_; clear H; intro b H; cbv)
    | (refine tok_go ?_; cbv)
    | (refine getA_go (β := UInt8) H ?_; clear H; intro e H; cbv)
    | (obtain ⟨R, hR, H2⟩ := bindR_go H; refine call_in hJ [3] (by decide) rfl rfl rfl (f81_call _ ho _ _ hR _ _ ?_); clear H hR; rcases R with ⟨_, _⟩; all_goals (replace H := H2; clear H2; (try dsimp only at H); cbv))
    | (obtain ⟨R, hR, H2⟩ := bindR_go H; refine call_in hJ [0, 1, 2, 3] (by decide) rfl rfl rfl (f70_call _ ho _ _ _ _ _ _ _ _ hR _ _ ?_); clear H hR; rcases R with ⟨_⟩; all_goals (replace H := H2; clear H2; (try dsimp only at H); cbv))
    | (refine lit_t ?_; cbv)
    | (refine lit_f ?_; cbv)
    | (refine known_t (by assumption) ?_)
    | (refine known_f (by assumption) ?_)
    | (refine known_x (by assumption) ?_)
    | (refine known_y (by assumption) ?_)
    | (refine known_get (by assumption) ?_; cbv)
    | (refine known_and (by assumption) ?_)
    | with_reducible refine And.intro ?_ ?_
    | (intro hh; exact hh)
    | (intro _; assumption)
    | (intro hx; first | exact tf_absurd hx (by assumption) | exact tf_absurd (by assumption) hx)
    | (intro _; clear H h; simp only [ho, stdOps] at *; simp_all)
    | (cbv; with_reducible refine hold_go hJ ?_; cbv))

/-! (*pontoon/pontoonref15.Sink).Open -/
inductive F108R where
  | v0 (y0 : List AV)
def F108R.av : F108R → AV
  | .v0 y0 => .sl 2 y0 .no
def F108R.hp (a0 : Int) (a1 : Int) (a2 : List AV) (a3 : List AV) (a4 : List AV) (a5 : List AV) : F108R → List Ent
  | .v0 _ => [.var [.int .i64 a0, .int .i64 a1, .sl 2 a2 .no, .sl 1 a3 .no, .sl 1 a4 .no, .sl 5 a5 .no]]
inductive F108L0 where
  | x0 (y0 : List AV) (y1 : Nat)
noncomputable def f108_l0 (o : Ops) (fuel : Nat) (a5 : List AV) (a0 : Int) (a1 : Int) (a2 : List AV) (a3 : List AV) (a4 : List AV) : Nat → Nat → List AV → Int → Option F108L0
  | 0, _, _, _ => none
  | n + 1, w26, w27, w28 =>
    ifB (o.cmp .lss w28 (o.len a5))
    (req (o.inb w28 (o.len a5)) <|
     getA (o.get a5 w28) fun e => sh31 e fun v29 _ _ _ _ =>
     req (o.inb w28 (o.len a5)) <|
     getA (o.get a5 w28) fun e => sh31 e fun _ v35 _ _ _ =>
     req (o.room w27 [.agg [.int .i64 v29, .int .i64 v35]] 16) <|
     f108_l0 o fuel a5 a0 a1 a2 a3 a4 n (o.padd w26 [.agg [.int .i64 v29, .int .i64 v35]]) (o.apnd w27 [.agg [.int .i64 v29, .int .i64 v35]]) (o.ar .add .i64 w28 1))
    (some (.x0 w27 w26))
theorem f108_l0_go {J : Jd} {n₀ : Nat} (hJ : J = std Try.prog n₀) {o : Ops} (hJo : J.o = o) {fuel : Nat} {a5 : List AV} {a0 : Int} {a1 : Int} {a2 : List AV} {a3 : List AV} {a4 : List AV} {w26i : Nat} {w27i : List AV} {w28i : Int} {α : Type} {k : F108L0 → Option α} {r : α} {c : Code} {Q : Ex → St → Prop} {s : St}
    (H : bindR (f108_l0 o fuel a5 a0 a1 a2 a3 a4 fuel w26i w27i w28i) k = some r) (hn : n₀ ≤ 2) (hle : Turn n₀ s ⟨[(4, .int .i64 w28i), (3, .sl 2 w27i (.tip 1 w26i)), (0, .ptr 0 0)], [.var [.int .i64 a0, .int .i64 a1, .sl 2 a2 .no, .sl 1 a3 .no, .sl 1 a4 .no, .sl 5 a5 .no], .tip w26i], 38⟩)
    (round : ∀ X, k X = some r → ∀ (n : Nat) (w26 : Nat) (w27 : List AV) (w28 : Int), f108_l0 o fuel a5 a0 a1 a2 a3 a4 (n + 1) w26 w27 w28 = some X → ∀ N : St → Prop,
      (∀ (env : List (Nat × AV)) (w26' : Nat) (w27' : List AV) (w28' : Int) (v : List Ent), f108_l0 o fuel a5 a0 a1 a2 a3 a4 n w26' w27' w28' = some X → wkEnv env [(4, .int .i64 w28'), (3, .sl 2 w27' (.tip 1 w26')), (0, .ptr 0 0)] → N ⟨env, [.var [.int .i64 a0, .int .i64 a1, .sl 2 a2 .no, .sl 1 a3 .no, .sl 1 a4 .no, .sl 5 a5 .no], .tip w26'] ++ v, 38⟩) → awp J tab c (thenQ N Q) ⟨[(4, .int .i64 w28), (3, .sl 2 w27 (.tip 1 w26)), (0, .ptr 0 0)], [.var [.int .i64 a0, .int .i64 a1, .sl 2 a2 .no, .sl 1 a3 .no, .sl 1 a4 .no, .sl 5 a5 .no], .tip w26], 38⟩) : J.code (.loop c) Q s := by
  subst hJo
  obtain ⟨X, hX, HX⟩ := bindR_go H
  refine loop_turn_at (β := Nat × Nat × List AV × Int) hJ tab_ok (fun | (_, w26, w27, w28) => ⟨[(4, .int .i64 w28), (3, .sl 2 w27 (.tip 1 w26)), (0, .ptr 0 0)], [.var [.int .i64 a0, .int .i64 a1, .sl 2 a2 .no, .sl 1 a3 .no, .sl 1 a4 .no, .sl 5 a5 .no], .tip w26], 38⟩) (fun | (n, w26, w27, w28) => f108_l0 J.o fuel a5 a0 a1 a2 a3 a4 n w26 w27 w28 = some X) (fun | (n, _, _, _) => n) (fuel, w26i, w27i, w28i) hX hle (by rintro ⟨_, _, _, _⟩; exact hn) ?_
  rintro ⟨n, w26, w27, w28⟩ hb N hN
  rcases n with _ | n
  · exact none_go (show (none : Option F108L0) = some X from hb)
  exact round X HX n w26 w27 w28 hb N fun env w26' w27' w28' v h1 h2 => hN _ (n, w26', w27', w28') h1 (Nat.lt_succ_self n) (Turn.le ⟨h2, by cbv; repeat' (first | exact trivial | exact rfl | apply And.intro), rfl, rfl⟩ (by simp; omega))

noncomputable def f108 (o : Ops) (fuel : Nat) (a0 : Int) (a1 : Int) (a2 : List AV) (a3 : List AV) (a4 : List AV) (a5 : List AV) : Option F108R :=
  bindR (f108_l0 o fuel a5 a0 a1 a2 a3 a4 fuel 0 [] 0) fun r => match r with
  | .x0 y39 _ => some (.v0 y39)
set_option maxHeartbeats 4000000 in
set_option maxRecDepth 100000 in
theorem f108_call (o : Ops) (ho : o = stdOps) (fuel : Nat) (a0 : Int) (a1 : Int) (a2 : List AV) (a3 : List AV) (a4 : List AV) (a5 : List AV) {R : F108R} (H : f108 o fuel a0 a1 a2 a3 a4 a5 = some R) (K : AV → List Ent → Prop) (E : AV → List Ent → Prop) (h : K R.av (F108R.hp a0 a1 a2 a3 a4 a5 R)) : CallA Try.prog 108 [.ptr 0 0] [.var [.int .i64 a0, .int .i64 a1, .sl 2 a2 .no, .sl 1 a3 .no, .sl 1 a4 .no, .sl 5 a5 .no]] K E := by
  refine call_wk fun K' hK => ?_
  refine call_keep (n₀ := 1) tab_ok Try.func108 rfl rfl rfl rfl ?_
  intro J hJ
  obtain rfl : o = J.o := by rw [ho, hJ]; rfl
  unfold f108 at H
  cbv
  repeat' (first
    | ((with_reducible first | refine awp_go2 ?_ | refine aops_go2 ?_ | refine strip_go2 ?_ | refine draw_go2 ?_ | refine frames_go2 ?_); cbv)
    | (with_reducible refine hold_go hJ ?_; cbv)
    | with_reducible exact id
    | exact trivial
    | with_reducible exact rfl
    | with_reducible exact ⟨_, rfl⟩
    | exact none_go H
    | (cases H; replace H := HX0; clear HX0; (try dsimp only at H))
    | (refine KeepQ.mk [] (by decide) ?_; cbv; cases H; refine hK _ _ _ _ ?_ ?_ rfl h <;> cbv)
    | (refine hN0 _ _ _ _ _ H ?_; with_reducible refine wkEnv_go2 ?_; cbv)
    | (refine ifB_go H ?_ ?_ <;> clear H <;> intro hh H)
    | (refine ifB_og H ?_ ?_ <;> clear H <;> intro hh H)
    | (refine req_go H ?_; clear H; intro hh H)
    | (refine gg_t ho H ?_ ?_ <;> clear H <;> intro hh H)
    | (refine gg_f ho H ?_ ?_ <;> clear H <;> intro hh H)
    | (refine bit_go ho H ?_ ?_ <;> clear H <;> intro hh H; (all_goals cbv))
    | (refine nil_go H ?_; clear H; intro b H; cbv)
    | (refine tok_go ?_; cbv)
    | (refine sh31_get H ?_; clear H; intro _ _ _ _ _ he H; cbv)
    | (refine sh31_find H ?_ ?_ <;> clear H; (intro _ _ _ _ _ H; cbv); rotate_left; (intro H; cbv))
    | (refine getA_go (β := UInt8) H ?_; clear H; intro e H; cbv)
    | (refine f108_l0_go hJ (o := J.o) rfl H (by decide) (Turn.trans (turn_nile 3 2 rfl (leN_t rfl)) (Turn.le ⟨?_, ?_, rfl, rfl⟩ (leN_t rfl))) ?_
       · cbv
         repeat' (first | exact trivial | exact rfl | apply And.intro)
       · cbv
         repeat' (first | exact trivial | exact rfl | apply And.intro)
       clear H
       intro X0 HX0 n _ _ _ H Nx0 hN0
       rw [f108_l0] at H
       cbv)
    | (refine lit_t ?_; cbv)
    | (refine lit_f ?_; cbv)
    | (refine known_t (by assumption) ?_)
    | (refine known_f (by assumption) ?_)
    | (refine known_x (by assumption) ?_)
    | (refine known_y (by assumption) ?_)
    | (refine known_get (by assumption) ?_; cbv)
    | (refine known_and (by assumption) ?_)
    | with_reducible refine And.intro ?_ ?_
    | (intro hh; exact hh)
    | (intro _; assumption)
    | (intro hx; first | exact tf_absurd hx (by assumption) | exact tf_absurd (by assumption) hx)
    | (intro _; clear H h; (try clear hN0); (try clear HX0); simp only [ho, stdOps] at *; simp_all)
    | (cbv; with_reducible refine hold_go hJ ?_; cbv))

/-! slices.Equal[[]pontoon/api.TxnKey,pontoon/api.TxnKey] -/
inductive F107R where
  | v0 (y0 : Bool)
def F107R.av : F107R → AV
  | .v0 y0 => .bool y0
def F107R.hp : F107R → List Ent
  | .v0 _ => []
inductive F107L0 where
  | x0 
  | x1 
noncomputable def f107_l0 (o : Ops) (fuel : Nat) (a0 : List AV) (a1 : List AV) : Nat → Int → Option F107L0
  | 0, _ => none
  | n + 1, w6 =>
    ifB (o.cmp .lss w6 (o.len a0))
    (req (o.inb w6 (o.len a0)) <|
     getA (o.get a0 w6) fun e => sh37 e fun v7 v8 =>
     req (o.inb w6 (o.len a1)) <|
     getA (o.get a1 w6) fun e => sh37 e fun v9 v10 =>
     ifB (o.bnot (o.band (o.cmp .eql v7 v9) (o.cmp .eql v8 v10)))
     (some (.x0 ))
     (f107_l0 o fuel a0 a1 n (o.ar .add .i64 w6 1)))
    (some (.x1 ))
theorem f107_l0_go {J : Jd} {n₀ : Nat} (hJ : J = std Try.prog n₀) {o : Ops} (hJo : J.o = o) {fuel : Nat} {a0 : List AV} {a1 : List AV} {w6i : Int} {α : Type} {k : F107L0 → Option α} {r : α} {c : Code} {Q : Ex → St → Prop} {s : St}
    (H : bindR (f107_l0 o fuel a0 a1 fuel w6i) k = some r) (hn : n₀ ≤ 0) (hle : Le s ⟨[(13, .int .i64 w6i), (12, .int .i64 (o.len a0)), (1, .sl 2 a1 .no), (0, .sl 2 a0 .no)], [], 26⟩)
    (round : ∀ X, k X = some r → ∀ (n : Nat) (w6 : Int), f107_l0 o fuel a0 a1 (n + 1) w6 = some X → ∀ N : St → Prop,
      (∀ (env : List (Nat × AV)) (w6' : Int) (v : List Ent), f107_l0 o fuel a0 a1 n w6' = some X → wkEnv env [(13, .int .i64 w6'), (12, .int .i64 (o.len a0)), (1, .sl 2 a1 .no), (0, .sl 2 a0 .no)] → N ⟨env, [] ++ v, 26⟩) → awp J tab c (thenQ N Q) ⟨[(13, .int .i64 w6), (12, .int .i64 (o.len a0)), (1, .sl 2 a1 .no), (0, .sl 2 a0 .no)], [], 26⟩) : J.code (.loop c) Q s := by
  subst hJo
  obtain ⟨X, hX, HX⟩ := bindR_go H
  refine loop_at (β := Nat × Int) hJ tab_ok (fun | (_, w6) => ⟨[(13, .int .i64 w6), (12, .int .i64 (J.o.len a0)), (1, .sl 2 a1 .no), (0, .sl 2 a0 .no)], [], 26⟩) (fun | (n, w6) => f107_l0 J.o fuel a0 a1 n w6 = some X) (fun | (n, _) => n) (fuel, w6i) hX hle (by rintro ⟨_, _⟩; exact hn) ?_
  rintro ⟨n, w6⟩ hb N hN
  rcases n with _ | n
  · exact none_go (show (none : Option F107L0) = some X from hb)
  exact round X HX n w6 hb N fun env w6' v h1 h2 => hN _ (n, w6') h1 (Nat.lt_succ_self n) ⟨h2, by first | (cbv; done) | (cbv; repeat' (first | exact trivial | exact rfl | apply And.intro)), rfl, rfl⟩

noncomputable def f107 (o : Ops) (fuel : Nat) (a0 : List AV) (a1 : List AV) : Option F107R :=
  ifB (o.bnot (o.cmp .eql (o.len a0) (o.len a1)))
  (some (.v0 false))
  (bindR (f107_l0 o fuel a0 a1 fuel 0) fun r => match r with
   | .x0  => some (.v0 false)
   | .x1  => some (.v0 true))
set_option maxHeartbeats 4000000 in
set_option maxRecDepth 100000 in
theorem f107_call (o : Ops) (ho : o = stdOps) (fuel : Nat) (a0 : List AV) (a1 : List AV) {R : F107R} (H : f107 o fuel a0 a1 = some R) (K : AV → List Ent → Prop) (E : AV → List Ent → Prop) (h : K R.av R.hp) : CallA Try.prog 107 [.sl 2 a0 .no, .sl 2 a1 .no] [] K E := by
  refine call_wk fun K' hK => ?_
  refine call_keep (n₀ := 0) tab_ok Try.func107 rfl rfl rfl rfl ?_
  intro J hJ
  obtain rfl : o = J.o := by rw [ho, hJ]; rfl
  unfold f107 at H
  cbv
  repeat' (first
    | ((with_reducible first | refine awp_go2 ?_ | refine aops_go2 ?_ | refine strip_go2 ?_ | refine draw_go2 ?_ | refine frames_go2 ?_); cbv)
    | (with_reducible refine hold_go hJ ?_; cbv)
    | with_reducible exact id
    | exact trivial
    | with_reducible exact rfl
    | with_reducible exact ⟨_, rfl⟩
    | exact none_go H
    | (cases H; replace H := HX0; clear HX0; (try dsimp only at H))
    | (refine KeepQ.mk [] (by decide) ?_; cbv; cases H; refine hK _ _ _ _ ?_ ?_ rfl h <;> cbv)
    | (refine hN0 _ _ _ H ?_; with_reducible refine wkEnv_go2 ?_; cbv)
    | (refine ifB_go H ?_ ?_ <;> clear H <;> intro hh H)
    | (refine ifB_og H ?_ ?_ <;> clear H <;> intro hh H)
    | (refine req_go H ?_; clear H; intro hh H)
    | (refine gg_t ho H ?_ ?_ <;> clear H <;> intro hh H)
    | (refine gg_f ho H ?_ ?_ <;> clear H <;> intro hh H)
    | (refine bit_go ho H ?_ ?_ <;> clear H <;> intro hh H; (all_goals cbv))
    | (refine nil_go H ?_; clear H; intro b H; cbv)
    | (refine tok_go ?_; cbv)
    | (refine sh37_get H ?_; clear H; intro _ _ he H; cbv)
    | (refine sh37_find H ?_ ?_ <;> clear H; (intro _ _ H; cbv); rotate_left; (intro H; cbv))
    | (refine getA_go (β := UInt8) H ?_; clear H; intro e H; cbv)
    | (refine f107_l0_go hJ (o := J.o) rfl H (by decide) ⟨?_, ?_, rfl, rfl⟩ ?_
       · cbv
         repeat' (first | exact trivial | exact rfl | apply And.intro)
       · cbv
         repeat' (first | exact trivial | exact rfl | apply And.intro)
       clear H
       intro X0 HX0 n _ H Nx0 hN0
       rw [f107_l0] at H
       cbv)
    | (refine lit_t ?_; cbv)
    | (refine lit_f ?_; cbv)
    | (refine known_t (by assumption) ?_)
    | (refine known_f (by assumption) ?_)
    | (refine known_x (by assumption) ?_)
    | (refine known_y (by assumption) ?_)
    | (refine known_get (by assumption) ?_; cbv)
    | (refine known_and (by assumption) ?_)
    | with_reducible refine And.intro ?_ ?_
    | (intro hh; exact hh)
    | (intro _; assumption)
    | (intro hx; first | exact tf_absurd hx (by assumption) | exact tf_absurd (by assumption) hx)
    | (intro _; clear H h; (try clear hN0); (try clear HX0); simp only [ho, stdOps] at *; simp_all)
    | (cbv; with_reducible refine hold_go hJ ?_; cbv))

end Go.Proofs.Ytjdbmfipciadfaa.A
