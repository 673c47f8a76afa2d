/- Functions of the program and of the document's answer, as plain ones. Written by lift.py. -/
import Derived.Test.YtjdbmfipciadfaaSx0
import Derived.Test.YtjdbmfipciadfaaSx12
import Derived.Test.YtjdbmfipciadfaaSx3
import Derived.Test.YtjdbmfipciadfaaSx19
import Derived.Test.YtjdbmfipciadfaaSx23
import Derived.Test.YtjdbmfipciadfaaSx14
import Derived.Test.YtjdbmfipciadfaaSx17
import Derived.Test.YtjdbmfipciadfaaSx4

namespace Go.Proofs.Ytjdbmfipciadfaa.A
open Go Go.Pt

/-! pontoon/pontoonlaw15.SinkFrom -/
inductive F8R where
  | v0 (y0 : Bool)
def F8R.av : F8R → AV
  | .v0 y0 => .bool y0
def F8R.hp : F8R → List Ent
  | .v0 _ => []
noncomputable def f8 (o : Ops) (fuel : Nat) (a0 : Int) (a1 : Int) (a2 : List AV) (a3 : List AV) (a4 : List AV) (a5 : List AV) (a6 : Int) (a7 : Int) (a8 : Int) (a9 : Int) (a10 : List AV) (a11 : List AV) (a12 : List AV) : Option F8R :=
  bindR (f13 o fuel ) fun r => match r with
  | .v0 r13 => ifB (o.bnot r13)
    (some (.v0 false))
    (bindR (f44 o fuel a0 a1 a2 a3 a4 a5) fun r => match r with
     | .v0  => bindR (f45 o fuel a0 a1 a2 a3 a4 a5) fun r => match r with
       | .v0  => bindR (f46 o fuel a12 a3) fun r => match r with
         | .v0 r14 => bindR (f29 o fuel a12 a3) fun r => match r with
           | .v0 r15 => ifB (o.pick (o.pick (o.bnot (o.cmp .eql 1 1)) true (o.bnot (o.same (o.bnot true) (o.cmp .eql 1 0)))) true (o.bnot (o.same r14 r15)))
             (some (.v0 false))
             (some (.v0 true))
       | .v1 _ _ _ _ => some (.v0 false)
     | .v1 r20 r21 r22 r23 r24 => bindR (f45 o fuel a0 a1 a2 a3 a4 a5) fun r => match r with
       | .v0  => some (.v0 false)
       | .v1 r25 r26 r27 r28 => bindR (f46 o fuel a12 a3) fun r => match r with
         | .v0 r29 => bindR (f29 o fuel a12 a3) fun r => match r with
           | .v0 r30 => ifB (o.pick (o.pick (o.bnot (o.cmp .eql 0 0)) true (o.bnot (o.same (o.bnot false) (o.cmp .eql 0 0)))) true (o.bnot (o.same r29 r30)))
             (some (.v0 false))
             (bindR (f27 o fuel r21 a6 a7 a8 a9 a10 a11 a0 a1 r20 r22 a0 a1 r25 r26 r27 r28 r23 r24) fun r => match r with
              | .v0 r31 r32 r33 r34 r35 r36 r37 r38 r39 r40 r41 r42 => ifB r31
                (bindR (f47 o fuel r34 a6 a7 a8 a9 a10 a11 a0 r32 r33 r35 a0 r36 r37 r38 r39 r40 r41 r42) fun r => match r with
                 | .v0 r43 _ _ => some (.v0 r43))
                (some (.v0 false))))
set_option maxHeartbeats 4000000 in
set_option maxRecDepth 100000 in
theorem f8_call (o : Ops) (ho : o = stdOps) (fuel : Nat) (a0 : Int) (a1 : Int) (a2 : List AV) (a3 : List AV) (a4 : List AV) (a5 : List AV) (a6 : Int) (a7 : Int) (a8 : Int) (a9 : Int) (a10 : List AV) (a11 : List AV) (a12 : List AV) {R : F8R} (H : f8 o fuel a0 a1 a2 a3 a4 a5 a6 a7 a8 a9 a10 a11 a12 = some R) (K : AV → List Ent → Prop) (E : AV → List Ent → Prop) (h : K R.av R.hp) : CallA Try.prog 8 [.agg [.int .i64 a0, .int .i64 a1, .sl 2 a2 .no, .sl 1 a3 .no, .sl 1 a4 .no, .sl 5 a5 .no, .int .i64 a6, .int .i64 a7, .int .i64 a8, .int .i64 a9, .sl 2 a10 .no, .sl 1 a11 .no, .sl 1 a12 .no]] [] K E := by
  refine call_wk fun K' hK => ?_
  refine call_keep (n₀ := 0) tab_ok Try.func8 rfl rfl rfl rfl ?_
  intro J hJ
  obtain rfl : o = J.o := by rw [ho, hJ]; rfl
  unfold f8 at H
  cbv
  repeat' (first
    | ((with_reducible first | refine awp_go2 ?_ | refine aops_go2 ?_ | refine strip_go2 ?_ | refine draw_go2 ?_ | refine frames_go2 ?_); cbv)
    | (with_reducible refine hold_go hJ ?_; cbv)
    | with_reducible exact id
    | exact trivial
    | with_reducible exact rfl
    | with_reducible exact ⟨_, rfl⟩
    | exact none_go H
    | (refine KeepQ.mk [] (by decide) ?_; cbv; cases H; refine hK _ _ _ _ ?_ ?_ rfl h <;> cbv)
    | (first | refine known_t (kn_bnot_t ho (kn_pick_f ho (kn_bnot_f ho (kn_cmp ho (by decide))) (kn_bnot_f ho (kn_same_t ho (kn_bnot_f ho rfl) (kn_cmp ho (by decide)))))) ?_ | refine known_y (kn_bnot_t ho (kn_pick_f ho (kn_bnot_f ho (kn_cmp ho (by decide))) (kn_bnot_f ho (kn_same_t ho (kn_bnot_f ho rfl) (kn_cmp ho (by decide)))))) ?_)
    | (first | refine known_t (kn_bnot_t ho (ku_same_t ho (ku_bnot_f ho (ku_or_r ho (ku_or_l ho (by assumption)))) (kn_bnot_f ho rfl))) ?_ | refine known_y (kn_bnot_t ho (ku_same_t ho (ku_bnot_f ho (ku_or_r ho (ku_or_l ho (by assumption)))) (kn_bnot_f ho rfl))) ?_)
    | (first | refine known_f (kn_bnot_f ho (kn_pick_t ho (kn_bnot_t ho (kn_cmp ho (by decide))) rfl)) ?_ | refine known_x (kn_bnot_f ho (kn_pick_t ho (kn_bnot_t ho (kn_cmp ho (by decide))) rfl)) ?_)
    | (first | refine known_t (kn_pick_t ho (kn_pick_t ho (kn_bnot_t ho (kn_cmp ho (by decide))) rfl) rfl) ?_ | refine known_y (kn_pick_t ho (kn_pick_t ho (kn_bnot_t ho (kn_cmp ho (by decide))) rfl) rfl) ?_)
    | (first | refine known_t (kn_bnot_t ho (kn_pick_f ho (kn_bnot_f ho (kn_cmp ho (by decide))) (kn_bnot_f ho (kn_same_t ho (kn_bnot_t ho rfl) (kn_cmp ho (by decide)))))) ?_ | refine known_y (kn_bnot_t ho (kn_pick_f ho (kn_bnot_f ho (kn_cmp ho (by decide))) (kn_bnot_f ho (kn_same_t ho (kn_bnot_t ho rfl) (kn_cmp ho (by decide)))))) ?_)
    | (first | refine known_f (ku_or_l ho (ku_or_l ho (by assumption))) ?_ | refine known_x (ku_or_l ho (ku_or_l ho (by assumption))) ?_)
    | (refine ifB_go H ?_ ?_ <;> clear H <;> intro hh H)
    | (refine ifB_og H ?_ ?_ <;> clear H <;> intro hh H)
    | (refine req_go H ?_; clear H; intro hh H)
    | (refine gg_t ho H ?_ ?_ <;> clear H <;> intro hh H)
    | (refine gg_f ho H ?_ ?_ <;> clear H <;> intro hh H)
    | (refine bit_go ho H ?_ ?_ <;> clear H <;> intro hh H; (all_goals cbv))
    | (refine nil_go H ?_; clear H; intro b H; cbv)
    | (refine tok_go ?_; cbv)
    | (refine getA_go (β := UInt8) H ?_; clear H; intro e H; cbv)
    | (obtain ⟨R, hR, H2⟩ := bindR_go H; refine call_in hJ [] (by decide) rfl rfl rfl (f29_call _ ho _ _ _ hR _ _ ?_); clear H hR; rcases R with ⟨_⟩; all_goals (replace H := H2; clear H2; (try dsimp only at H); cbv))
    | (obtain ⟨R, hR, H2⟩ := bindR_go H; refine call_in hJ [] (by decide) rfl rfl rfl (f46_call _ ho _ _ _ hR _ _ ?_); clear H hR; rcases R with ⟨_⟩; all_goals (replace H := H2; clear H2; (try dsimp only at H); cbv))
    | (obtain ⟨R, hR, H2⟩ := bindR_go H; refine call_in hJ [] (by decide) rfl rfl rfl (f45_call _ ho _ _ _ _ _ _ _ hR _ _ ?_); clear H hR; rcases R with ⟨⟩ | ⟨_, _, _, _⟩; all_goals (replace H := H2; clear H2; (try dsimp only at H); cbv))
    | (obtain ⟨R, hR, H2⟩ := bindR_go H; refine call_in hJ [3, 7, 4, 5, 6] (by decide) rfl rfl rfl (f47_call _ ho _ _ _ _ _ _ _ _ _ _ _ _ _ _ _ _ _ _ _ _ hR _ _ ?_); clear H hR; rcases R with ⟨_, _, _⟩; all_goals (replace H := H2; clear H2; (try dsimp only at H); cbv))
    | (obtain ⟨R, hR, H2⟩ := bindR_go H; refine call_in hJ [3, 7, 4, 5, 6] (by decide) rfl rfl rfl (f27_call _ ho _ _ _ _ _ _ _ _ _ _ _ _ _ _ _ _ _ _ _ _ hR _ _ ?_); clear H hR; rcases R with ⟨_, _, _, _, _, _, _, _, _, _, _, _⟩; all_goals (replace H := H2; clear H2; (try dsimp only at H); cbv))
    | (obtain ⟨R, hR, H2⟩ := bindR_go H; refine call_in hJ [] (by decide) rfl rfl rfl (f44_call _ ho _ _ _ _ _ _ _ hR _ _ ?_); clear H hR; rcases R with ⟨⟩ | ⟨_, _, _, _, _⟩; all_goals (replace H := H2; clear H2; (try dsimp only at H); cbv))
    | (obtain ⟨R, hR, H2⟩ := bindR_go H; refine call_in hJ [] (by decide) rfl rfl rfl (f13_call _ ho _  hR _ _ ?_); clear H hR; rcases R with ⟨_⟩; all_goals (replace H := H2; clear H2; (try dsimp only at H); cbv))
    | (refine region_pack (id := 1) hJ tab_ok 8 9 [0, 2, 1] rfl (leN_t rfl) rfl (by decide) ?_ ?_ <;> intro KK hKK <;> cbv)
    | (refine hKK _ ?_; clear hKK; cbv)
    | (refine lit_t ?_; cbv)
    | (refine lit_f ?_; cbv)
    | (refine lit_t ?_; cbv)
    | (refine lit_f ?_; cbv)
    | (refine known_t (by assumption) ?_)
    | (refine known_f (by assumption) ?_)
    | (refine known_x (by assumption) ?_)
    | (refine known_y (by assumption) ?_)
    | (refine known_get (by assumption) ?_; cbv)
    | (refine known_and (by assumption) ?_)
    | with_reducible refine And.intro ?_ ?_
    | (intro hh; exact hh)
    | (intro _; assumption)
    | (intro hx; first | exact tf_absurd hx (by assumption) | exact tf_absurd (by assumption) hx)
    | (intro _; clear H h; simp only [ho, stdOps] at *; simp_all)
    | (cbv; with_reducible refine hold_go hJ ?_; cbv))

end Go.Proofs.Ytjdbmfipciadfaa.A
