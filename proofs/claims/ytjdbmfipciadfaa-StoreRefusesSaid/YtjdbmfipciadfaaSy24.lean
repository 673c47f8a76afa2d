/- Functions of the program and of the document's answer, as plain ones. Written by lift.py. -/import Derived.Test.YtjdbmfipciadfaaSy0
import Derived.Test.YtjdbmfipciadfaaSy10
import Derived.Test.YtjdbmfipciadfaaSy12
import Derived.Test.YtjdbmfipciadfaaSy14
import Derived.Test.YtjdbmfipciadfaaSy16
import Derived.Test.YtjdbmfipciadfaaSy15
namespace Go.Proofs.Ytjdbmfipciadfaa.A
open Go Go.Pt
set_option maxHeartbeats 4000000
set_option maxRecDepth 100000
inductive F50_1R where
  | v0 (y0 y1 y2 y3 y4 y5 : Int) (y6 y7 : List AV)
def F50_1R.av : F50_1R → AV
  | .v0 _ _ _ _ _ _ _ _ => .ptr 4 0
def F50_1R.hp (a0 : List AV) (a1 a2 a3 a4 a5 a6 a7 : Int) (a8 : Bool) (a9 a10 : List AV) : F50_1R → List Ent
  | .v0 y0 y1 y2 y3 y4 y5 y6 y7 => [.fam 0 a0, .var [.vs 2 2 a1 a2 a3, .vs 3 3 a4 a5 a6, .int .i64 a7, .bool a8], .vec 2 a9, .vec 3 a10, .var [.vs 5 2 y0 y1 y2, .vs 6 3 y3 y4 y5, .int .i64 a7, .bool a8], .vec 2 y6, .vec 3 y7]
inductive F50_1L0 where
  | x0 (y0 y1 : Int) (y2 : List AV)
noncomputable def f50_1_l0 (o : Ops) (fuel : Nat) (a2 a1 : Int) (a9 a0 : List AV) (a3 a4 a5 a6 a7 : Int) (a8 : Bool) (a10 : List AV) : Nat → Int → Int → Int → List AV → Option F50_1L0
  | 0, _, _, _, _ => none
  | n + 1, w23, w24, w25, w26 =>
    ifB (o.cmp .lss w23 a2)
    (req (o.inb w23 a2) <|
     req (o.inb (o.sum a1 w23) (o.len a9)) <|
     getA (o.get a9 (o.sum a1 w23)) fun e => sh164 e fun v27 _ =>
     req (o.inb w23 a2) <|
     req (o.inb (o.sum a1 w23) (o.len a9)) <|
     getA (o.get a9 (o.sum a1 w23)) fun e => sh164 e fun _ v30 =>
     req (o.room [] v30 1) <|
     req (o.is 0 0) <|
     req (o.le 0 w24) <|
     req (o.le w24 (o.len w26)) <|
     req (o.room (o.sub w26 0 w24) [.agg [.str v27, .sl 1 (o.apnd [] v30) .no]] 40) <|
     f50_1_l0 o fuel a2 a1 a9 a0 a3 a4 a5 a6 a7 a8 a10 n (o.ar .add .i64 w23 1) (o.len (o.apnd (o.sub w26 0 w24) [.agg [.str v27, .sl 1 (o.apnd [] v30) .no]])) (o.len (o.apnd (o.sub w26 0 w24) [.agg [.str v27, .sl 1 (o.apnd [] v30) .no]])) (o.apnd (o.sub w26 0 w24) [.agg [.str v27, .sl 1 (o.apnd [] v30) .no]]))
    (some (.x0 w24 w25 w26))
theorem f50_1_l0_go {J : Jd} {n₀ : Nat} (hJ : J = std Try.prog n₀) {o : Ops} (hJo : J.o = o) {fuel : Nat} {a2 a1 : Int} {a9 a0 : List AV} {a3 a4 a5 a6 a7 : Int} {a8 : Bool} {a10 : List AV} {w23i : Int} {w24i : Int} {w25i : Int} {w26i : List AV} {α : Type} {k : F50_1L0 → Option α} {r : α} {c : Code} {Q : Ex → St → Prop} {s : St}
    (H : bindR (f50_1_l0 o fuel a2 a1 a9 a0 a3 a4 a5 a6 a7 a8 a10 fuel w23i w24i w25i w26i) k = some r) (hn : n₀ ≤ 6) (hle : Turn n₀ s ⟨[(4, .int .i64 w23i), (3, .ptr 4 0), (0, .ptr 1 0)], [.fam 0 a0, .var [.vs 2 2 a1 a2 a3, .vs 3 3 a4 a5 a6, .int .i64 a7, .bool a8], .vec 2 a9, .vec 3 a10, .var [.vs 5 2 0 w24i w25i, .nils, .int .i64 a7, .bool a8], .vec 2 w26i], 66⟩)
    (round : ∀ X, k X = some r → ∀ (n : Nat) (w23 : Int) (w24 : Int) (w25 : Int) (w26 : List AV), f50_1_l0 o fuel a2 a1 a9 a0 a3 a4 a5 a6 a7 a8 a10 (n + 1) w23 w24 w25 w26 = some X → ∀ N : St → Prop,
      (∀ (s' : St) (w23' : Int) (w24' : Int) (w25' : Int) (w26' : List AV), f50_1_l0 o fuel a2 a1 a9 a0 a3 a4 a5 a6 a7 a8 a10 n w23' w24' w25' w26' = some X → Turn n₀ s' ⟨[(4, .int .i64 w23'), (3, .ptr 4 0), (0, .ptr 1 0)], [.fam 0 a0, .var [.vs 2 2 a1 a2 a3, .vs 3 3 a4 a5 a6, .int .i64 a7, .bool a8], .vec 2 a9, .vec 3 a10, .var [.vs 5 2 0 w24' w25', .nils, .int .i64 a7, .bool a8], .vec 2 w26'], 66⟩ → N s') → awp J tab c (thenQ N Q) ⟨[(4, .int .i64 w23), (3, .ptr 4 0), (0, .ptr 1 0)], [.fam 0 a0, .var [.vs 2 2 a1 a2 a3, .vs 3 3 a4 a5 a6, .int .i64 a7, .bool a8], .vec 2 a9, .vec 3 a10, .var [.vs 5 2 0 w24 w25, .nils, .int .i64 a7, .bool a8], .vec 2 w26], 66⟩) : J.code (.loop c) Q s := by
  subst hJo
  obtain ⟨X, hX, HX⟩ := bindR_go H
  refine loop_turn_at (β := Nat × Int × Int × Int × List AV) hJ tab_ok (fun | (_, w23, w24, w25, w26) => ⟨[(4, .int .i64 w23), (3, .ptr 4 0), (0, .ptr 1 0)], [.fam 0 a0, .var [.vs 2 2 a1 a2 a3, .vs 3 3 a4 a5 a6, .int .i64 a7, .bool a8], .vec 2 a9, .vec 3 a10, .var [.vs 5 2 0 w24 w25, .nils, .int .i64 a7, .bool a8], .vec 2 w26], 66⟩) (fun | (n, w23, w24, w25, w26) => f50_1_l0 J.o fuel a2 a1 a9 a0 a3 a4 a5 a6 a7 a8 a10 n w23 w24 w25 w26 = some X) (fun | (n, _, _, _, _) => n) (fuel, w23i, w24i, w25i, w26i) hX hle (by rintro ⟨_, _, _, _, _⟩; exact hn) ?_
  rintro ⟨n, w23, w24, w25, w26⟩ hb N hN
  rcases n with _ | n
  · exact none_go (show (none : Option F50_1L0) = some X from hb)
  exact round X HX n w23 w24 w25 w26 hb N fun s' w23' w24' w25' w26' h1 h2 => hN s' (n, w23', w24', w25', w26') h1 (Nat.lt_succ_self n) h2
noncomputable def f50_1 (o : Ops) (fuel : Nat) (a0 : List AV) (a1 a2 a3 a4 a5 a6 a7 : Int) (a8 : Bool) (a9 a10 : List AV) : Option F50_1R :=
  bindR (f50_1_l0 o fuel a2 a1 a9 a0 a3 a4 a5 a6 a7 a8 a10 fuel 0 0 0 []) fun r => match r with
  | .x0 y31 y32 y33 => req (o.le 0 a4) <|
    req (o.le 0 a5) <|
    req (o.le (o.sum a4 a5) (o.len a10)) <|
    req (o.emp []) <|
    req (o.room [] (o.sub a10 a4 (o.sum a4 a5)) 48) <|
    some (.v0 0 y31 y32 0 (o.len (o.sub a10 a4 (o.sum a4 a5))) (o.len (o.sub a10 a4 (o.sum a4 a5))) y33 (o.sub a10 a4 (o.sum a4 a5)))
theorem f50_1_call (o : Ops) (ho : o = stdOps) (fuel : Nat) (a0 : List AV) (a1 a2 a3 a4 a5 a6 a7 : Int) (a8 : Bool) (a9 a10 : List AV) {R : F50_1R} (H : f50_1 o fuel a0 a1 a2 a3 a4 a5 a6 a7 a8 a9 a10 = some R) (K : AV → List Ent → Prop) (E : AV → List Ent → Prop) (h : K R.av (F50_1R.hp a0 a1 a2 a3 a4 a5 a6 a7 a8 a9 a10 R)) : CallA Try.prog 50 [.ptr 1 0] [.fam 0 a0, .var [.vs 2 2 a1 a2 a3, .vs 3 3 a4 a5 a6, .int .i64 a7, .bool a8], .vec 2 a9, .vec 3 a10] K E := by
  refine call_wk fun K' hK => ?_
  refine call_keep (n₀ := 4) tab_ok Try.func50 rfl rfl rfl rfl ?_
  intro J hJ
  obtain rfl : o = J.o := by rw [ho, hJ]; rfl
  unfold f50_1 at H
  cbv
  repeat' (first
    | ((with_reducible refine awp_go2 ?_); cbv)
    | (cases H; replace H := HX0; clear HX0; (try dsimp only at H))
    | (refine KeepQ.mk [4, 5, 6] (by decide) ?_; cbv; cases H; refine hK _ _ _ _ ?_ ?_ rfl h <;> cbv)
    | (refine hN0 _ _ _ _ _ H (Turn.trans (Turn.pack [4, 7] (by decide) (leN_t rfl)) (Turn.le ⟨?_, ?_, rfl, rfl⟩ (leN_t rfl))) <;> (cbv; (repeat' (first | exact trivial | exact rfl | apply And.intro)); done))
    | (refine ifB_go H ?_ ?_ <;> clear H <;> intro hh H)
    | (refine req_go H ?_; clear H; intro hh H)
    | (refine sh164_get H ?_; clear H; intro _ _ he H; cbv)
    | (refine f50_1_l0_go hJ (o := J.o) rfl H (by decide) (Turn.trans (turn_nilrh 4 0 2 rfl rfl (leN_t rfl)) (Turn.trans (Turn.pack [4, 5] (by decide) (leN_t rfl)) (Turn.le ⟨?_, ?_, rfl, rfl⟩ (leN_t rfl)))) ?_
       · cbv; (repeat' (first | exact trivial | exact rfl | apply And.intro))
       · cbv; (repeat' (first | exact trivial | exact rfl | apply And.intro))
       clear H
       intro X0 HX0 n _ _ _ _ H Nx0 hN0
       rw [f50_1_l0] at H
       cbv))
inductive F53R where
  | v0 (y0 : Bool) (y1 y2 y3 y4 y5 y6 : Int) (y7 y8 : List AV)
def F53R.av : F53R → AV
  | .v0 y0 _ _ _ _ _ _ _ _ => .bool y0
def F53R.hp (a6 : List AV) (a13 : Int) (a14 : Bool) : F53R → List Ent
  | .v0 _ y1 y2 y3 y4 y5 y6 y7 y8 => [.fam 0 a6, .var [.vs 4 2 y1 y2 y3, .vs 5 3 y4 y5 y6, .int .i64 a13, .bool a14], .dead, .dead, .vec 2 y7, .vec 3 y8]
noncomputable def f53 (o : Ops) (fuel : Nat) (a0 : Int) (a1 a2 : ByteArray) (a3 _a4 : Int) (a5 a6 : List AV) (a7 a8 a9 a10 a11 a12 a13 : Int) (a14 : Bool) (a15 a16 : List AV) : Option F53R :=
  ifB (o.cmp .eql a0 0)
  (bindR (f110 o fuel a1 a6 a7 a8 a9 a10 a11 a12 a13 a14 a15 a16) fun r => match r with
   | .v0 r17 r18 r19 r20 r21 => some (.v0 (o.bnot (o.cmp .eql r17 0)) r18 r19 r20 a10 a11 a12 r21 a16))
  (ifB (o.cmp .eql a0 1)
   (bindR (f111 o fuel a1 a3 a5 a6 a7 a8 a9 a10 a11 a12 a13 a14 a15 a16) fun r => match r with
    | .v0 r22 r23 r24 r25 r26 => some (.v0 (o.bnot (o.cmp .eql r22 0)) a7 a8 a9 r23 r24 r25 a15 r26))
   (ifB (o.cmp .eql a0 2)
    (bindR (f112 o fuel a1 a3 a6 a7 a8 a9 a10 a11 a12 a13 a14 a15 a16) fun r => match r with
     | .v0 r27 r28 r29 r30 r31 r32 => some (.v0 (o.bnot (o.cmp .eql r27 0)) a7 a8 a9 r28 r29 r30 r31 r32))
    (ifB (o.cmp .eql a0 4)
     (bindR (f114 o fuel a1 a2 a6 a7 a8 a9 a10 a11 a12 a13 a14 a15 a16) fun r => match r with
      | .v0 r33 r34 r35 r36 r37 r38 r39 r40 r41 => some (.v0 (o.bnot (o.cmp .eql r33 0)) r34 r35 r36 r37 r38 r39 r40 r41))
     (ifB (o.cmp .eql a0 5)
      (bindR (f115 o fuel a1 a6 a7 a8 a9 a10 a11 a12 a13 a14 a15 a16) fun r => match r with
       | .v0 r42 r43 r44 r45 r46 r47 r48 r49 r50 => some (.v0 (o.bnot (o.cmp .eql r42 0)) r43 r44 r45 r46 r47 r48 r49 r50))
      (some (.v0 false a7 a8 a9 a10 a11 a12 a15 a16))))))
theorem f53_call (o : Ops) (ho : o = stdOps) (fuel : Nat) (a0 : Int) (a1 a2 : ByteArray) (a3 a4 : Int) (a5 a6 : List AV) (a7 a8 a9 a10 a11 a12 a13 : Int) (a14 : Bool) (a15 a16 : List AV) {R : F53R} (H : f53 o fuel a0 a1 a2 a3 a4 a5 a6 a7 a8 a9 a10 a11 a12 a13 a14 a15 a16 = some R) (K : AV → List Ent → Prop) (E : AV → List Ent → Prop) (h : K R.av (F53R.hp a6 a13 a14 R)) : CallA Try.prog 53 [.ptr 1 0, .agg [.int .i64 a0, .str a1, .str a2, .int .i64 a3, .int .i64 a4, .sl 1 a5 .no]] [.fam 0 a6, .var [.vs 2 2 a7 a8 a9, .vs 3 3 a10 a11 a12, .int .i64 a13, .bool a14], .vec 2 a15, .vec 3 a16] K E := by
  refine call_wk fun K' hK => ?_
  refine call_keep (n₀ := 4) tab_ok Try.func53 rfl rfl rfl rfl ?_
  intro J hJ
  obtain rfl : o = J.o := by rw [ho, hJ]; rfl
  unfold f53 at H
  cbv
  repeat' (first
    | ((with_reducible refine awp_go2 ?_); cbv)
    | (refine KeepQ.tn _ (by first | exact .inl rfl | exact .inr rfl) (Turn.trans (Turn.at 5 (turn_mv 1 0 2 2 rfl rfl rfl rfl (leN_t rfl)) rfl) (Turn.at 6 (turn_mv 1 1 3 3 rfl rfl rfl rfl (leN_t rfl)) rfl)) [5, 6] (by decide) ?_; cbv; cases H; refine hK _ _ _ _ ?_ ?_ rfl h <;> cbv)
    | (refine KeepQ.tn _ (by first | exact .inl rfl | exact .inr rfl) (Turn.at 6 (turn_mv 1 1 3 3 rfl rfl rfl rfl (leN_t rfl)) rfl) [5, 6] (by decide) ?_; cbv; cases H; refine hK _ _ _ _ ?_ ?_ rfl h <;> cbv)
    | (refine KeepQ.tn _ (by first | exact .inl rfl | exact .inr rfl) (Turn.at 6 (turn_mv 1 0 2 2 rfl rfl rfl rfl (leN_t rfl)) rfl) [6, 5] (by decide) ?_; cbv; cases H; refine hK _ _ _ _ ?_ ?_ rfl h <;> cbv)
    | (refine KeepQ.mk [5, 6] (by decide) ?_; cbv; cases H; refine hK _ _ _ _ ?_ ?_ rfl h <;> cbv)
    | (refine ifB_go H ?_ ?_ <;> clear H <;> intro hh H)
    | (obtain ⟨R, hR, H2⟩ := bindR_go H; refine call_in hJ [0, 1, 2, 3] (by decide) rfl rfl rfl (f110_call _ ho _ _ _ _ _ _ _ _ _ _ _ _ _ hR _ _ ?_); clear H hR; rcases R with ⟨_, _, _, _, _⟩; all_goals (replace H := H2; clear H2; (try dsimp only at H); cbv))
    | (obtain ⟨R, hR, H2⟩ := bindR_go H; refine call_in hJ [0, 1, 2, 3] (by decide) rfl rfl rfl (f111_call _ ho _ _ _ _ _ _ _ _ _ _ _ _ _ _ _ hR _ _ ?_); clear H hR; rcases R with ⟨_, _, _, _, _⟩; all_goals (replace H := H2; clear H2; (try dsimp only at H); cbv))
    | (obtain ⟨R, hR, H2⟩ := bindR_go H; refine call_in hJ [0, 1, 2, 3] (by decide) rfl rfl rfl (f112_call _ ho _ _ _ _ _ _ _ _ _ _ _ _ _ _ hR _ _ ?_); clear H hR; rcases R with ⟨_, _, _, _, _, _⟩; all_goals (replace H := H2; clear H2; (try dsimp only at H); cbv))
    | (obtain ⟨R, hR, H2⟩ := bindR_go H; refine call_in hJ [0, 1, 2, 3] (by decide) rfl rfl rfl (f114_call _ ho _ _ _ _ _ _ _ _ _ _ _ _ _ _ hR _ _ ?_); clear H hR; rcases R with ⟨_, _, _, _, _, _, _, _, _⟩; all_goals (replace H := H2; clear H2; (try dsimp only at H); cbv))
    | (obtain ⟨R, hR, H2⟩ := bindR_go H; refine call_in hJ [0, 1, 2, 3] (by decide) rfl rfl rfl (f115_call _ ho _ _ _ _ _ _ _ _ _ _ _ _ _ hR _ _ ?_); clear H hR; rcases R with ⟨_, _, _, _, _, _, _, _, _⟩; all_goals (replace H := H2; clear H2; (try dsimp only at H); cbv)))
end Go.Proofs.Ytjdbmfipciadfaa.A
