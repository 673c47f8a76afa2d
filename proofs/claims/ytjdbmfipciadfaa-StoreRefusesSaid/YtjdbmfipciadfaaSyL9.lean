/- Functions of the program and of the document's answer, as plain ones. Written by lift.py. -/import Derived.Test.YtjdbmfipciadfaaSy0
import Derived.Test.YtjdbmfipciadfaaSy9
import Derived.Test.YtjdbmfipciadfaaSy27
import Derived.Test.YtjdbmfipciadfaaSy24
import Derived.Test.YtjdbmfipciadfaaSy3
import Derived.Test.YtjdbmfipciadfaaSy20
import Derived.Test.YtjdbmfipciadfaaSy1
import Derived.Test.YtjdbmfipciadfaaSy8
namespace Go.Proofs.Ytjdbmfipciadfaa.A
open Go Go.Pt
set_option maxHeartbeats 4000000
set_option maxRecDepth 100000
inductive F9R where
  | v0 (y0 : Bool) (y1 : List AV)
def F9R.av : F9R → AV
  | .v0 y0 _ => .bool y0
def F9R.hp : F9R → List Ent
  | .v0 _ y1 => [.fam 0 y1]
inductive F9L0 where
  | x0
noncomputable def f9_l0 (o : Ops) (_fuel : Nat) (a1 : List AV) (_a0 : Int) (_r4 : List AV) (_r7 : List (AV × AV)) (_r8 : List AV) : Nat → Option F9L0
  | 0 => none
  | _n + 1 =>
    ifB (o.cmp .lss 0 (o.len a1))
    (req (o.inb 0 (o.len a1)) <|
     getA (o.get a1 0) fun e => sh71 e fun _ _ _ _ _ _ =>
     none)
    (some (.x0 ))
theorem f9_l0_go {J : Jd} {n₀ : Nat} (hJ : J = std Try.prog n₀) {o : Ops} (hJo : J.o = o) {fuel : Nat} {a1 : List AV} {a0 : Int} {r4 : List AV} {r7 : List (AV × AV)} {r8 : List AV}  {α : Type} {k : F9L0 → Option α} {r : α} {c : Code} {Q : Ex → St → Prop} {s : St}
    (H : bindR (f9_l0 o fuel a1 a0 r4 r7 r8 fuel ) k = some r) (hn : n₀ ≤ 4) (hle : Le s ⟨[(35, .int .i64 0), (34, .int .i64 (o.len a1)), (33, .sl 6 a1 .no), (7, .nilp), (5, .ptr 1 0), (0, .int .u8 a0)], [.fam 0 r4, .var [.int .i64 (o.wrap .i64 a0), .mp 2, .vs 3 3 0 0 0, .bool false], .mp r7, .vec 3 r8], 71⟩)
    (round : ∀ X, k X = some r → ∀ (n : Nat) , f9_l0 o fuel a1 a0 r4 r7 r8 (n + 1)  = some X → ∀ N : St → Prop,
      (∀ (env : List (Nat × AV))  (v : List Ent), f9_l0 o fuel a1 a0 r4 r7 r8 n  = some X → wkEnv env [(35, .int .i64 0), (34, .int .i64 (o.len a1)), (33, .sl 6 a1 .no), (7, .nilp), (5, .ptr 1 0), (0, .int .u8 a0)] → N ⟨env, [.fam 0 r4, .var [.int .i64 (o.wrap .i64 a0), .mp 2, .vs 3 3 0 0 0, .bool false], .mp r7, .vec 3 r8] ++ v, 71⟩) → awp J tab c (thenQ N Q) ⟨[(35, .int .i64 0), (34, .int .i64 (o.len a1)), (33, .sl 6 a1 .no), (7, .nilp), (5, .ptr 1 0), (0, .int .u8 a0)], [.fam 0 r4, .var [.int .i64 (o.wrap .i64 a0), .mp 2, .vs 3 3 0 0 0, .bool false], .mp r7, .vec 3 r8], 71⟩) : J.code (.loop c) Q s := by
  subst hJo
  obtain ⟨X, hX, HX⟩ := bindR_go H
  refine loop_at (β := Nat) hJ tab_ok (fun _ => ⟨[(35, .int .i64 0), (34, .int .i64 (J.o.len a1)), (33, .sl 6 a1 .no), (7, .nilp), (5, .ptr 1 0), (0, .int .u8 a0)], [.fam 0 r4, .var [.int .i64 (J.o.wrap .i64 a0), .mp 2, .vs 3 3 0 0 0, .bool false], .mp r7, .vec 3 r8], 71⟩) (fun n => f9_l0 J.o fuel a1 a0 r4 r7 r8 n = some X) (fun n => n) (fuel) hX hle (by rintro _; exact hn) ?_
  rintro n hb N hN
  rcases n with _ | n
  · exact none_go (show (none : Option F9L0) = some X from hb)
  exact round X HX n  hb N fun env  v h1 h2 => hN _ (n) h1 (Nat.lt_succ_self n) ⟨h2, by first | (cbv; done) | (cbv; repeat' (first | exact trivial | exact rfl | apply And.intro)), rfl, rfl⟩
inductive F9L1 where
  | x0 (y0 : List AV)
  | x1 (y0 : List AV)
  | x2 (y0 : List AV)
noncomputable def f9_l1 (o : Ops) (fuel : Nat) (a1 : List AV) (a0 : Int) : Nat → Int → List AV → Int → Int → Int → Bool → Int → Int → Int → Int → Int → Int → Bool → List (AV × AV) → List AV → List AV → List AV → Option F9L1
  | 0, _, _, _, _, _, _, _, _, _, _, _, _, _, _, _, _, _ => none
  | n + 1, w125, w126, w127, w128, w129, w130, w131, w132, w133, w134, w135, w136, w137, w138, w139, w140, w141 =>
    ifB (o.cmp .lss w125 (o.len a1))
    (req (o.inb w125 (o.len a1)) <|
     getA (o.get a1 w125) fun e => sh71 e fun v142 v143 v144 v145 v146 v147 =>
     bindR (f50_1 o fuel w126 w131 w132 w133 w134 w135 w136 (o.wrap .i64 a0) w137 w140 w141) fun r => match r with
     | .v0 r148 r149 r150 r151 r152 r153 r154 r155 => bindR (f50_1 o fuel w126 w131 w132 w133 w134 w135 w136 (o.wrap .i64 a0) w137 w140 w141) fun r => match r with
       | .v0 r156 r157 r158 r159 r160 r161 r162 r163 => bindR (f51 o fuel v142 v143 v144 v145 v146 v147 w126 (o.wrap .i64 a0) w127 w128 w129 w130 w131 w132 w133 w134 w135 w136 (o.wrap .i64 a0) w137 w138 w139 w140 w141) fun r => match r with
         | .v0 r164 r165 r166 r167 r168 r169 r170 r171 r172 r173 r174 r175 r176 r177 r178 r179 r180 => ifB (o.bnot r164)
           (some (.x0 r165))
           (bindR (f52 o fuel r165 (o.wrap .i64 a0) r166 r167 r168 r169 r177 r178) fun r => match r with
            | .v0 r181 r182 => ifB (o.cmp .lss r181 0)
              (some (.x0 r165))
              (bindR (f52 o fuel r165 (o.wrap .i64 a0) r166 r167 r168 r169 r182 r178) fun r => match r with
               | .v0 r183 r184 => ifB (o.cmp .gtr r183 (o.wrap .i64 a0))
                 (some (.x0 r165))
                 (bindR (f53 o fuel v142 v143 v144 v145 v146 v147 r165 r156 r157 r158 r159 r160 r161 (o.wrap .i64 a0) w137 r162 r163) fun r => match r with
                  | .v0 r185 _ _ _ _ _ _ _ _ => ifB r185
                    (bindR (f54 o fuel v142 v143 v144 v145 v146 v147 r165 (o.wrap .i64 a0) r166 r167 r168 r169 r148 r149 r150 r151 r152 r153 (o.wrap .i64 a0) w137 r184 r178 r154 r155) fun r => match r with
                     | .v0 r194 r195 => ifB (o.bnot r194)
                       (some (.x1 r165))
                       (f9_l1 o fuel a1 a0 n (o.ar .add .i64 w125 1) r165 r166 r167 r168 r169 r170 r171 r172 r173 r174 r175 r176 r195 r178 r179 r180))
                    (f9_l1 o fuel a1 a0 n (o.ar .add .i64 w125 1) r165 r166 r167 r168 r169 r170 r171 r172 r173 r174 r175 r176 r184 r178 r179 r180)))))
    (some (.x2 w126))
theorem f9_l1_go {J : Jd} {n₀ : Nat} (hJ : J = std Try.prog n₀) {o : Ops} (hJo : J.o = o) {fuel : Nat} {a1 : List AV} {a0 : Int} {w125i : Int} {w126i : List AV} {w127i : Int} {w128i : Int} {w129i : Int} {w130i : Bool} {w131i : Int} {w132i : Int} {w133i : Int} {w134i : Int} {w135i : Int} {w136i : Int} {w137i : Bool} {w138i : List (AV × AV)} {w139i : List AV} {w140i : List AV} {w141i : List AV} {α : Type} {k : F9L1 → Option α} {r : α} {c : Code} {Q : Ex → St → Prop} {s : St}
    (H : bindR (f9_l1 o fuel a1 a0 fuel w125i w126i w127i w128i w129i w130i w131i w132i w133i w134i w135i w136i w137i w138i w139i w140i w141i) k = some r) (hn : n₀ ≤ 7) (hle : Turn n₀ s ⟨[(35, .int .i64 w125i), (34, .int .i64 (o.len a1)), (33, .sl 6 a1 .no), (7, .ptr 2 0), (5, .ptr 1 0), (0, .int .u8 a0)], [.fam 0 w126i, .var [.int .i64 (o.wrap .i64 a0), .mp 3, .vs 4 3 w127i w128i w129i, .bool w130i], .var [.vs 5 2 w131i w132i w133i, .vs 6 3 w134i w135i w136i, .int .i64 (o.wrap .i64 a0), .bool w137i], .mp w138i, .vec 3 w139i, .vec 2 w140i, .vec 3 w141i], 71⟩)
    (round : ∀ X, k X = some r → ∀ (n : Nat) (w125 : Int) (w126 : List AV) (w127 : Int) (w128 : Int) (w129 : Int) (w130 : Bool) (w131 : Int) (w132 : Int) (w133 : Int) (w134 : Int) (w135 : Int) (w136 : Int) (w137 : Bool) (w138 : List (AV × AV)) (w139 : List AV) (w140 : List AV) (w141 : List AV), f9_l1 o fuel a1 a0 (n + 1) w125 w126 w127 w128 w129 w130 w131 w132 w133 w134 w135 w136 w137 w138 w139 w140 w141 = some X → ∀ N : St → Prop,
      (∀ (s' : St) (w125' : Int) (w126' : List AV) (w127' : Int) (w128' : Int) (w129' : Int) (w130' : Bool) (w131' : Int) (w132' : Int) (w133' : Int) (w134' : Int) (w135' : Int) (w136' : Int) (w137' : Bool) (w138' : List (AV × AV)) (w139' : List AV) (w140' : List AV) (w141' : List AV), f9_l1 o fuel a1 a0 n w125' w126' w127' w128' w129' w130' w131' w132' w133' w134' w135' w136' w137' w138' w139' w140' w141' = some X → Turn n₀ s' ⟨[(35, .int .i64 w125'), (34, .int .i64 (o.len a1)), (33, .sl 6 a1 .no), (7, .ptr 2 0), (5, .ptr 1 0), (0, .int .u8 a0)], [.fam 0 w126', .var [.int .i64 (o.wrap .i64 a0), .mp 3, .vs 4 3 w127' w128' w129', .bool w130'], .var [.vs 5 2 w131' w132' w133', .vs 6 3 w134' w135' w136', .int .i64 (o.wrap .i64 a0), .bool w137'], .mp w138', .vec 3 w139', .vec 2 w140', .vec 3 w141'], 71⟩ → N s') → awp J tab c (thenQ N Q) ⟨[(35, .int .i64 w125), (34, .int .i64 (o.len a1)), (33, .sl 6 a1 .no), (7, .ptr 2 0), (5, .ptr 1 0), (0, .int .u8 a0)], [.fam 0 w126, .var [.int .i64 (o.wrap .i64 a0), .mp 3, .vs 4 3 w127 w128 w129, .bool w130], .var [.vs 5 2 w131 w132 w133, .vs 6 3 w134 w135 w136, .int .i64 (o.wrap .i64 a0), .bool w137], .mp w138, .vec 3 w139, .vec 2 w140, .vec 3 w141], 71⟩) : J.code (.loop c) Q s := by
  subst hJo
  obtain ⟨X, hX, HX⟩ := bindR_go H
  refine loop_turn_at (β := Nat × Int × List AV × Int × Int × Int × Bool × Int × Int × Int × Int × Int × Int × Bool × List (AV × AV) × List AV × List AV × List AV) hJ tab_ok (fun | (_, w125, w126, w127, w128, w129, w130, w131, w132, w133, w134, w135, w136, w137, w138, w139, w140, w141) => ⟨[(35, .int .i64 w125), (34, .int .i64 (J.o.len a1)), (33, .sl 6 a1 .no), (7, .ptr 2 0), (5, .ptr 1 0), (0, .int .u8 a0)], [.fam 0 w126, .var [.int .i64 (J.o.wrap .i64 a0), .mp 3, .vs 4 3 w127 w128 w129, .bool w130], .var [.vs 5 2 w131 w132 w133, .vs 6 3 w134 w135 w136, .int .i64 (J.o.wrap .i64 a0), .bool w137], .mp w138, .vec 3 w139, .vec 2 w140, .vec 3 w141], 71⟩) (fun | (n, w125, w126, w127, w128, w129, w130, w131, w132, w133, w134, w135, w136, w137, w138, w139, w140, w141) => f9_l1 J.o fuel a1 a0 n w125 w126 w127 w128 w129 w130 w131 w132 w133 w134 w135 w136 w137 w138 w139 w140 w141 = some X) (fun | (n, _, _, _, _, _, _, _, _, _, _, _, _, _, _, _, _, _) => n) (fuel, w125i, w126i, w127i, w128i, w129i, w130i, w131i, w132i, w133i, w134i, w135i, w136i, w137i, w138i, w139i, w140i, w141i) hX hle (by rintro ⟨_, _, _, _, _, _, _, _, _, _, _, _, _, _, _, _, _, _⟩; exact hn) ?_
  rintro ⟨n, w125, w126, w127, w128, w129, w130, w131, w132, w133, w134, w135, w136, w137, w138, w139, w140, w141⟩ hb N hN
  rcases n with _ | n
  · exact none_go (show (none : Option F9L1) = some X from hb)
  exact round X HX n w125 w126 w127 w128 w129 w130 w131 w132 w133 w134 w135 w136 w137 w138 w139 w140 w141 hb N fun s' w125' w126' w127' w128' w129' w130' w131' w132' w133' w134' w135' w136' w137' w138' w139' w140' w141' h1 h2 => hN s' (n, w125', w126', w127', w128', w129', w130', w131', w132', w133', w134', w135', w136', w137', w138', w139', w140', w141') h1 (Nat.lt_succ_self n) h2
noncomputable def f9 (o : Ops) (fuel : Nat) (a0 : Int) (a1 a2 : List AV) : Option F9R :=
  bindR (f30 o fuel a2) fun r => match r with
  | .v0 r3 r4 => ifB (o.bnot r3)
    (some (.v0 false r4))
    (bindR (f48 o fuel (o.wrap .i64 a0) r4) fun r => match r with
     | .v0  => bindR (f49 o fuel (o.wrap .i64 a0) r4) fun r => match r with
       | .v0  => some (.v0 false r4)
       | .v1 _ _ => some (.v0 false r4)
     | .v1 r7 r8 => bindR (f49 o fuel (o.wrap .i64 a0) r4) fun r => match r with
       | .v0  => ifB (o.pick (o.bnot (o.cmp .eql 0 0)) true false)
         (some (.v0 false r4))
         (bindR (f9_l0 o fuel a1 a0 r4 r7 r8 fuel ) fun r => match r with
          | .x0  => some (.v0 true r4))
       | .v1 r15 r16 => ifB (o.pick (o.bnot (o.cmp .eql 0 0)) true false)
         (some (.v0 false r4))
         (bindR (f9_l1 o fuel a1 a0 fuel 0 r4 0 0 0 false 0 0 0 0 0 0 false r7 r8 r15 r16) fun r => match r with
          | .x0 y196 => some (.v0 false y196)
          | .x1 y197 => some (.v0 false y197)
          | .x2 y198 => some (.v0 true y198)))
theorem f9_call (o : Ops) (ho : o = stdOps) (fuel : Nat) (a0 : Int) (a1 a2 : List AV) {R : F9R} (H : f9 o fuel a0 a1 a2 = some R) (K : AV → List Ent → Prop) (E : AV → List Ent → Prop) (h : K R.av R.hp) : CallA Try.prog 9 [.int .u8 a0, .sl 6 a1 .no] [.fam 0 a2] K E := by
  refine call_wk fun K' hK => ?_
  refine call_keep (n₀ := 1) tab_ok Try.func9 rfl rfl rfl rfl ?_
  intro J hJ
  obtain rfl : o = J.o := by rw [ho, hJ]; rfl
  unfold f9 at H
  cbv
  repeat' (first
    | ((with_reducible first | refine awp_go2 ?_ | refine aops_go2 ?_ | refine strip_go2 ?_); cbv)
    | with_reducible exact id
    | exact none_go H
    | (cases H; replace H := HX1; clear HX1; (try dsimp only at H))
    | (cases H; replace H := HX0; clear HX0; (try dsimp only at H))
    | (refine KeepQ.mk [] (by decide) ?_; cbv; cases H; refine hK _ _ _ _ ?_ ?_ rfl h <;> cbv)
    | (refine hN1 _ _ _ _ _ _ _ _ _ _ _ _ _ _ _ _ _ _ H (Turn.trans (Turn.pack [1, 2, 3, 14, 15, 16] (by decide) (leN_t rfl)) (Turn.le ⟨?_, ?_, rfl, rfl⟩ (leN_t rfl))) <;> (cbv; (repeat' (first | exact trivial | exact rfl | apply And.intro)); done))
    | (first | refine known_t (kn_pick_s ho rfl rfl) ?_ | refine known_y (kn_pick_s ho rfl rfl) ?_)
    | (refine ifB_go H ?_ ?_ <;> clear H <;> intro hh H)
    | (refine ifB_og H ?_ ?_ <;> clear H <;> intro hh H)
    | (refine req_go H ?_; clear H; intro hh H)
    | (refine sh71_get H ?_; clear H; intro _ _ _ _ _ _ he H; cbv)
    | (obtain ⟨R, hR, H2⟩ := bindR_go H; refine call_in hJ [0] (by decide) rfl rfl rfl (f49_call _ ho _ _ _ hR _ _ ?_); clear H hR; rcases R with ⟨⟩ | ⟨_, _⟩; all_goals (replace H := H2; clear H2; (try dsimp only at H); cbv))
    | (obtain ⟨R, hR, H2⟩ := bindR_go H; refine call_in hJ [0, 1, 8, 3, 14, 9, 10] (by decide) rfl rfl rfl (f54_call _ ho _ _ _ _ _ _ _ _ _ _ _ _ _ _ _ _ _ _ _ _ _ _ _ _ _ hR _ _ ?_); clear H hR; rcases R with ⟨_, _⟩; all_goals (replace H := H2; clear H2; (try dsimp only at H); cbv))
    | (obtain ⟨R, hR, H2⟩ := bindR_go H; refine call_in hJ [0, 11, 12, 13] (by decide) rfl rfl rfl (f53_call _ ho _ _ _ _ _ _ _ _ _ _ _ _ _ _ _ _ _ _ hR _ _ ?_); clear H hR; rcases R with ⟨_, _, _, _, _, _, _, _, _⟩; all_goals (replace H := H2; clear H2; (try dsimp only at H); cbv))
    | (obtain ⟨R, hR, H2⟩ := bindR_go H; refine call_in hJ [0, 1, 3, 14] (by decide) rfl rfl rfl (f52_call _ ho _ _ _ _ _ _ _ _ _ hR _ _ ?_); clear H hR; rcases R with ⟨_, _⟩; all_goals (replace H := H2; clear H2; (try dsimp only at H); cbv))
    | (obtain ⟨R, hR, H2⟩ := bindR_go H; refine call_in hJ [0, 1, 2, 3, 4, 5, 6] (by decide) rfl rfl rfl (f51_call _ ho _ _ _ _ _ _ _ _ _ _ _ _ _ _ _ _ _ _ _ _ _ _ _ _ _ hR _ _ ?_); clear H hR; rcases R with ⟨_, _, _, _, _, _, _, _, _, _, _, _, _, _, _, _, _⟩; all_goals (replace H := H2; clear H2; (try dsimp only at H); cbv))
    | (obtain ⟨R, hR, H2⟩ := bindR_go H; refine call_in hJ [0, 2, 5, 6] (by decide) rfl rfl rfl (f50_1_call _ ho _ _ _ _ _ _ _ _ _ _ _ _ hR _ _ ?_); clear H hR; rcases R with ⟨_, _, _, _, _, _, _, _⟩; all_goals (replace H := H2; clear H2; (try dsimp only at H); cbv))
    | (obtain ⟨R, hR, H2⟩ := bindR_go H; refine call_in hJ [0] (by decide) rfl rfl rfl (f48_call _ ho _ _ _ hR _ _ ?_); clear H hR; rcases R with ⟨⟩ | ⟨_, _⟩; all_goals (replace H := H2; clear H2; (try dsimp only at H); cbv))
    | (obtain ⟨R, hR, H2⟩ := bindR_go H; refine call_in hJ [0] (by decide) rfl rfl rfl (f30_call _ ho _ _ hR _ _ ?_); clear H hR; rcases R with ⟨_, _⟩; all_goals (replace H := H2; clear H2; (try dsimp only at H); cbv))
    | (refine f9_l0_go hJ (o := J.o) rfl H (by decide) ⟨?_, ?_, rfl, rfl⟩ ?_
       · cbv; (repeat' (first | exact trivial | exact rfl | apply And.intro))
       · cbv; (repeat' (first | exact trivial | exact rfl | apply And.intro))
       clear H
       intro X0 HX0 n  H Nx0 hN0
       rw [f9_l0] at H
       cbv)
    | (refine f9_l1_go hJ (o := J.o) rfl H (by decide) (Turn.trans (Turn.pack [1, 4, 2, 3, 5, 6] (by decide) (leN_t rfl)) (Turn.le ⟨?_, ?_, rfl, rfl⟩ (leN_t rfl))) ?_
       · cbv; (repeat' (first | exact trivial | exact rfl | apply And.intro))
       · cbv; (repeat' (first | exact trivial | exact rfl | apply And.intro))
       clear H
       intro X1 HX1 n _ _ _ _ _ _ _ _ _ _ _ _ _ _ _ _ _ H Nx1 hN1
       rw [f9_l1] at H
       cbv)
    | with_reducible refine And.intro ?_ ?_
    | (intro _; assumption)
    | (intro _; clear H h; (try clear hN0); (try clear HX0); (try clear hN1); (try clear HX1); simp only [ho, stdOps] at *; simp_all))
end Go.Proofs.Ytjdbmfipciadfaa.A
