/- Functions of the program and of the document's answer, as plain ones. Written by lift.py. -/import Derived.Test.YtjdbmfipciadfaaSy0
import Derived.Test.YtjdbmfipciadfaaSy11
import Derived.Test.YtjdbmfipciadfaaSy9
import Derived.Test.YtjdbmfipciadfaaSy10
namespace Go.Proofs.Ytjdbmfipciadfaa.A
open Go Go.Pt
set_option maxHeartbeats 4000000
set_option maxRecDepth 100000
inductive F146R where
  | v0 (y0 y1 y2 : Int) (y3 : List AV)
def F146R.av : F146R → AV
  | .v0 y0 y1 y2 _ => .vs 4 3 y0 y1 y2
def F146R.hp (a1 : List AV) (a2 a3 a4 a5 a6 a7 a8 : Int) (a9 : Bool) (a10 a11 : List AV) : F146R → List Ent
  | .v0 _ _ _ y3 => [.fam 0 a1, .var [.vs 2 2 a2 a3 a4, .vs 3 3 a5 a6 a7, .int .i64 a8, .bool a9], .vec 2 a10, .vec 3 a11, .vec 3 y3]
inductive F146L0 where
  | x0 (y0 y1 : Int) (y2 : List AV)
noncomputable def f146_l0 (o : Ops) (fuel : Nat) (a6 a5 : Int) (a11 : List AV) (a0 : ByteArray) (a1 : List AV) (a2 a3 a4 a7 a8 : Int) (a9 : Bool) (a10 : List AV) : Nat → Int → Int → Int → List AV → Option F146L0
  | 0, _, _, _, _ => none
  | n + 1, w30, w31, w32, w33 =>
    ifB (o.cmp .lss w32 a6)
    (req (o.inb w32 a6) <|
     req (o.inb (o.sum a5 w32) (o.len a11)) <|
     getA (o.get a11 (o.sum a5 w32)) fun e => sh158 e fun v34 _ _ =>
     ifB (o.bnot (o.seq v34 a0))
     (req (o.inb w32 a6) <|
      req (o.inb (o.sum a5 w32) (o.len a11)) <|
      getA (o.get a11 (o.sum a5 w32)) fun e => sh158 e fun v37 v38 v39 =>
      req (o.is 0 0) <|
      req (o.le 0 w30) <|
      req (o.le w30 (o.len w33)) <|
      req (o.room (o.sub w33 0 w30) [.agg [.str v37, .int .i64 v38, .sl 1 v39 .no]] 48) <|
      f146_l0 o fuel a6 a5 a11 a0 a1 a2 a3 a4 a7 a8 a9 a10 n (o.len (o.apnd (o.sub w33 0 w30) [.agg [.str v37, .int .i64 v38, .sl 1 v39 .no]])) (o.len (o.apnd (o.sub w33 0 w30) [.agg [.str v37, .int .i64 v38, .sl 1 v39 .no]])) (o.ar .add .i64 w32 1) (o.apnd (o.sub w33 0 w30) [.agg [.str v37, .int .i64 v38, .sl 1 v39 .no]]))
     (f146_l0 o fuel a6 a5 a11 a0 a1 a2 a3 a4 a7 a8 a9 a10 n w30 w31 (o.ar .add .i64 w32 1) w33))
    (some (.x0 w30 w31 w33))
theorem f146_l0_go {J : Jd} {n₀ : Nat} (hJ : J = std Try.prog n₀) {o : Ops} (hJo : J.o = o) {fuel : Nat} {a6 a5 : Int} {a11 : List AV} {a0 : ByteArray} {a1 : List AV} {a2 a3 a4 a7 a8 : Int} {a9 : Bool} {a10 : List AV} {w30i : Int} {w31i : Int} {w32i : Int} {w33i : List AV} {α : Type} {k : F146L0 → Option α} {r : α} {c : Code} {Q : Ex → St → Prop} {s : St}
    (H : bindR (f146_l0 o fuel a6 a5 a11 a0 a1 a2 a3 a4 a7 a8 a9 a10 fuel w30i w31i w32i w33i) k = some r) (hn : n₀ ≤ 5) (hle : Turn n₀ s ⟨[(6, .int .i64 w32i), (5, .vs 4 3 0 w30i w31i), (1, .str a0), (0, .ptr 1 0)], [.fam 0 a1, .var [.vs 2 2 a2 a3 a4, .vs 3 3 a5 a6 a7, .int .i64 a8, .bool a9], .vec 2 a10, .vec 3 a11, .vec 3 w33i], 37⟩)
    (round : ∀ X, k X = some r → ∀ (n : Nat) (w30 : Int) (w31 : Int) (w32 : Int) (w33 : List AV), f146_l0 o fuel a6 a5 a11 a0 a1 a2 a3 a4 a7 a8 a9 a10 (n + 1) w30 w31 w32 w33 = some X → ∀ N : St → Prop,
      (∀ (s' : St) (w30' : Int) (w31' : Int) (w32' : Int) (w33' : List AV), f146_l0 o fuel a6 a5 a11 a0 a1 a2 a3 a4 a7 a8 a9 a10 n w30' w31' w32' w33' = some X → Turn n₀ s' ⟨[(6, .int .i64 w32'), (5, .vs 4 3 0 w30' w31'), (1, .str a0), (0, .ptr 1 0)], [.fam 0 a1, .var [.vs 2 2 a2 a3 a4, .vs 3 3 a5 a6 a7, .int .i64 a8, .bool a9], .vec 2 a10, .vec 3 a11, .vec 3 w33'], 37⟩ → N s') → awp J tab c (thenQ N Q) ⟨[(6, .int .i64 w32), (5, .vs 4 3 0 w30 w31), (1, .str a0), (0, .ptr 1 0)], [.fam 0 a1, .var [.vs 2 2 a2 a3 a4, .vs 3 3 a5 a6 a7, .int .i64 a8, .bool a9], .vec 2 a10, .vec 3 a11, .vec 3 w33], 37⟩) : J.code (.loop c) Q s := by
  subst hJo
  obtain ⟨X, hX, HX⟩ := bindR_go H
  refine loop_turn_at (β := Nat × Int × Int × Int × List AV) hJ tab_ok (fun | (_, w30, w31, w32, w33) => ⟨[(6, .int .i64 w32), (5, .vs 4 3 0 w30 w31), (1, .str a0), (0, .ptr 1 0)], [.fam 0 a1, .var [.vs 2 2 a2 a3 a4, .vs 3 3 a5 a6 a7, .int .i64 a8, .bool a9], .vec 2 a10, .vec 3 a11, .vec 3 w33], 37⟩) (fun | (n, w30, w31, w32, w33) => f146_l0 J.o fuel a6 a5 a11 a0 a1 a2 a3 a4 a7 a8 a9 a10 n w30 w31 w32 w33 = some X) (fun | (n, _, _, _, _) => n) (fuel, w30i, w31i, w32i, w33i) hX hle (by rintro ⟨_, _, _, _, _⟩; exact hn) ?_
  rintro ⟨n, w30, w31, w32, w33⟩ hb N hN
  rcases n with _ | n
  · exact none_go (show (none : Option F146L0) = some X from hb)
  exact round X HX n w30 w31 w32 w33 hb N fun s' w30' w31' w32' w33' h1 h2 => hN s' (n, w30', w31', w32', w33') h1 (Nat.lt_succ_self n) h2
noncomputable def f146 (o : Ops) (fuel : Nat) (a0 : ByteArray) (a1 : List AV) (a2 a3 a4 a5 a6 a7 a8 : Int) (a9 : Bool) (a10 a11 : List AV) : Option F146R :=
  bindR (f146_l0 o fuel a6 a5 a11 a0 a1 a2 a3 a4 a7 a8 a9 a10 fuel 0 0 0 []) fun r => match r with
  | .x0 y40 y41 y42 => some (.v0 0 y40 y41 y42)
theorem f146_call (o : Ops) (ho : o = stdOps) (fuel : Nat) (a0 : ByteArray) (a1 : List AV) (a2 a3 a4 a5 a6 a7 a8 : Int) (a9 : Bool) (a10 a11 : List AV) {R : F146R} (H : f146 o fuel a0 a1 a2 a3 a4 a5 a6 a7 a8 a9 a10 a11 = some R) (K : AV → List Ent → Prop) (E : AV → List Ent → Prop) (h : K R.av (F146R.hp a1 a2 a3 a4 a5 a6 a7 a8 a9 a10 a11 R)) : CallA Try.prog 146 [.ptr 1 0, .str a0] [.fam 0 a1, .var [.vs 2 2 a2 a3 a4, .vs 3 3 a5 a6 a7, .int .i64 a8, .bool a9], .vec 2 a10, .vec 3 a11] K E := by
  refine call_wk fun K' hK => ?_
  refine call_keep (n₀ := 4) tab_ok Try.func146 rfl rfl rfl rfl ?_
  intro J hJ
  obtain rfl : o = J.o := by rw [ho, hJ]; rfl
  unfold f146 at H
  cbv
  repeat' (first
    | ((with_reducible refine awp_go2 ?_); cbv)
    | (cases H; replace H := HX0; clear HX0; (try dsimp only at H))
    | (refine KeepQ.mk [4] (by decide) ?_; cbv; cases H; refine hK _ _ _ _ ?_ ?_ rfl h <;> cbv)
    | (refine hN0 _ _ _ _ _ H (Turn.trans (Turn.pack [4] (by decide) (leN_t rfl)) (Turn.le ⟨?_, ?_, rfl, rfl⟩ (leN_t rfl))) <;> (cbv; (repeat' (first | exact trivial | exact rfl | apply And.intro)); done))
    | (refine hN0 _ _ _ _ _ H (Turn.trans (Turn.pack [5] (by decide) (leN_t rfl)) (Turn.le ⟨?_, ?_, rfl, rfl⟩ (leN_t rfl))) <;> (cbv; (repeat' (first | exact trivial | exact rfl | apply And.intro)); done))
    | (refine ifB_go H ?_ ?_ <;> clear H <;> intro hh H)
    | (refine req_go H ?_; clear H; intro hh H)
    | (refine sh158_get H ?_; clear H; intro _ _ _ he H; cbv)
    | (refine f146_l0_go hJ (o := J.o) rfl H (by decide) (Turn.trans (turn_nilr 5 3 rfl (leN_t rfl)) (Turn.trans (Turn.pack [4] (by decide) (leN_t rfl)) (Turn.le ⟨?_, ?_, rfl, rfl⟩ (leN_t rfl)))) ?_
       · cbv; (repeat' (first | exact trivial | exact rfl | apply And.intro))
       · cbv; (repeat' (first | exact trivial | exact rfl | apply And.intro))
       clear H
       intro X0 HX0 n _ _ _ _ H Nx0 hN0
       rw [f146_l0] at H
       cbv))
inductive F113R where
  | v0 (y0 y1 y2 y3 : Int) (y4 y5 : List AV)
def F113R.av : F113R → AV
  | .v0 y0 _ _ _ _ _ => .int .i64 y0
def F113R.hp (a1 : List AV) (a2 a3 a4 a8 : Int) (a9 : Bool) : F113R → List Ent
  | .v0 _ y1 y2 y3 y4 y5 => [.fam 0 a1, .var [.vs 2 2 a2 a3 a4, .vs 4 3 y1 y2 y3, .int .i64 a8, .bool a9], .vec 2 y4, .dead, .vec 3 y5]
noncomputable def f113 (o : Ops) (fuel : Nat) (a0 : ByteArray) (a1 : List AV) (a2 a3 a4 a5 a6 a7 a8 : Int) (a9 : Bool) (a10 a11 : List AV) : Option F113R :=
  bindR (f144 o fuel a0 a1 a2 a3 a4 a5 a6 a7 a8 a9 a10 a11) fun r => match r with
  | .v0 r12 => ifB (o.bnot (o.cmp .eql r12 0))
    (some (.v0 r12 a5 a6 a7 a10 a11))
    (bindR (f142 o fuel a0 a1 a2 a3 a4 a5 a6 a7 a8 a9 a10 a11) fun r => match r with
     | .v0 r13 => bindR (f145 o fuel a0 a1 a2 a3 a4 a5 a6 a7 a8 a9 a10 a11) fun r => match r with
       | .v0 r14 => req (o.inb r13 a3) <|
         req (o.inb (o.sum a2 r13) (o.len a10)) <|
         getA (o.get a10 (o.sum a2 r13)) fun e => sh164 e fun v15 _ =>
         bindR (f146 o fuel a0 a1 a2 a3 a4 a5 a6 a7 a8 a9 (o.upd a10 (o.sum a2 r13) (.agg [.str v15, .sl 1 r14 .no])) a11) fun r => match r with
         | .v0 r17 r18 r19 r20 => some (.v0 0 r17 r18 r19 (o.upd a10 (o.sum a2 r13) (.agg [.str v15, .sl 1 r14 .no])) r20))
theorem f113_call (o : Ops) (ho : o = stdOps) (fuel : Nat) (a0 : ByteArray) (a1 : List AV) (a2 a3 a4 a5 a6 a7 a8 : Int) (a9 : Bool) (a10 a11 : List AV) {R : F113R} (H : f113 o fuel a0 a1 a2 a3 a4 a5 a6 a7 a8 a9 a10 a11 = some R) (K : AV → List Ent → Prop) (E : AV → List Ent → Prop) (h : K R.av (F113R.hp a1 a2 a3 a4 a8 a9 R)) : CallA Try.prog 113 [.ptr 1 0, .str a0] [.fam 0 a1, .var [.vs 2 2 a2 a3 a4, .vs 3 3 a5 a6 a7, .int .i64 a8, .bool a9], .vec 2 a10, .vec 3 a11] K E := by
  refine call_wk fun K' hK => ?_
  refine call_keep (n₀ := 4) tab_ok Try.func113 rfl rfl rfl rfl ?_
  intro J hJ
  obtain rfl : o = J.o := by rw [ho, hJ]; rfl
  unfold f113 at H
  cbv
  repeat' (first
    | ((with_reducible refine awp_go2 ?_); cbv)
    | (refine KeepQ.tn _ (by first | exact .inl rfl | exact .inr rfl) (Turn.at 4 (turn_mv 1 1 3 3 rfl rfl rfl rfl (leN_t rfl)) rfl) [4] (by decide) ?_; cbv; cases H; refine hK _ _ _ _ ?_ ?_ rfl h <;> cbv)
    | (refine KeepQ.tn _ (by first | exact .inl rfl | exact .inr rfl) (Turn.at 5 (turn_mvg 3 3 rfl (leN_t rfl)) rfl) [4] (by decide) ?_; cbv; cases H; refine hK _ _ _ _ ?_ ?_ rfl h <;> cbv)
    | (refine ifB_go H ?_ ?_ <;> clear H <;> intro hh H)
    | (refine req_go H ?_; clear H; intro hh H)
    | (refine sh164_get H ?_; clear H; intro _ _ he H; cbv)
    | (obtain ⟨R, hR, H2⟩ := bindR_go H; refine call_in hJ [0, 1, 2, 3] (by decide) rfl rfl rfl (f146_call _ ho _ _ _ _ _ _ _ _ _ _ _ _ _ hR _ _ ?_); clear H hR; rcases R with ⟨_, _, _, _⟩; all_goals (replace H := H2; clear H2; (try dsimp only at H); cbv))
    | (obtain ⟨R, hR, H2⟩ := bindR_go H; refine call_in hJ [0, 1, 2, 3] (by decide) rfl rfl rfl (f145_call _ ho _ _ _ _ _ _ _ _ _ _ _ _ _ hR _ _ ?_); clear H hR; rcases R with ⟨_⟩; all_goals (replace H := H2; clear H2; (try dsimp only at H); cbv))
    | (obtain ⟨R, hR, H2⟩ := bindR_go H; refine call_in hJ [0, 1, 2, 3] (by decide) rfl rfl rfl (f142_call _ ho _ _ _ _ _ _ _ _ _ _ _ _ _ hR _ _ ?_); clear H hR; rcases R with ⟨_⟩; all_goals (replace H := H2; clear H2; (try dsimp only at H); cbv))
    | (obtain ⟨R, hR, H2⟩ := bindR_go H; refine call_in hJ [0, 1, 2, 3] (by decide) rfl rfl rfl (f144_call _ ho _ _ _ _ _ _ _ _ _ _ _ _ _ hR _ _ ?_); clear H hR; rcases R with ⟨_⟩; all_goals (replace H := H2; clear H2; (try dsimp only at H); cbv)))
end Go.Proofs.Ytjdbmfipciadfaa.A
