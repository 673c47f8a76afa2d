/- Functions of the program and of the document's answer, as plain ones. Written by lift.py. -/import Derived.Test.YtjdbmfipciadfaaSy0
import Derived.Test.YtjdbmfipciadfaaSy11
import Derived.Test.YtjdbmfipciadfaaSy10
namespace Go.Proofs.Ytjdbmfipciadfaa.A
open Go Go.Pt
set_option maxHeartbeats 4000000
set_option maxRecDepth 100000
inductive F119R where
  | v0 (y0 : List AV)
def F119R.av : F119R → AV
  | .v0 y0 => .sl 1 y0 .no
def F119R.hp (a0 : List AV) (a1 a2 a3 a4 a5 a6 a7 : Int) (a8 : Bool) (a9 a10 : List AV) : F119R → List Ent
  | .v0 _ => [.fam 0 a0, .var [.vs 2 2 a1 a2 a3, .vs 3 3 a4 a5 a6, .int .i64 a7, .bool a8], .vec 2 a9, .vec 3 a10]
inductive F119L0 where
  | x0 (y0 : List AV) (y1 : Nat)
noncomputable def f119_l0 (o : Ops) (fuel : Nat) (a2 a1 : Int) (a9 a0 : List AV) (a3 a4 a5 a6 a7 : Int) (a8 : Bool) (a10 : List AV) : Nat → Nat → List AV → Int → Option F119L0
  | 0, _, _, _ => none
  | n + 1, w15, w16, w17 =>
    ifB (o.cmp .lss w17 a2)
    (req (o.inb w17 a2) <|
     req (o.inb (o.sum a1 w17) (o.len a9)) <|
     getA (o.get a9 (o.sum a1 w17)) fun e => sh164 e fun v18 _ =>
     req (o.room w16 [.str v18] 16) <|
     f119_l0 o fuel a2 a1 a9 a0 a3 a4 a5 a6 a7 a8 a10 n (o.padd w15 [.str v18]) (o.apnd w16 [.str v18]) (o.ar .add .i64 w17 1))
    (some (.x0 w16 w15))
theorem f119_l0_go {J : Jd} {n₀ : Nat} (hJ : J = std Try.prog n₀) {o : Ops} (hJo : J.o = o) {fuel : Nat} {a2 a1 : Int} {a9 a0 : List AV} {a3 a4 a5 a6 a7 : Int} {a8 : Bool} {a10 : List AV} {w15i : Nat} {w16i : List AV} {w17i : Int} {α : Type} {k : F119L0 → Option α} {r : α} {c : Code} {Q : Ex → St → Prop} {s : St}
    (H : bindR (f119_l0 o fuel a2 a1 a9 a0 a3 a4 a5 a6 a7 a8 a10 fuel w15i w16i w17i) k = some r) (hn : n₀ ≤ 5) (hle : Turn n₀ s ⟨[(4, .int .i64 w17i), (3, .sl 1 w16i (.tip 4 w15i)), (0, .ptr 1 0)], [.fam 0 a0, .var [.vs 2 2 a1 a2 a3, .vs 3 3 a4 a5 a6, .int .i64 a7, .bool a8], .vec 2 a9, .vec 3 a10, .tip w15i], 26⟩)
    (round : ∀ X, k X = some r → ∀ (n : Nat) (w15 : Nat) (w16 : List AV) (w17 : Int), f119_l0 o fuel a2 a1 a9 a0 a3 a4 a5 a6 a7 a8 a10 (n + 1) w15 w16 w17 = some X → ∀ N : St → Prop,
      (∀ (env : List (Nat × AV)) (w15' : Nat) (w16' : List AV) (w17' : Int) (v : List Ent), f119_l0 o fuel a2 a1 a9 a0 a3 a4 a5 a6 a7 a8 a10 n w15' w16' w17' = some X → wkEnv env [(4, .int .i64 w17'), (3, .sl 1 w16' (.tip 4 w15')), (0, .ptr 1 0)] → N ⟨env, [.fam 0 a0, .var [.vs 2 2 a1 a2 a3, .vs 3 3 a4 a5 a6, .int .i64 a7, .bool a8], .vec 2 a9, .vec 3 a10, .tip w15'] ++ v, 26⟩) → awp J tab c (thenQ N Q) ⟨[(4, .int .i64 w17), (3, .sl 1 w16 (.tip 4 w15)), (0, .ptr 1 0)], [.fam 0 a0, .var [.vs 2 2 a1 a2 a3, .vs 3 3 a4 a5 a6, .int .i64 a7, .bool a8], .vec 2 a9, .vec 3 a10, .tip w15], 26⟩) : J.code (.loop c) Q s := by
  subst hJo
  obtain ⟨X, hX, HX⟩ := bindR_go H
  refine loop_turn_at (β := Nat × Nat × List AV × Int) hJ tab_ok (fun | (_, w15, w16, w17) => ⟨[(4, .int .i64 w17), (3, .sl 1 w16 (.tip 4 w15)), (0, .ptr 1 0)], [.fam 0 a0, .var [.vs 2 2 a1 a2 a3, .vs 3 3 a4 a5 a6, .int .i64 a7, .bool a8], .vec 2 a9, .vec 3 a10, .tip w15], 26⟩) (fun | (n, w15, w16, w17) => f119_l0 J.o fuel a2 a1 a9 a0 a3 a4 a5 a6 a7 a8 a10 n w15 w16 w17 = some X) (fun | (n, _, _, _) => n) (fuel, w15i, w16i, w17i) hX hle (by rintro ⟨_, _, _, _⟩; exact hn) ?_
  rintro ⟨n, w15, w16, w17⟩ hb N hN
  rcases n with _ | n
  · exact none_go (show (none : Option F119L0) = some X from hb)
  exact round X HX n w15 w16 w17 hb N fun env w15' w16' w17' v h1 h2 => hN _ (n, w15', w16', w17') h1 (Nat.lt_succ_self n) (Turn.le ⟨h2, by cbv; repeat' (first | exact trivial | exact rfl | apply And.intro), rfl, rfl⟩ (by simp; omega))
noncomputable def f119 (o : Ops) (fuel : Nat) (a0 : List AV) (a1 a2 a3 a4 a5 a6 a7 : Int) (a8 : Bool) (a9 a10 : List AV) : Option F119R :=
  bindR (f119_l0 o fuel a2 a1 a9 a0 a3 a4 a5 a6 a7 a8 a10 fuel 0 [] 0) fun r => match r with
  | .x0 y20 _ => some (.v0 y20)
theorem f119_call (o : Ops) (ho : o = stdOps) (fuel : Nat) (a0 : List AV) (a1 a2 a3 a4 a5 a6 a7 : Int) (a8 : Bool) (a9 a10 : List AV) {R : F119R} (H : f119 o fuel a0 a1 a2 a3 a4 a5 a6 a7 a8 a9 a10 = some R) (K : AV → List Ent → Prop) (E : AV → List Ent → Prop) (h : K R.av (F119R.hp a0 a1 a2 a3 a4 a5 a6 a7 a8 a9 a10 R)) : CallA Try.prog 119 [.ptr 1 0] [.fam 0 a0, .var [.vs 2 2 a1 a2 a3, .vs 3 3 a4 a5 a6, .int .i64 a7, .bool a8], .vec 2 a9, .vec 3 a10] K E := by
  refine call_wk fun K' hK => ?_
  refine call_keep (n₀ := 4) tab_ok Try.func119 rfl rfl rfl rfl ?_
  intro J hJ
  obtain rfl : o = J.o := by rw [ho, hJ]; rfl
  unfold f119 at H
  cbv
  repeat' (first
    | ((with_reducible refine awp_go2 ?_); cbv)
    | exact trivial
    | with_reducible exact rfl
    | (cases H; replace H := HX0; clear HX0; (try dsimp only at H))
    | (refine KeepQ.mk [] (by decide) ?_; cbv; cases H; refine hK _ _ _ _ ?_ ?_ rfl h <;> cbv)
    | (refine hN0 _ _ _ _ _ H ?_; with_reducible refine wkEnv_go2 ?_; cbv)
    | (refine ifB_go H ?_ ?_ <;> clear H <;> intro hh H)
    | (refine req_go H ?_; clear H; intro hh H)
    | (refine sh164_get H ?_; clear H; intro _ _ he H; cbv)
    | (refine f119_l0_go hJ (o := J.o) rfl H (by decide) (Turn.trans (turn_nile 3 1 rfl (leN_t rfl)) (Turn.le ⟨?_, ?_, rfl, rfl⟩ (leN_t rfl))) ?_
       · cbv; (repeat' (first | exact trivial | exact rfl | apply And.intro))
       · cbv; (repeat' (first | exact trivial | exact rfl | apply And.intro))
       clear H
       intro X0 HX0 n _ _ _ H Nx0 hN0
       rw [f119_l0] at H
       cbv)
    | with_reducible refine And.intro ?_ ?_)
inductive F118R where
  | v0 (y0 : Bool)
def F118R.av : F118R → AV
  | .v0 y0 => .bool y0
def F118R.hp (a2 : List AV) : F118R → List Ent
  | .v0 _ => [.fam 0 a2]
inductive F118L0 where
  | x0
  | x1
noncomputable def f118_l0 (o : Ops) (fuel : Nat) (a0 a1 a2 : List AV) : Nat → Int → Option F118L0
  | 0, _ => none
  | n + 1, w5 =>
    ifB (o.cmp .lss w5 (o.len a0))
    (req (o.inb w5 (o.len a0)) <|
     getA (o.get a0 w5) fun e => sh9 e fun v6 =>
     req (o.inb w5 (o.len a1)) <|
     getA (o.get a1 w5) fun e => sh9 e fun v7 =>
     ifB (o.bnot (o.seq v6 v7))
     (some (.x0 ))
     (f118_l0 o fuel a0 a1 a2 n (o.ar .add .i64 w5 1)))
    (some (.x1 ))
theorem f118_l0_go {J : Jd} {n₀ : Nat} (hJ : J = std Try.prog n₀) {o : Ops} (hJo : J.o = o) {fuel : Nat} {a0 a1 a2 : List AV} {w5i : Int} {α : Type} {k : F118L0 → Option α} {r : α} {c : Code} {Q : Ex → St → Prop} {s : St}
    (H : bindR (f118_l0 o fuel a0 a1 a2 fuel w5i) k = some r) (hn : n₀ ≤ 1) (hle : Le s ⟨[(13, .int .i64 w5i), (12, .int .i64 (o.len a0)), (1, .sl 1 a1 .no), (0, .sl 1 a0 .no)], [.fam 0 a2], 26⟩)
    (round : ∀ X, k X = some r → ∀ (n : Nat) (w5 : Int), f118_l0 o fuel a0 a1 a2 (n + 1) w5 = some X → ∀ N : St → Prop,
      (∀ (env : List (Nat × AV)) (w5' : Int) (v : List Ent), f118_l0 o fuel a0 a1 a2 n w5' = some X → wkEnv env [(13, .int .i64 w5'), (12, .int .i64 (o.len a0)), (1, .sl 1 a1 .no), (0, .sl 1 a0 .no)] → N ⟨env, [.fam 0 a2] ++ v, 26⟩) → awp J tab c (thenQ N Q) ⟨[(13, .int .i64 w5), (12, .int .i64 (o.len a0)), (1, .sl 1 a1 .no), (0, .sl 1 a0 .no)], [.fam 0 a2], 26⟩) : J.code (.loop c) Q s := by
  subst hJo
  obtain ⟨X, hX, HX⟩ := bindR_go H
  refine loop_at (β := Nat × Int) hJ tab_ok (fun | (_, w5) => ⟨[(13, .int .i64 w5), (12, .int .i64 (J.o.len a0)), (1, .sl 1 a1 .no), (0, .sl 1 a0 .no)], [.fam 0 a2], 26⟩) (fun | (n, w5) => f118_l0 J.o fuel a0 a1 a2 n w5 = some X) (fun | (n, _) => n) (fuel, w5i) hX hle (by rintro ⟨_, _⟩; exact hn) ?_
  rintro ⟨n, w5⟩ hb N hN
  rcases n with _ | n
  · exact none_go (show (none : Option F118L0) = some X from hb)
  exact round X HX n w5 hb N fun env w5' v h1 h2 => hN _ (n, w5') h1 (Nat.lt_succ_self n) ⟨h2, by first | (cbv; done) | (cbv; repeat' (first | exact trivial | exact rfl | apply And.intro)), rfl, rfl⟩
noncomputable def f118 (o : Ops) (fuel : Nat) (a0 a1 a2 : List AV) : Option F118R :=
  ifB (o.bnot (o.cmp .eql (o.len a0) (o.len a1)))
  (some (.v0 false))
  (bindR (f118_l0 o fuel a0 a1 a2 fuel 0) fun r => match r with
   | .x0  => some (.v0 false)
   | .x1  => some (.v0 true))
theorem f118_call (o : Ops) (ho : o = stdOps) (fuel : Nat) (a0 a1 a2 : List AV) {R : F118R} (H : f118 o fuel a0 a1 a2 = some R) (K : AV → List Ent → Prop) (E : AV → List Ent → Prop) (h : K R.av (F118R.hp a2 R)) : CallA Try.prog 118 [.sl 1 a0 .no, .sl 1 a1 .no] [.fam 0 a2] K E := by
  refine call_wk fun K' hK => ?_
  refine call_keep (n₀ := 1) tab_ok Try.func118 rfl rfl rfl rfl ?_
  intro J hJ
  obtain rfl : o = J.o := by rw [ho, hJ]; rfl
  unfold f118 at H
  cbv
  repeat' (first
    | ((with_reducible refine awp_go2 ?_); cbv)
    | (cases H; replace H := HX0; clear HX0; (try dsimp only at H))
    | (refine KeepQ.mk [] (by decide) ?_; cbv; cases H; refine hK _ _ _ _ ?_ ?_ rfl h <;> cbv)
    | (refine hN0 _ _ _ H ?_; with_reducible refine wkEnv_go2 ?_; cbv)
    | (refine ifB_go H ?_ ?_ <;> clear H <;> intro hh H)
    | (refine req_go H ?_; clear H; intro hh H)
    | (refine sh9_get H ?_; clear H; intro _ he H; cbv)
    | (refine f118_l0_go hJ (o := J.o) rfl H (by decide) ⟨?_, ?_, rfl, rfl⟩ ?_
       · cbv; (repeat' (first | exact trivial | exact rfl | apply And.intro))
       · cbv; (repeat' (first | exact trivial | exact rfl | apply And.intro))
       clear H
       intro X0 HX0 n _ H Nx0 hN0
       rw [f118_l0] at H
       cbv))
inductive F121R where
  | v0 (y0 y1 : Int)
def F121R.av : F121R → AV
  | .v0 y0 y1 => .tup [.int .i64 y0, .int .i64 y1]
def F121R.hp (a1 : List AV) (a2 a3 a4 a5 a6 a7 a8 : Int) (a9 : Bool) (a10 a11 : List AV) : F121R → List Ent
  | .v0 _ _ => [.fam 0 a1, .var [.vs 2 2 a2 a3 a4, .vs 3 3 a5 a6 a7, .int .i64 a8, .bool a9], .vec 2 a10, .vec 3 a11]
noncomputable def f121 (o : Ops) (fuel : Nat) (a0 : ByteArray) (a1 : List AV) (a2 a3 a4 a5 a6 a7 a8 : Int) (a9 : Bool) (a10 a11 : List AV) : Option F121R :=
  bindR (f144 o fuel a0 a1 a2 a3 a4 a5 a6 a7 a8 a9 a10 a11) fun r => match r with
  | .v0 r12 => ifB (o.bnot (o.cmp .eql r12 0))
    (some (.v0 0 r12))
    (bindR (f145 o fuel a0 a1 a2 a3 a4 a5 a6 a7 a8 a9 a10 a11) fun r => match r with
     | .v0 r13 => some (.v0 (o.len r13) 0))
theorem f121_call (o : Ops) (ho : o = stdOps) (fuel : Nat) (a0 : ByteArray) (a1 : List AV) (a2 a3 a4 a5 a6 a7 a8 : Int) (a9 : Bool) (a10 a11 : List AV) {R : F121R} (H : f121 o fuel a0 a1 a2 a3 a4 a5 a6 a7 a8 a9 a10 a11 = some R) (K : AV → List Ent → Prop) (E : AV → List Ent → Prop) (h : K R.av (F121R.hp a1 a2 a3 a4 a5 a6 a7 a8 a9 a10 a11 R)) : CallA Try.prog 121 [.ptr 1 0, .str a0] [.fam 0 a1, .var [.vs 2 2 a2 a3 a4, .vs 3 3 a5 a6 a7, .int .i64 a8, .bool a9], .vec 2 a10, .vec 3 a11] K E := by
  refine call_wk fun K' hK => ?_
  refine call_keep (n₀ := 4) tab_ok Try.func121 rfl rfl rfl rfl ?_
  intro J hJ
  obtain rfl : o = J.o := by rw [ho, hJ]; rfl
  unfold f121 at H
  cbv
  repeat' (first
    | ((with_reducible refine awp_go2 ?_); cbv)
    | (refine KeepQ.mk [] (by decide) ?_; cbv; cases H; refine hK _ _ _ _ ?_ ?_ rfl h <;> cbv)
    | (refine ifB_go H ?_ ?_ <;> clear H <;> intro hh H)
    | (obtain ⟨R, hR, H2⟩ := bindR_go H; refine call_in hJ [0, 1, 2, 3] (by decide) rfl rfl rfl (f145_call _ ho _ _ _ _ _ _ _ _ _ _ _ _ _ hR _ _ ?_); clear H hR; rcases R with ⟨_⟩; all_goals (replace H := H2; clear H2; (try dsimp only at H); cbv))
    | (obtain ⟨R, hR, H2⟩ := bindR_go H; refine call_in hJ [0, 1, 2, 3] (by decide) rfl rfl rfl (f144_call _ ho _ _ _ _ _ _ _ _ _ _ _ _ _ hR _ _ ?_); clear H hR; rcases R with ⟨_⟩; all_goals (replace H := H2; clear H2; (try dsimp only at H); cbv)))
end Go.Proofs.Ytjdbmfipciadfaa.A
