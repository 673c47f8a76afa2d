/- Functions of the program and of the document's answer, as plain ones. Written by lift.py. -/import Derived.Test.YtjdbmfipciadfaaSy0
import Derived.Test.YtjdbmfipciadfaaSy9
namespace Go.Proofs.Ytjdbmfipciadfaa.A
open Go Go.Pt
set_option maxHeartbeats 4000000
set_option maxRecDepth 100000
inductive F147R where
  | v0 (y0 : List AV)
def F147R.av : F147R → AV
  | .v0 y0 => .sl 1 y0 .no
def F147R.hp (a3 : List AV) : F147R → List Ent
  | .v0 _ => [.fam 0 a3]
noncomputable def f147 (o : Ops) (_fuel : Nat) (a0 : List AV) (a1 : Int) (a2 _a3 : List AV) : Option F147R :=
  req (o.le 0 a1) <|
  req (o.le a1 (o.len a0)) <|
  req (o.room [] (o.sub a0 0 a1) 1) <|
  req (o.room (o.apnd [] (o.sub a0 0 a1)) a2 1) <|
  ifB (o.cmp .lss (o.len (o.apnd (o.apnd [] (o.sub a0 0 a1)) a2)) (o.len a0))
  (req (o.le 0 (o.len (o.apnd (o.apnd [] (o.sub a0 0 a1)) a2))) <|
   req (o.le (o.len (o.apnd (o.apnd [] (o.sub a0 0 a1)) a2)) (o.len a0)) <|
   req (o.room (o.apnd (o.apnd [] (o.sub a0 0 a1)) a2) (o.drop a0 (o.len (o.apnd (o.apnd [] (o.sub a0 0 a1)) a2))) 1) <|
   some (.v0 (o.apnd (o.apnd (o.apnd [] (o.sub a0 0 a1)) a2) (o.drop a0 (o.len (o.apnd (o.apnd [] (o.sub a0 0 a1)) a2))))))
  (some (.v0 (o.apnd (o.apnd [] (o.sub a0 0 a1)) a2)))
theorem f147_call (o : Ops) (ho : o = stdOps) (fuel : Nat) (a0 : List AV) (a1 : Int) (a2 a3 : List AV) {R : F147R} (H : f147 o fuel a0 a1 a2 a3 = some R) (K : AV → List Ent → Prop) (E : AV → List Ent → Prop) (h : K R.av (F147R.hp a3 R)) : CallA Try.prog 147 [.sl 1 a0 .no, .int .i64 a1, .sl 1 a2 .no] [.fam 0 a3] K E := by
  refine call_wk fun K' hK => ?_
  refine call_keep (n₀ := 1) tab_ok Try.func147 rfl rfl rfl rfl ?_
  intro J hJ
  obtain rfl : o = J.o := by rw [ho, hJ]; rfl
  unfold f147 at H
  cbv
  repeat' (first
    | ((with_reducible refine awp_go2 ?_); cbv)
    | (refine KeepQ.mk [] (by decide) ?_; cbv; cases H; refine hK _ _ _ _ ?_ ?_ rfl h <;> cbv)
    | (refine ifB_go H ?_ ?_ <;> clear H <;> intro hh H)
    | (refine req_go H ?_; clear H; intro hh H))
inductive F145R where
  | v0 (y0 : List AV)
def F145R.av : F145R → AV
  | .v0 y0 => .sl 1 y0 .no
def F145R.hp (a1 : List AV) (a2 a3 a4 a5 a6 a7 a8 : Int) (a9 : Bool) (a10 a11 : List AV) : F145R → List Ent
  | .v0 _ => [.fam 0 a1, .var [.vs 2 2 a2 a3 a4, .vs 3 3 a5 a6 a7, .int .i64 a8, .bool a9], .vec 2 a10, .vec 3 a11]
inductive F145L0 where
  | x0 (y0 : List AV)
noncomputable def f145_l0 (o : Ops) (fuel : Nat) (a6 a5 : Int) (a11 : List AV) (a0 : ByteArray) (a1 : List AV) (a2 a3 a4 a7 a8 : Int) (a9 : Bool) (a10 : List AV) : Nat → List AV → Int → Option F145L0
  | 0, _, _ => none
  | n + 1, w25, w26 =>
    ifB (o.cmp .lss w26 a6)
    (req (o.inb w26 a6) <|
     req (o.inb (o.sum a5 w26) (o.len a11)) <|
     getA (o.get a11 (o.sum a5 w26)) fun e => sh158 e fun v27 _ _ =>
     ifB (o.seq v27 a0)
     (req (o.inb w26 a6) <|
      req (o.inb (o.sum a5 w26) (o.len a11)) <|
      getA (o.get a11 (o.sum a5 w26)) fun e => sh158 e fun _ v31 _ =>
      req (o.inb w26 a6) <|
      req (o.inb (o.sum a5 w26) (o.len a11)) <|
      getA (o.get a11 (o.sum a5 w26)) fun e => sh158 e fun _ _ v35 =>
      bindR (f147 o fuel w25 v31 v35 a1) fun r => match r with
      | .v0 r36 => f145_l0 o fuel a6 a5 a11 a0 a1 a2 a3 a4 a7 a8 a9 a10 n r36 (o.ar .add .i64 w26 1))
     (f145_l0 o fuel a6 a5 a11 a0 a1 a2 a3 a4 a7 a8 a9 a10 n w25 (o.ar .add .i64 w26 1)))
    (some (.x0 w25))
theorem f145_l0_go {J : Jd} {n₀ : Nat} (hJ : J = std Try.prog n₀) {o : Ops} (hJo : J.o = o) {fuel : Nat} {a6 a5 : Int} {a11 : List AV} {a0 : ByteArray} {a1 : List AV} {a2 a3 a4 a7 a8 : Int} {a9 : Bool} {a10 : List AV} {w25i : List AV} {w26i : Int} {α : Type} {k : F145L0 → Option α} {r : α} {c : Code} {Q : Ex → St → Prop} {s : St}
    (H : bindR (f145_l0 o fuel a6 a5 a11 a0 a1 a2 a3 a4 a7 a8 a9 a10 fuel w25i w26i) k = some r) (hn : n₀ ≤ 4) (hle : Le s ⟨[(6, .int .i64 w26i), (5, .sl 1 w25i .no), (1, .str a0), (0, .ptr 1 0)], [.fam 0 a1, .var [.vs 2 2 a2 a3 a4, .vs 3 3 a5 a6 a7, .int .i64 a8, .bool a9], .vec 2 a10, .vec 3 a11], 55⟩)
    (round : ∀ X, k X = some r → ∀ (n : Nat) (w25 : List AV) (w26 : Int), f145_l0 o fuel a6 a5 a11 a0 a1 a2 a3 a4 a7 a8 a9 a10 (n + 1) w25 w26 = some X → ∀ N : St → Prop,
      (∀ (env : List (Nat × AV)) (w25' : List AV) (w26' : Int) (v : List Ent), f145_l0 o fuel a6 a5 a11 a0 a1 a2 a3 a4 a7 a8 a9 a10 n w25' w26' = some X → wkEnv env [(6, .int .i64 w26'), (5, .sl 1 w25' .no), (1, .str a0), (0, .ptr 1 0)] → N ⟨env, [.fam 0 a1, .var [.vs 2 2 a2 a3 a4, .vs 3 3 a5 a6 a7, .int .i64 a8, .bool a9], .vec 2 a10, .vec 3 a11] ++ v, 55⟩) → awp J tab c (thenQ N Q) ⟨[(6, .int .i64 w26), (5, .sl 1 w25 .no), (1, .str a0), (0, .ptr 1 0)], [.fam 0 a1, .var [.vs 2 2 a2 a3 a4, .vs 3 3 a5 a6 a7, .int .i64 a8, .bool a9], .vec 2 a10, .vec 3 a11], 55⟩) : J.code (.loop c) Q s := by
  subst hJo
  obtain ⟨X, hX, HX⟩ := bindR_go H
  refine loop_at (β := Nat × List AV × Int) hJ tab_ok (fun | (_, w25, w26) => ⟨[(6, .int .i64 w26), (5, .sl 1 w25 .no), (1, .str a0), (0, .ptr 1 0)], [.fam 0 a1, .var [.vs 2 2 a2 a3 a4, .vs 3 3 a5 a6 a7, .int .i64 a8, .bool a9], .vec 2 a10, .vec 3 a11], 55⟩) (fun | (n, w25, w26) => f145_l0 J.o fuel a6 a5 a11 a0 a1 a2 a3 a4 a7 a8 a9 a10 n w25 w26 = some X) (fun | (n, _, _) => n) (fuel, w25i, w26i) hX hle (by rintro ⟨_, _, _⟩; exact hn) ?_
  rintro ⟨n, w25, w26⟩ hb N hN
  rcases n with _ | n
  · exact none_go (show (none : Option F145L0) = some X from hb)
  exact round X HX n w25 w26 hb N fun env w25' w26' v h1 h2 => hN _ (n, w25', w26') h1 (Nat.lt_succ_self n) ⟨h2, by first | (cbv; done) | (cbv; repeat' (first | exact trivial | exact rfl | apply And.intro)), rfl, rfl⟩
noncomputable def f145 (o : Ops) (fuel : Nat) (a0 : ByteArray) (a1 : List AV) (a2 a3 a4 a5 a6 a7 a8 : Int) (a9 : Bool) (a10 a11 : List AV) : Option F145R :=
  bindR (f142 o fuel a0 a1 a2 a3 a4 a5 a6 a7 a8 a9 a10 a11) fun r => match r with
  | .v0 r12 => req (o.inb r12 a3) <|
    req (o.inb (o.sum a2 r12) (o.len a10)) <|
    getA (o.get a10 (o.sum a2 r12)) fun e => sh164 e fun _ v14 =>
    bindR (f145_l0 o fuel a6 a5 a11 a0 a1 a2 a3 a4 a7 a8 a9 a10 fuel v14 0) fun r => match r with
    | .x0 y37 => some (.v0 y37)
theorem f145_call (o : Ops) (ho : o = stdOps) (fuel : Nat) (a0 : ByteArray) (a1 : List AV) (a2 a3 a4 a5 a6 a7 a8 : Int) (a9 : Bool) (a10 a11 : List AV) {R : F145R} (H : f145 o fuel a0 a1 a2 a3 a4 a5 a6 a7 a8 a9 a10 a11 = some R) (K : AV → List Ent → Prop) (E : AV → List Ent → Prop) (h : K R.av (F145R.hp a1 a2 a3 a4 a5 a6 a7 a8 a9 a10 a11 R)) : CallA Try.prog 145 [.ptr 1 0, .str a0] [.fam 0 a1, .var [.vs 2 2 a2 a3 a4, .vs 3 3 a5 a6 a7, .int .i64 a8, .bool a9], .vec 2 a10, .vec 3 a11] K E := by
  refine call_wk fun K' hK => ?_
  refine call_keep (n₀ := 4) tab_ok Try.func145 rfl rfl rfl rfl ?_
  intro J hJ
  obtain rfl : o = J.o := by rw [ho, hJ]; rfl
  unfold f145 at H
  cbv
  repeat' (first
    | ((with_reducible refine awp_go2 ?_); cbv)
    | (cases H; replace H := HX0; clear HX0; (try dsimp only at H))
    | (refine KeepQ.mk [] (by decide) ?_; cbv; cases H; refine hK _ _ _ _ ?_ ?_ rfl h <;> cbv)
    | (refine hN0 _ _ _ _ H ?_; with_reducible refine wkEnv_go2 ?_; cbv)
    | (refine ifB_go H ?_ ?_ <;> clear H <;> intro hh H)
    | (refine req_go H ?_; clear H; intro hh H)
    | (refine sh158_get H ?_; clear H; intro _ _ _ he H; cbv)
    | (refine sh164_get H ?_; clear H; intro _ _ he H; cbv)
    | (obtain ⟨R, hR, H2⟩ := bindR_go H; refine call_in hJ [0] (by decide) rfl rfl rfl (f147_call _ ho _ _ _ _ _ hR _ _ ?_); clear H hR; rcases R with ⟨_⟩; all_goals (replace H := H2; clear H2; (try dsimp only at H); cbv))
    | (obtain ⟨R, hR, H2⟩ := bindR_go H; refine call_in hJ [0, 1, 2, 3] (by decide) rfl rfl rfl (f142_call _ ho _ _ _ _ _ _ _ _ _ _ _ _ _ hR _ _ ?_); clear H hR; rcases R with ⟨_⟩; all_goals (replace H := H2; clear H2; (try dsimp only at H); cbv))
    | (refine f145_l0_go hJ (o := J.o) rfl H (by decide) ⟨?_, ?_, rfl, rfl⟩ ?_
       · cbv; (repeat' (first | exact trivial | exact rfl | apply And.intro))
       · cbv; (repeat' (first | exact trivial | exact rfl | apply And.intro))
       clear H
       intro X0 HX0 n _ _ H Nx0 hN0
       rw [f145_l0] at H
       cbv))
inductive F120R where
  | v0 (y0 : Int)
def F120R.av : F120R → AV
  | .v0 y0 => .int .i64 y0
def F120R.hp (a0 : List AV) (a1 a2 a3 a4 a5 a6 a7 : Int) (a8 : Bool) (a9 a10 : List AV) : F120R → List Ent
  | .v0 _ => [.fam 0 a0, .var [.vs 2 2 a1 a2 a3, .vs 3 3 a4 a5 a6, .int .i64 a7, .bool a8], .vec 2 a9, .vec 3 a10]
inductive F120L0 where
  | x0 (y0 : Int)
noncomputable def f120_l0 (o : Ops) (fuel : Nat) (a2 a1 : Int) (a9 a0 : List AV) (a3 a4 a5 a6 a7 : Int) (a8 : Bool) (a10 : List AV) : Nat → Int → Int → Option F120L0
  | 0, _, _ => none
  | n + 1, w14, w15 =>
    ifB (o.cmp .lss w15 a2)
    (req (o.inb w15 a2) <|
     req (o.inb (o.sum a1 w15) (o.len a9)) <|
     getA (o.get a9 (o.sum a1 w15)) fun e => sh164 e fun v16 _ =>
     bindR (f145 o fuel v16 a0 a1 a2 a3 a4 a5 a6 a7 a8 a9 a10) fun r => match r with
     | .v0 r18 => f120_l0 o fuel a2 a1 a9 a0 a3 a4 a5 a6 a7 a8 a10 n (o.ar .sub .i64 w14 (o.len r18)) (o.ar .add .i64 w15 1))
    (some (.x0 w14))
theorem f120_l0_go {J : Jd} {n₀ : Nat} (hJ : J = std Try.prog n₀) {o : Ops} (hJo : J.o = o) {fuel : Nat} {a2 a1 : Int} {a9 a0 : List AV} {a3 a4 a5 a6 a7 : Int} {a8 : Bool} {a10 : List AV} {w14i : Int} {w15i : Int} {α : Type} {k : F120L0 → Option α} {r : α} {c : Code} {Q : Ex → St → Prop} {s : St}
    (H : bindR (f120_l0 o fuel a2 a1 a9 a0 a3 a4 a5 a6 a7 a8 a10 fuel w14i w15i) k = some r) (hn : n₀ ≤ 4) (hle : Le s ⟨[(4, .int .i64 w15i), (3, .int .i64 w14i), (0, .ptr 1 0)], [.fam 0 a0, .var [.vs 2 2 a1 a2 a3, .vs 3 3 a4 a5 a6, .int .i64 a7, .bool a8], .vec 2 a9, .vec 3 a10], 32⟩)
    (round : ∀ X, k X = some r → ∀ (n : Nat) (w14 : Int) (w15 : Int), f120_l0 o fuel a2 a1 a9 a0 a3 a4 a5 a6 a7 a8 a10 (n + 1) w14 w15 = some X → ∀ N : St → Prop,
      (∀ (env : List (Nat × AV)) (w14' : Int) (w15' : Int) (v : List Ent), f120_l0 o fuel a2 a1 a9 a0 a3 a4 a5 a6 a7 a8 a10 n w14' w15' = some X → wkEnv env [(4, .int .i64 w15'), (3, .int .i64 w14'), (0, .ptr 1 0)] → N ⟨env, [.fam 0 a0, .var [.vs 2 2 a1 a2 a3, .vs 3 3 a4 a5 a6, .int .i64 a7, .bool a8], .vec 2 a9, .vec 3 a10] ++ v, 32⟩) → awp J tab c (thenQ N Q) ⟨[(4, .int .i64 w15), (3, .int .i64 w14), (0, .ptr 1 0)], [.fam 0 a0, .var [.vs 2 2 a1 a2 a3, .vs 3 3 a4 a5 a6, .int .i64 a7, .bool a8], .vec 2 a9, .vec 3 a10], 32⟩) : J.code (.loop c) Q s := by
  subst hJo
  obtain ⟨X, hX, HX⟩ := bindR_go H
  refine loop_at (β := Nat × Int × Int) hJ tab_ok (fun | (_, w14, w15) => ⟨[(4, .int .i64 w15), (3, .int .i64 w14), (0, .ptr 1 0)], [.fam 0 a0, .var [.vs 2 2 a1 a2 a3, .vs 3 3 a4 a5 a6, .int .i64 a7, .bool a8], .vec 2 a9, .vec 3 a10], 32⟩) (fun | (n, w14, w15) => f120_l0 J.o fuel a2 a1 a9 a0 a3 a4 a5 a6 a7 a8 a10 n w14 w15 = some X) (fun | (n, _, _) => n) (fuel, w14i, w15i) hX hle (by rintro ⟨_, _, _⟩; exact hn) ?_
  rintro ⟨n, w14, w15⟩ hb N hN
  rcases n with _ | n
  · exact none_go (show (none : Option F120L0) = some X from hb)
  exact round X HX n w14 w15 hb N fun env w14' w15' v h1 h2 => hN _ (n, w14', w15') h1 (Nat.lt_succ_self n) ⟨h2, by first | (cbv; done) | (cbv; repeat' (first | exact trivial | exact rfl | apply And.intro)), rfl, rfl⟩
noncomputable def f120 (o : Ops) (fuel : Nat) (a0 : List AV) (a1 a2 a3 a4 a5 a6 a7 : Int) (a8 : Bool) (a9 a10 : List AV) : Option F120R :=
  bindR (f120_l0 o fuel a2 a1 a9 a0 a3 a4 a5 a6 a7 a8 a10 fuel a7 0) fun r => match r with
  | .x0 y19 => some (.v0 y19)
theorem f120_call (o : Ops) (ho : o = stdOps) (fuel : Nat) (a0 : List AV) (a1 a2 a3 a4 a5 a6 a7 : Int) (a8 : Bool) (a9 a10 : List AV) {R : F120R} (H : f120 o fuel a0 a1 a2 a3 a4 a5 a6 a7 a8 a9 a10 = some R) (K : AV → List Ent → Prop) (E : AV → List Ent → Prop) (h : K R.av (F120R.hp a0 a1 a2 a3 a4 a5 a6 a7 a8 a9 a10 R)) : CallA Try.prog 120 [.ptr 1 0] [.fam 0 a0, .var [.vs 2 2 a1 a2 a3, .vs 3 3 a4 a5 a6, .int .i64 a7, .bool a8], .vec 2 a9, .vec 3 a10] K E := by
  refine call_wk fun K' hK => ?_
  refine call_keep (n₀ := 4) tab_ok Try.func120 rfl rfl rfl rfl ?_
  intro J hJ
  obtain rfl : o = J.o := by rw [ho, hJ]; rfl
  unfold f120 at H
  cbv
  repeat' (first
    | ((with_reducible refine awp_go2 ?_); cbv)
    | (cases H; replace H := HX0; clear HX0; (try dsimp only at H))
    | (refine KeepQ.mk [] (by decide) ?_; cbv; cases H; refine hK _ _ _ _ ?_ ?_ rfl h <;> cbv)
    | (refine hN0 _ _ _ _ H ?_; with_reducible refine wkEnv_go2 ?_; cbv)
    | (refine ifB_go H ?_ ?_ <;> clear H <;> intro hh H)
    | (refine req_go H ?_; clear H; intro hh H)
    | (refine sh164_get H ?_; clear H; intro _ _ he H; cbv)
    | (obtain ⟨R, hR, H2⟩ := bindR_go H; refine call_in hJ [0, 1, 2, 3] (by decide) rfl rfl rfl (f145_call _ ho _ _ _ _ _ _ _ _ _ _ _ _ _ hR _ _ ?_); clear H hR; rcases R with ⟨_⟩; all_goals (replace H := H2; clear H2; (try dsimp only at H); cbv))
    | (refine f120_l0_go hJ (o := J.o) rfl H (by decide) ⟨?_, ?_, rfl, rfl⟩ ?_
       · cbv; (repeat' (first | exact trivial | exact rfl | apply And.intro))
       · cbv; (repeat' (first | exact trivial | exact rfl | apply And.intro))
       clear H
       intro X0 HX0 n _ _ H Nx0 hN0
       rw [f120_l0] at H
       cbv))
end Go.Proofs.Ytjdbmfipciadfaa.A
