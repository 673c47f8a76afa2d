/- Functions of the program and of the document's answer, as plain ones. Written by lift.py. -/import Derived.Test.YtjdbmfipciadfaaSy0
import Derived.Test.YtjdbmfipciadfaaSy9
namespace Go.Proofs.Ytjdbmfipciadfaa.A
open Go Go.Pt
set_option maxHeartbeats 4000000
set_option maxRecDepth 100000
inductive F143R where
  | v0 (y0 y1 y2 : Int) (y3 : List AV)
def F143R.av : F143R → AV
  | .v0 _ _ _ _ => .tup []
def F143R.hp (a2 : List AV) (a6 a7 a8 a9 : Int) (a10 : Bool) (a12 : List AV) : F143R → List Ent
  | .v0 y0 y1 y2 y3 => [.fam 0 a2, .var [.vs 4 2 y0 y1 y2, .vs 3 3 a6 a7 a8, .int .i64 a9, .bool a10], .dead, .vec 3 a12, .vec 2 y3]
inductive F143L0 where
  | x0 (y0 : Int)
noncomputable def f143_l0 (o : Ops) (fuel : Nat) (a4 a3 : Int) (a11 : List AV) (a0 : ByteArray) (a2 : List AV) (a5 a6 a7 a8 a9 : Int) (a10 : Bool) (a12 a1 : List AV) : Nat → Int → Option F143L0
  | 0, _ => none
  | n + 1, w15 =>
    ifB (o.cmp .lss w15 a4)
    (req (o.inb w15 a4) <|
     req (o.inb (o.sum a3 w15) (o.len a11)) <|
     getA (o.get a11 (o.sum a3 w15)) fun e => sh164 e fun v16 _ =>
     ifB (o.pick (o.cmp .lss w15 a4) (o.scmp .lss v16 a0) false)
     (f143_l0 o fuel a4 a3 a11 a0 a2 a5 a6 a7 a8 a9 a10 a12 a1 n (o.ar .add .i64 w15 1))
     (some (.x0 w15)))
    (some (.x0 w15))
theorem f143_l0_go {J : Jd} {n₀ : Nat} (hJ : J = std Try.prog n₀) {o : Ops} (hJo : J.o = o) {fuel : Nat} {a4 a3 : Int} {a11 : List AV} {a0 : ByteArray} {a2 : List AV} {a5 a6 a7 a8 a9 : Int} {a10 : Bool} {a12 a1 : List AV} {w15i : Int} {α : Type} {k : F143L0 → Option α} {r : α} {c : Code} {Q : Ex → St → Prop} {s : St}
    (H : bindR (f143_l0 o fuel a4 a3 a11 a0 a2 a5 a6 a7 a8 a9 a10 a12 a1 fuel w15i) k = some r) (hn : n₀ ≤ 5) (hle : Le s ⟨[(4, .int .i64 w15i), (3, .ptr 4 0), (0, .ptr 1 0)], [.fam 0 a2, .var [.vs 2 2 a3 a4 a5, .vs 3 3 a6 a7 a8, .int .i64 a9, .bool a10], .vec 2 a11, .vec 3 a12, .var [.str a0, .sl 1 a1 .no]], 50⟩)
    (round : ∀ X, k X = some r → ∀ (n : Nat) (w15 : Int), f143_l0 o fuel a4 a3 a11 a0 a2 a5 a6 a7 a8 a9 a10 a12 a1 (n + 1) w15 = some X → ∀ N : St → Prop,
      (∀ (env : List (Nat × AV)) (w15' : Int) (v : List Ent), f143_l0 o fuel a4 a3 a11 a0 a2 a5 a6 a7 a8 a9 a10 a12 a1 n w15' = some X → wkEnv env [(4, .int .i64 w15'), (3, .ptr 4 0), (0, .ptr 1 0)] → N ⟨env, [.fam 0 a2, .var [.vs 2 2 a3 a4 a5, .vs 3 3 a6 a7 a8, .int .i64 a9, .bool a10], .vec 2 a11, .vec 3 a12, .var [.str a0, .sl 1 a1 .no]] ++ v, 50⟩) → awp J tab c (thenQ N Q) ⟨[(4, .int .i64 w15), (3, .ptr 4 0), (0, .ptr 1 0)], [.fam 0 a2, .var [.vs 2 2 a3 a4 a5, .vs 3 3 a6 a7 a8, .int .i64 a9, .bool a10], .vec 2 a11, .vec 3 a12, .var [.str a0, .sl 1 a1 .no]], 50⟩) : J.code (.loop c) Q s := by
  subst hJo
  obtain ⟨X, hX, HX⟩ := bindR_go H
  refine loop_at (β := Nat × Int) hJ tab_ok (fun | (_, w15) => ⟨[(4, .int .i64 w15), (3, .ptr 4 0), (0, .ptr 1 0)], [.fam 0 a2, .var [.vs 2 2 a3 a4 a5, .vs 3 3 a6 a7 a8, .int .i64 a9, .bool a10], .vec 2 a11, .vec 3 a12, .var [.str a0, .sl 1 a1 .no]], 50⟩) (fun | (n, w15) => f143_l0 J.o fuel a4 a3 a11 a0 a2 a5 a6 a7 a8 a9 a10 a12 a1 n w15 = some X) (fun | (n, _) => n) (fuel, w15i) hX hle (by rintro ⟨_, _⟩; exact hn) ?_
  rintro ⟨n, w15⟩ hb N hN
  rcases n with _ | n
  · exact none_go (show (none : Option F143L0) = some X from hb)
  exact round X HX n w15 hb N fun env w15' v h1 h2 => hN _ (n, w15') h1 (Nat.lt_succ_self n) ⟨h2, by first | (cbv; done) | (cbv; repeat' (first | exact trivial | exact rfl | apply And.intro)), rfl, rfl⟩
noncomputable def f143 (o : Ops) (fuel : Nat) (a0 : ByteArray) (a1 a2 : List AV) (a3 a4 a5 a6 a7 a8 a9 : Int) (a10 : Bool) (a11 a12 : List AV) : Option F143R :=
  bindR (f143_l0 o fuel a4 a3 a11 a0 a2 a5 a6 a7 a8 a9 a10 a12 a1 fuel 0) fun r => match r with
  | .x0 y18 => req (o.le 0 y18) <|
    req (o.le (o.sum a3 y18) a5) <|
    req (o.le 0 a3) <|
    req (o.le 0 y18) <|
    req (o.le (o.sum a3 y18) (o.len a11)) <|
    req (o.emp []) <|
    req (o.room [] (o.sub a11 a3 (o.sum a3 y18)) 40) <|
    req (o.is 0 0) <|
    req (o.le 0 (o.len (o.sub a11 a3 (o.sum a3 y18)))) <|
    req (o.le (o.len (o.sub a11 a3 (o.sum a3 y18))) (o.len (o.sub a11 a3 (o.sum a3 y18)))) <|
    req (o.room (o.sub (o.sub a11 a3 (o.sum a3 y18)) 0 (o.len (o.sub a11 a3 (o.sum a3 y18)))) [.agg [.str a0, .sl 1 a1 .no]] 40) <|
    req (o.le 0 y18) <|
    req (o.le y18 a4) <|
    req (o.le 0 (o.sum a3 y18)) <|
    req (o.le 0 (o.dif a4 y18)) <|
    req (o.le (o.sum (o.sum a3 y18) (o.dif a4 y18)) (o.len a11)) <|
    req (o.is 0 0) <|
    req (o.le 0 (o.len (o.apnd (o.sub (o.sub a11 a3 (o.sum a3 y18)) 0 (o.len (o.sub a11 a3 (o.sum a3 y18)))) [.agg [.str a0, .sl 1 a1 .no]]))) <|
    req (o.le (o.len (o.apnd (o.sub (o.sub a11 a3 (o.sum a3 y18)) 0 (o.len (o.sub a11 a3 (o.sum a3 y18)))) [.agg [.str a0, .sl 1 a1 .no]])) (o.len (o.apnd (o.sub (o.sub a11 a3 (o.sum a3 y18)) 0 (o.len (o.sub a11 a3 (o.sum a3 y18)))) [.agg [.str a0, .sl 1 a1 .no]]))) <|
    req (o.room (o.sub (o.apnd (o.sub (o.sub a11 a3 (o.sum a3 y18)) 0 (o.len (o.sub a11 a3 (o.sum a3 y18)))) [.agg [.str a0, .sl 1 a1 .no]]) 0 (o.len (o.apnd (o.sub (o.sub a11 a3 (o.sum a3 y18)) 0 (o.len (o.sub a11 a3 (o.sum a3 y18)))) [.agg [.str a0, .sl 1 a1 .no]]))) (o.sub a11 (o.sum a3 y18) (o.sum (o.sum a3 y18) (o.dif a4 y18))) 40) <|
    some (.v0 0 (o.len (o.apnd (o.sub (o.apnd (o.sub (o.sub a11 a3 (o.sum a3 y18)) 0 (o.len (o.sub a11 a3 (o.sum a3 y18)))) [.agg [.str a0, .sl 1 a1 .no]]) 0 (o.len (o.apnd (o.sub (o.sub a11 a3 (o.sum a3 y18)) 0 (o.len (o.sub a11 a3 (o.sum a3 y18)))) [.agg [.str a0, .sl 1 a1 .no]]))) (o.sub a11 (o.sum a3 y18) (o.sum (o.sum a3 y18) (o.dif a4 y18))))) (o.len (o.apnd (o.sub (o.apnd (o.sub (o.sub a11 a3 (o.sum a3 y18)) 0 (o.len (o.sub a11 a3 (o.sum a3 y18)))) [.agg [.str a0, .sl 1 a1 .no]]) 0 (o.len (o.apnd (o.sub (o.sub a11 a3 (o.sum a3 y18)) 0 (o.len (o.sub a11 a3 (o.sum a3 y18)))) [.agg [.str a0, .sl 1 a1 .no]]))) (o.sub a11 (o.sum a3 y18) (o.sum (o.sum a3 y18) (o.dif a4 y18))))) (o.apnd (o.sub (o.apnd (o.sub (o.sub a11 a3 (o.sum a3 y18)) 0 (o.len (o.sub a11 a3 (o.sum a3 y18)))) [.agg [.str a0, .sl 1 a1 .no]]) 0 (o.len (o.apnd (o.sub (o.sub a11 a3 (o.sum a3 y18)) 0 (o.len (o.sub a11 a3 (o.sum a3 y18)))) [.agg [.str a0, .sl 1 a1 .no]]))) (o.sub a11 (o.sum a3 y18) (o.sum (o.sum a3 y18) (o.dif a4 y18)))))
theorem f143_call (o : Ops) (ho : o = stdOps) (fuel : Nat) (a0 : ByteArray) (a1 a2 : List AV) (a3 a4 a5 a6 a7 a8 a9 : Int) (a10 : Bool) (a11 a12 : List AV) {R : F143R} (H : f143 o fuel a0 a1 a2 a3 a4 a5 a6 a7 a8 a9 a10 a11 a12 = some R) (K : AV → List Ent → Prop) (E : AV → List Ent → Prop) (h : K R.av (F143R.hp a2 a6 a7 a8 a9 a10 a12 R)) : CallA Try.prog 143 [.ptr 1 0, .agg [.str a0, .sl 1 a1 .no]] [.fam 0 a2, .var [.vs 2 2 a3 a4 a5, .vs 3 3 a6 a7 a8, .int .i64 a9, .bool a10], .vec 2 a11, .vec 3 a12] K E := by
  refine call_wk fun K' hK => ?_
  refine call_keep (n₀ := 4) tab_ok Try.func143 rfl rfl rfl rfl ?_
  intro J hJ
  obtain rfl : o = J.o := by rw [ho, hJ]; rfl
  unfold f143 at H
  cbv
  repeat' (first
    | ((with_reducible first | refine awp_go2 ?_ | refine strip_go2 ?_); cbv)
    | (with_reducible refine hold_go hJ ?_; cbv)
    | with_reducible exact id
    | (cases H; replace H := HX0; clear HX0; (try dsimp only at H))
    | (refine KeepQ.tn _ (by first | exact .inl rfl | exact .inr rfl) (Turn.at 8 (turn_mvg 2 2 rfl (leN_t rfl)) rfl) [7] (by decide) ?_; cbv; cases H; refine hK _ _ _ _ ?_ ?_ rfl h <;> cbv)
    | (refine hN0 _ _ _ H ?_; with_reducible refine wkEnv_go2 ?_; cbv)
    | (first | refine known_f (kn_pick_f ho (by assumption) rfl) ?_ | refine known_x (kn_pick_f ho (by assumption) rfl) ?_)
    | (refine ifB_go H ?_ ?_ <;> clear H <;> intro hh H)
    | (with_reducible refine and3_go ?_)
    | (refine req_go H ?_; clear H; intro hh H)
    | (refine sh164_get H ?_; clear H; intro _ _ he H; cbv)
    | (refine f143_l0_go hJ (o := J.o) rfl H (by decide) ⟨?_, ?_, rfl, rfl⟩ ?_
       · cbv; (repeat' (first | exact trivial | exact rfl | apply And.intro))
       · cbv; (repeat' (first | exact trivial | exact rfl | apply And.intro))
       clear H
       intro X0 HX0 n _ H Nx0 hN0
       rw [f143_l0] at H
       cbv)
    | with_reducible refine And.intro ?_ ?_
    | (intro _; assumption)
    | (intro hx; first | exact tf_absurd hx (by assumption) | exact tf_absurd (by assumption) hx))
inductive F110R where
  | v0 (y0 y1 y2 y3 : Int) (y4 : List AV)
def F110R.av : F110R → AV
  | .v0 y0 _ _ _ _ => .int .i64 y0
def F110R.hp (a1 : List AV) (a5 a6 a7 a8 : Int) (a9 : Bool) (a11 : List AV) : F110R → List Ent
  | .v0 _ y1 y2 y3 y4 => [.fam 0 a1, .var [.vs 4 2 y1 y2 y3, .vs 3 3 a5 a6 a7, .int .i64 a8, .bool a9], .dead, .vec 3 a11, .vec 2 y4]
noncomputable def f110 (o : Ops) (fuel : Nat) (a0 : ByteArray) (a1 : List AV) (a2 a3 a4 a5 a6 a7 a8 : Int) (a9 : Bool) (a10 a11 : List AV) : Option F110R :=
  ifB a9
  (some (.v0 32 a2 a3 a4 a10))
  (ifB (o.seq a0 ⟨#[]⟩)
   (some (.v0 31 a2 a3 a4 a10))
   (bindR (f142 o fuel a0 a1 a2 a3 a4 a5 a6 a7 a8 a9 a10 a11) fun r => match r with
    | .v0 r12 => ifB (o.cmp .geq r12 0)
      (some (.v0 31 a2 a3 a4 a10))
      (ifB (o.cmp .geq a3 4096)
       (some (.v0 6 a2 a3 a4 a10))
       (bindR (f143 o fuel a0 [] a1 a2 a3 a4 a5 a6 a7 a8 a9 a10 a11) fun r => match r with
        | .v0 r13 r14 r15 r16 => some (.v0 0 r13 r14 r15 r16)))))
theorem f110_call (o : Ops) (ho : o = stdOps) (fuel : Nat) (a0 : ByteArray) (a1 : List AV) (a2 a3 a4 a5 a6 a7 a8 : Int) (a9 : Bool) (a10 a11 : List AV) {R : F110R} (H : f110 o fuel a0 a1 a2 a3 a4 a5 a6 a7 a8 a9 a10 a11 = some R) (K : AV → List Ent → Prop) (E : AV → List Ent → Prop) (h : K R.av (F110R.hp a1 a5 a6 a7 a8 a9 a11 R)) : CallA Try.prog 110 [.ptr 1 0, .str a0] [.fam 0 a1, .var [.vs 2 2 a2 a3 a4, .vs 3 3 a5 a6 a7, .int .i64 a8, .bool a9], .vec 2 a10, .vec 3 a11] K E := by
  refine call_wk fun K' hK => ?_
  refine call_keep (n₀ := 4) tab_ok Try.func110 rfl rfl rfl rfl ?_
  intro J hJ
  obtain rfl : o = J.o := by rw [ho, hJ]; rfl
  unfold f110 at H
  cbv
  repeat' (first
    | ((with_reducible first | refine awp_go2 ?_ | refine aops_go2 ?_ | refine strip_go2 ?_); cbv)
    | (refine KeepQ.tn _ (by first | exact .inl rfl | exact .inr rfl) (Turn.at 4 (turn_mv 1 0 2 2 rfl rfl rfl rfl (leN_t rfl)) rfl) [4] (by decide) ?_; cbv; cases H; refine hK _ _ _ _ ?_ ?_ rfl h <;> cbv)
    | (refine KeepQ.mk [4] (by decide) ?_; cbv; cases H; refine hK _ _ _ _ ?_ ?_ rfl h <;> cbv)
    | (refine ifB_go H ?_ ?_ <;> clear H <;> intro hh H)
    | (refine ifB_og H ?_ ?_ <;> clear H <;> intro hh H)
    | (obtain ⟨R, hR, H2⟩ := bindR_go H; refine call_weakF hJ [.junk, .agg [.junk, .sl 1 [] .no]] ?_; cbv; refine call_in hJ [0, 1, 2, 3] (by decide) rfl rfl rfl (f143_call _ ho _ _ _ _ _ _ _ _ _ _ _ _ _ _ hR _ _ ?_); clear H hR; rcases R with ⟨_, _, _, _⟩; all_goals (replace H := H2; clear H2; (try dsimp only at H); cbv))
    | (obtain ⟨R, hR, H2⟩ := bindR_go H; refine call_in hJ [0, 1, 2, 3] (by decide) rfl rfl rfl (f142_call _ ho _ _ _ _ _ _ _ _ _ _ _ _ _ hR _ _ ?_); clear H hR; rcases R with ⟨_⟩; all_goals (replace H := H2; clear H2; (try dsimp only at H); cbv))
    | with_reducible refine And.intro ?_ ?_
    | (intro _; clear H h; simp only [ho, stdOps] at *; simp_all))
inductive F144R where
  | v0 (y0 : Int)
def F144R.av : F144R → AV
  | .v0 y0 => .int .i64 y0
def F144R.hp (a1 : List AV) (a2 a3 a4 a5 a6 a7 a8 : Int) (a9 : Bool) (a10 a11 : List AV) : F144R → List Ent
  | .v0 _ => [.fam 0 a1, .var [.vs 2 2 a2 a3 a4, .vs 3 3 a5 a6 a7, .int .i64 a8, .bool a9], .vec 2 a10, .vec 3 a11]
noncomputable def f144 (o : Ops) (fuel : Nat) (a0 : ByteArray) (a1 : List AV) (a2 a3 a4 a5 a6 a7 a8 : Int) (a9 : Bool) (a10 a11 : List AV) : Option F144R :=
  ifB a9
  (some (.v0 32))
  (bindR (f142 o fuel a0 a1 a2 a3 a4 a5 a6 a7 a8 a9 a10 a11) fun r => match r with
   | .v0 r12 => ifB (o.cmp .lss r12 0)
     (some (.v0 4))
     (some (.v0 0)))
theorem f144_call (o : Ops) (ho : o = stdOps) (fuel : Nat) (a0 : ByteArray) (a1 : List AV) (a2 a3 a4 a5 a6 a7 a8 : Int) (a9 : Bool) (a10 a11 : List AV) {R : F144R} (H : f144 o fuel a0 a1 a2 a3 a4 a5 a6 a7 a8 a9 a10 a11 = some R) (K : AV → List Ent → Prop) (E : AV → List Ent → Prop) (h : K R.av (F144R.hp a1 a2 a3 a4 a5 a6 a7 a8 a9 a10 a11 R)) : CallA Try.prog 144 [.ptr 1 0, .str a0] [.fam 0 a1, .var [.vs 2 2 a2 a3 a4, .vs 3 3 a5 a6 a7, .int .i64 a8, .bool a9], .vec 2 a10, .vec 3 a11] K E := by
  refine call_wk fun K' hK => ?_
  refine call_keep (n₀ := 4) tab_ok Try.func144 rfl rfl rfl rfl ?_
  intro J hJ
  obtain rfl : o = J.o := by rw [ho, hJ]; rfl
  unfold f144 at H
  cbv
  repeat' (first
    | ((with_reducible refine awp_go2 ?_); cbv)
    | (refine KeepQ.mk [] (by decide) ?_; cbv; cases H; refine hK _ _ _ _ ?_ ?_ rfl h <;> cbv)
    | (refine ifB_go H ?_ ?_ <;> clear H <;> intro hh H)
    | (obtain ⟨R, hR, H2⟩ := bindR_go H; refine call_in hJ [0, 1, 2, 3] (by decide) rfl rfl rfl (f142_call _ ho _ _ _ _ _ _ _ _ _ _ _ _ _ hR _ _ ?_); clear H hR; rcases R with ⟨_⟩; all_goals (replace H := H2; clear H2; (try dsimp only at H); cbv)))
end Go.Proofs.Ytjdbmfipciadfaa.A
