/- Functions of the program and of the document's answer, as plain ones. Written by lift.py. -/
import Derived.Test.YtjdbmfipciadfaaSx0
import Derived.Test.YtjdbmfipciadfaaSx3
import Derived.Test.YtjdbmfipciadfaaSkMan
import Derived.Test.YtjdbmfipciadfaaSx1

namespace Go.Proofs.Ytjdbmfipciadfaa.A
open Go Go.Pt

/-! (*pontoon/sink.Sink).Plain -/
inductive F18R where
  | v0 (y0 : Int) (y1 : List AV) (y2 : List AV) (y3 : List AV) (y4 : List AV) (y5 : List (AV × AV)) (y6 : List (AV × AV))
def F18R.av : F18R → AV
  | .v0 y0 y1 y2 y3 y4 _ _ => .agg [.int .i64 y0, .sl 2 y1 .no, .sl 1 y2 .no, .sl 1 y3 .no, .sl 5 y4 .no]
def F18R.hp (a0 : Nat) (a1 : Int) (a2 : Int) (a3 : List AV) (a4 : List AV) : F18R → List Ent
  | .v0 _ _ _ _ _ y5 y6 => [.var [.int .i64 a1, .int .i64 a2, .sl 2 a3 (.tip 1 a0), .sl 1 a4 .no, .mp 2, .mp 3], .tip a0, .mp y5, .mp y6]
inductive F18L0 where
  | x0 (y0 : List AV) (y1 : Nat)
noncomputable def f18_l0 (o : Ops) (fuel : Nat) (r10 : List AV) (a1 : Int) (a2 : Int) (a3 : List AV) (a0 : Nat) (a4 : List AV) (r11 : List (AV × AV)) (a6 : List (AV × AV)) (r8 : List AV) (r9 : List AV) : Nat → Nat → Int → List AV → Option F18L0
  | 0, _, _, _ => none
  | n + 1, w16, w17, w18 =>
    ifB (o.cmp .lss w17 (o.len r10))
    (req (o.inb w17 (o.len r10)) <|
     getA (o.get r10 w17) fun e => sh37 e fun _ v20 =>
     req (o.room w18 [.int .i64 v20] 8) <|
     f18_l0 o fuel r10 a1 a2 a3 a0 a4 r11 a6 r8 r9 n (o.padd w16 [.int .i64 v20]) (o.ar .add .i64 w17 1) (o.apnd w18 [.int .i64 v20]))
    (some (.x0 w18 w16))
theorem f18_l0_go {J : Jd} {n₀ : Nat} (hJ : J = std Try.prog n₀) {o : Ops} (hJo : J.o = o) {fuel : Nat} {r10 : List AV} {a1 : Int} {a2 : Int} {a3 : List AV} {a0 : Nat} {a4 : List AV} {r11 : List (AV × AV)} {a6 : List (AV × AV)} {r8 : List AV} {r9 : List AV} {w16i : Nat} {w17i : Int} {w18i : List AV} {α : Type} {k : F18L0 → Option α} {r : α} {c : Code} {Q : Ex → St → Prop} {s : St}
    (H : bindR (f18_l0 o fuel r10 a1 a2 a3 a0 a4 r11 a6 r8 r9 fuel w16i w17i w18i) k = some r) (hn : n₀ ≤ 7) (hle : Turn n₀ s ⟨[(32, .int .i64 w17i), (31, .int .i64 (o.len r10)), (30, .sl 2 r10 .no), (3, .ptr 5 0), (2, .ptr 4 0), (0, .ptr 0 0)], [.var [.int .i64 a1, .int .i64 a2, .sl 2 a3 (.tip 1 a0), .sl 1 a4 .no, .mp 2, .mp 3], .tip a0, .mp r11, .mp a6, .var [.int .i64 0, .nils, .nils, .nils, .nils], .var [.int .i64 a2, .sl 2 r8 .no, .sl 1 r9 .no, .sl 1 w18i (.tip 6 w16i), .nils], .tip w16i], 68⟩)
    (round : ∀ X, k X = some r → ∀ (n : Nat) (w16 : Nat) (w17 : Int) (w18 : List AV), f18_l0 o fuel r10 a1 a2 a3 a0 a4 r11 a6 r8 r9 (n + 1) w16 w17 w18 = some X → ∀ N : St → Prop,
      (∀ (env : List (Nat × AV)) (w16' : Nat) (w17' : Int) (w18' : List AV) (v : List Ent), f18_l0 o fuel r10 a1 a2 a3 a0 a4 r11 a6 r8 r9 n w16' w17' w18' = some X → wkEnv env [(32, .int .i64 w17'), (31, .int .i64 (o.len r10)), (30, .sl 2 r10 .no), (3, .ptr 5 0), (2, .ptr 4 0), (0, .ptr 0 0)] → N ⟨env, [.var [.int .i64 a1, .int .i64 a2, .sl 2 a3 (.tip 1 a0), .sl 1 a4 .no, .mp 2, .mp 3], .tip a0, .mp r11, .mp a6, .var [.int .i64 0, .nils, .nils, .nils, .nils], .var [.int .i64 a2, .sl 2 r8 .no, .sl 1 r9 .no, .sl 1 w18' (.tip 6 w16'), .nils], .tip w16'] ++ v, 68⟩) → awp J tab c (thenQ N Q) ⟨[(32, .int .i64 w17), (31, .int .i64 (o.len r10)), (30, .sl 2 r10 .no), (3, .ptr 5 0), (2, .ptr 4 0), (0, .ptr 0 0)], [.var [.int .i64 a1, .int .i64 a2, .sl 2 a3 (.tip 1 a0), .sl 1 a4 .no, .mp 2, .mp 3], .tip a0, .mp r11, .mp a6, .var [.int .i64 0, .nils, .nils, .nils, .nils], .var [.int .i64 a2, .sl 2 r8 .no, .sl 1 r9 .no, .sl 1 w18 (.tip 6 w16), .nils], .tip w16], 68⟩) : J.code (.loop c) Q s := by
  subst hJo
  obtain ⟨X, hX, HX⟩ := bindR_go H
  refine loop_turn_at (β := Nat × Nat × Int × List AV) hJ tab_ok (fun | (_, w16, w17, w18) => ⟨[(32, .int .i64 w17), (31, .int .i64 (J.o.len r10)), (30, .sl 2 r10 .no), (3, .ptr 5 0), (2, .ptr 4 0), (0, .ptr 0 0)], [.var [.int .i64 a1, .int .i64 a2, .sl 2 a3 (.tip 1 a0), .sl 1 a4 .no, .mp 2, .mp 3], .tip a0, .mp r11, .mp a6, .var [.int .i64 0, .nils, .nils, .nils, .nils], .var [.int .i64 a2, .sl 2 r8 .no, .sl 1 r9 .no, .sl 1 w18 (.tip 6 w16), .nils], .tip w16], 68⟩) (fun | (n, w16, w17, w18) => f18_l0 J.o fuel r10 a1 a2 a3 a0 a4 r11 a6 r8 r9 n w16 w17 w18 = some X) (fun | (n, _, _, _) => n) (fuel, w16i, w17i, w18i) hX hle (by rintro ⟨_, _, _, _⟩; exact hn) ?_
  rintro ⟨n, w16, w17, w18⟩ hb N hN
  rcases n with _ | n
  · exact none_go (show (none : Option F18L0) = some X from hb)
  exact round X HX n w16 w17 w18 hb N fun env w16' w17' w18' v h1 h2 => hN _ (n, w16', w17', w18') h1 (Nat.lt_succ_self n) (Turn.le ⟨h2, by cbv; repeat' (first | exact trivial | exact rfl | apply And.intro), rfl, rfl⟩ (by simp; omega))

inductive F18L1 where
  | x0 (y0 : List AV) (y1 : Nat)
noncomputable def f18_l1 (o : Ops) (fuel : Nat) (r23 : List AV) (r24 : List (AV × AV)) (a1 : Int) (a2 : Int) (a3 : List AV) (a0 : Nat) (a4 : List AV) (r11 : List (AV × AV)) (r8 : List AV) (r9 : List AV) (y21 : List AV) (y22 : Nat) : Nat → Nat → Int → List AV → Option F18L1
  | 0, _, _, _ => none
  | n + 1, w59, w60, w61 =>
    ifB (o.cmp .lss w60 (o.len r23))
    (req (o.inb w60 (o.len r23)) <|
     getA (o.get r23 w60) fun e => sh37 e fun v62 v63 =>
     req (o.mok true [.int .i64, .int .i64] r24) <|
     findA (o.mfind r24 (.agg [.int .i64 v62, .int .i64 v63])) (fun e => sh31 e fun v64 v65 v66 v67 v68 =>
     bindR (f76 o fuel v64 v65 v66 v67 v68) fun r => match r with
      | .v0 r69 r70 r71 r72 r73 => req (o.room w61 [.agg [.int .i64 r69, .int .i64 r70, .int .i64 r71, .sl 2 r72 .no, .sl 1 r73 .no]] 72) <|
        f18_l1 o fuel r23 r24 a1 a2 a3 a0 a4 r11 r8 r9 y21 y22 n (o.padd w59 [.agg [.int .i64 r69, .int .i64 r70, .int .i64 r71, .sl 2 r72 .no, .sl 1 r73 .no]]) (o.ar .add .i64 w60 1) (o.apnd w61 [.agg [.int .i64 r69, .int .i64 r70, .int .i64 r71, .sl 2 r72 .no, .sl 1 r73 .no]]))
     (bindR (f76 o fuel 0 0 0 [] []) fun r => match r with
      | .v0 r74 r75 r76 r77 r78 => req (o.room w61 [.agg [.int .i64 r74, .int .i64 r75, .int .i64 r76, .sl 2 r77 .no, .sl 1 r78 .no]] 72) <|
        f18_l1 o fuel r23 r24 a1 a2 a3 a0 a4 r11 r8 r9 y21 y22 n (o.padd w59 [.agg [.int .i64 r74, .int .i64 r75, .int .i64 r76, .sl 2 r77 .no, .sl 1 r78 .no]]) (o.ar .add .i64 w60 1) (o.apnd w61 [.agg [.int .i64 r74, .int .i64 r75, .int .i64 r76, .sl 2 r77 .no, .sl 1 r78 .no]])))
    (some (.x0 w61 w59))
theorem f18_l1_go {J : Jd} {n₀ : Nat} (hJ : J = std Try.prog n₀) {o : Ops} (hJo : J.o = o) {fuel : Nat} {r23 : List AV} {r24 : List (AV × AV)} {a1 : Int} {a2 : Int} {a3 : List AV} {a0 : Nat} {a4 : List AV} {r11 : List (AV × AV)} {r8 : List AV} {r9 : List AV} {y21 : List AV} {y22 : Nat} {w59i : Nat} {w60i : Int} {w61i : List AV} {α : Type} {k : F18L1 → Option α} {r : α} {c : Code} {Q : Ex → St → Prop} {s : St}
    (H : bindR (f18_l1 o fuel r23 r24 a1 a2 a3 a0 a4 r11 r8 r9 y21 y22 fuel w59i w60i w61i) k = some r) (hn : n₀ ≤ 8) (hle : Turn n₀ s ⟨[(50, .int .i64 w60i), (49, .int .i64 (o.len r23)), (48, .sl 2 r23 .no), (3, .ptr 5 0), (2, .ptr 4 0), (0, .ptr 0 0)], [.var [.int .i64 a1, .int .i64 a2, .sl 2 a3 (.tip 1 a0), .sl 1 a4 .no, .mp 2, .mp 3], .tip a0, .mp r11, .mp r24, .var [.int .i64 0, .nils, .nils, .nils, .nils], .var [.int .i64 a2, .sl 2 r8 .no, .sl 1 r9 .no, .sl 1 y21 (.tip 6 y22), .sl 5 w61i (.tip 7 w59i)], .tip y22, .tip w59i], 68⟩)
    (round : ∀ X, k X = some r → ∀ (n : Nat) (w59 : Nat) (w60 : Int) (w61 : List AV), f18_l1 o fuel r23 r24 a1 a2 a3 a0 a4 r11 r8 r9 y21 y22 (n + 1) w59 w60 w61 = some X → ∀ N : St → Prop,
      (∀ (env : List (Nat × AV)) (w59' : Nat) (w60' : Int) (w61' : List AV) (v : List Ent), f18_l1 o fuel r23 r24 a1 a2 a3 a0 a4 r11 r8 r9 y21 y22 n w59' w60' w61' = some X → wkEnv env [(50, .int .i64 w60'), (49, .int .i64 (o.len r23)), (48, .sl 2 r23 .no), (3, .ptr 5 0), (2, .ptr 4 0), (0, .ptr 0 0)] → N ⟨env, [.var [.int .i64 a1, .int .i64 a2, .sl 2 a3 (.tip 1 a0), .sl 1 a4 .no, .mp 2, .mp 3], .tip a0, .mp r11, .mp r24, .var [.int .i64 0, .nils, .nils, .nils, .nils], .var [.int .i64 a2, .sl 2 r8 .no, .sl 1 r9 .no, .sl 1 y21 (.tip 6 y22), .sl 5 w61' (.tip 7 w59')], .tip y22, .tip w59'] ++ v, 68⟩) → awp J tab c (thenQ N Q) ⟨[(50, .int .i64 w60), (49, .int .i64 (o.len r23)), (48, .sl 2 r23 .no), (3, .ptr 5 0), (2, .ptr 4 0), (0, .ptr 0 0)], [.var [.int .i64 a1, .int .i64 a2, .sl 2 a3 (.tip 1 a0), .sl 1 a4 .no, .mp 2, .mp 3], .tip a0, .mp r11, .mp r24, .var [.int .i64 0, .nils, .nils, .nils, .nils], .var [.int .i64 a2, .sl 2 r8 .no, .sl 1 r9 .no, .sl 1 y21 (.tip 6 y22), .sl 5 w61 (.tip 7 w59)], .tip y22, .tip w59], 68⟩) : J.code (.loop c) Q s := by
  subst hJo
  obtain ⟨X, hX, HX⟩ := bindR_go H
  refine loop_turn_at (β := Nat × Nat × Int × List AV) hJ tab_ok (fun | (_, w59, w60, w61) => ⟨[(50, .int .i64 w60), (49, .int .i64 (J.o.len r23)), (48, .sl 2 r23 .no), (3, .ptr 5 0), (2, .ptr 4 0), (0, .ptr 0 0)], [.var [.int .i64 a1, .int .i64 a2, .sl 2 a3 (.tip 1 a0), .sl 1 a4 .no, .mp 2, .mp 3], .tip a0, .mp r11, .mp r24, .var [.int .i64 0, .nils, .nils, .nils, .nils], .var [.int .i64 a2, .sl 2 r8 .no, .sl 1 r9 .no, .sl 1 y21 (.tip 6 y22), .sl 5 w61 (.tip 7 w59)], .tip y22, .tip w59], 68⟩) (fun | (n, w59, w60, w61) => f18_l1 J.o fuel r23 r24 a1 a2 a3 a0 a4 r11 r8 r9 y21 y22 n w59 w60 w61 = some X) (fun | (n, _, _, _) => n) (fuel, w59i, w60i, w61i) hX hle (by rintro ⟨_, _, _, _⟩; exact hn) ?_
  rintro ⟨n, w59, w60, w61⟩ hb N hN
  rcases n with _ | n
  · exact none_go (show (none : Option F18L1) = some X from hb)
  exact round X HX n w59 w60 w61 hb N fun env w59' w60' w61' v h1 h2 => hN _ (n, w59', w60', w61') h1 (Nat.lt_succ_self n) (Turn.le ⟨h2, by cbv; repeat' (first | exact trivial | exact rfl | apply And.intro), rfl, rfl⟩ (by simp; omega))

noncomputable def f18 (o : Ops) (fuel : Nat) (a0 : Nat) (a1 : Int) (a2 : Int) (a3 : List AV) (a4 : List AV) (a5 : List (AV × AV)) (a6 : List (AV × AV)) : Option F18R :=
  bindR (f70 o fuel a0 a1 a2 a3 a4 a5 a6) fun r => match r with
  | .v0 r7 => ifB r7
    (some (.v0 0 [] [] [] [] a5 a6))
    (bindR (f79 o fuel a3) fun r => match r with
     | .v0 r8 => bindR (f78 o fuel a4) fun r => match r with
       | .v0 r9 => bindR (f80 o fuel a5) fun r => match r with
         | .v0 r10 r11 => bindR (f18_l0 o fuel r10 a1 a2 a3 a0 a4 r11 a6 r8 r9 fuel 0 0 []) fun r => match r with
           | .x0 y21 y22 => bindR (f81 o fuel a6) fun r => match r with
             | .v0 r23 r24 => bindR (f18_l1 o fuel r23 r24 a1 a2 a3 a0 a4 r11 r8 r9 y21 y22 fuel 0 0 []) fun r => match r with
               | .x0 y79 _ => some (.v0 a2 r8 r9 y21 y79 r11 r24))
set_option maxHeartbeats 4000000 in
set_option maxRecDepth 100000 in
theorem f18_call (o : Ops) (ho : o = stdOps) (fuel : Nat) (a0 : Nat) (a1 : Int) (a2 : Int) (a3 : List AV) (a4 : List AV) (a5 : List (AV × AV)) (a6 : List (AV × AV)) {R : F18R} (H : f18 o fuel a0 a1 a2 a3 a4 a5 a6 = some R) (K : AV → List Ent → Prop) (E : AV → List Ent → Prop) (h : K R.av (F18R.hp a0 a1 a2 a3 a4 R)) : CallA Try.prog 18 [.ptr 0 0] [.var [.int .i64 a1, .int .i64 a2, .sl 2 a3 (.tip 1 a0), .sl 1 a4 .no, .mp 2, .mp 3], .tip a0, .mp a5, .mp a6] K E := by
  refine call_wk fun K' hK => ?_
  refine call_keep (n₀ := 4) tab_ok Try.func18 rfl rfl rfl rfl ?_
  intro J hJ
  obtain rfl : o = J.o := by rw [ho, hJ]; rfl
  unfold f18 at H
  cbv
  repeat' (first
    | ((with_reducible first | refine awp_go2 ?_ | refine aops_go2 ?_ | refine strip_go2 ?_ | refine draw_go2 ?_ | refine frames_go2 ?_); cbv)
    | (with_reducible refine hold_go hJ ?_; cbv)
    | with_reducible exact id
    | exact trivial
    | with_reducible exact rfl
    | with_reducible exact ⟨_, rfl⟩
    | exact none_go H
    | (cases H; replace H := HX1; clear HX1; (try dsimp only at H))
    | (cases H; replace H := HX0; clear HX0; (try dsimp only at H))
    | (refine KeepQ.mk [] (by decide) ?_; cbv; cases H; refine hK _ _ _ _ ?_ ?_ rfl h <;> cbv)
    | (refine hN0 _ _ _ _ _ H ?_; with_reducible refine wkEnv_go2 ?_; cbv)
    | (refine hN1 _ _ _ _ _ H ?_; with_reducible refine wkEnv_go2 ?_; cbv)
    | (refine ifB_go H ?_ ?_ <;> clear H <;> intro hh H)
    | (refine ifB_og H ?_ ?_ <;> clear H <;> intro hh H)
    | (refine req_go H ?_; clear H; intro hh H)
    | (refine gg_t ho H ?_ ?_ <;> clear H <;> intro hh H)
    | (refine gg_f ho H ?_ ?_ <;> clear H <;> intro hh H)
    | (refine bit_go ho H ?_ ?_ <;> clear H <;> intro hh H; (all_goals cbv))
    | (refine nil_go H ?_; clear H; intro b H; cbv)
    | (refine tok_go ?_; cbv)
    | (refine sh31_get H ?_; clear H; intro _ _ _ _ _ he H; cbv)
    | (refine sh31_find H ?_ ?_ <;> clear H; (intro _ _ _ _ _ H; cbv); rotate_left; (intro H; cbv))
    | (refine sh37_get H ?_; clear H; intro _ _ he H; cbv)
    | (refine sh37_find H ?_ ?_ <;> clear H; (intro _ _ H; cbv); rotate_left; (intro H; cbv))
    | (refine getA_go (β := UInt8) H ?_; clear H; intro e H; cbv)
    | (obtain ⟨R, hR, H2⟩ := bindR_go H; refine call_in hJ [] (by decide) rfl rfl rfl (f76_call _ ho _ _ _ _ _ _ hR _ _ ?_); clear H hR; rcases R with ⟨_, _, _, _, _⟩; all_goals (replace H := H2; clear H2; (try dsimp only at H); cbv))
    | (obtain ⟨R, hR, H2⟩ := bindR_go H; refine call_weakF hJ [.agg [.junk, .junk, .junk, .sl 2 [] .no, .sl 1 [] .no]] ?_; cbv; refine call_in hJ [] (by decide) rfl rfl rfl (f76_call _ ho _ _ _ _ _ _ hR _ _ ?_); clear H hR; rcases R with ⟨_, _, _, _, _⟩; all_goals (replace H := H2; clear H2; (try dsimp only at H); cbv))
    | (obtain ⟨R, hR, H2⟩ := bindR_go H; refine call_in hJ [3] (by decide) rfl rfl rfl (f81_call _ ho _ _ hR _ _ ?_); clear H hR; rcases R with ⟨_, _⟩; all_goals (replace H := H2; clear H2; (try dsimp only at H); cbv))
    | (obtain ⟨R, hR, H2⟩ := bindR_go H; refine call_in hJ [2] (by decide) rfl rfl rfl (f80_call _ ho _ _ hR _ _ ?_); clear H hR; rcases R with ⟨_, _⟩; all_goals (replace H := H2; clear H2; (try dsimp only at H); cbv))
    | (obtain ⟨R, hR, H2⟩ := bindR_go H; (try refine Or.inl ?_); refine pure_at hJ (r := R.av) (r' := R.av) (fun K E hk => f78_call _ ho _ _ hR K E (by rcases R with ⟨_⟩ <;> exact hk)) (fun _ => by rcases R with ⟨_⟩ <;> rfl) ?_; clear H hR; rcases R with ⟨_⟩; all_goals (replace H := H2; clear H2; (try dsimp only at H); cbv))
    | (obtain ⟨R, hR, H2⟩ := bindR_go H; (try refine Or.inl ?_); refine pure_at hJ (r := R.av) (r' := R.av) (fun K E hk => f79_call _ ho _ _ hR K E (by rcases R with ⟨_⟩ <;> exact hk)) (fun _ => by rcases R with ⟨_⟩ <;> rfl) ?_; clear H hR; rcases R with ⟨_⟩; all_goals (replace H := H2; clear H2; (try dsimp only at H); cbv))
    | (obtain ⟨R, hR, H2⟩ := bindR_go H; refine call_in hJ [0, 1, 2, 3] (by decide) rfl rfl rfl (f70_call _ ho _ _ _ _ _ _ _ _ hR _ _ ?_); clear H hR; rcases R with ⟨_⟩; all_goals (replace H := H2; clear H2; (try dsimp only at H); cbv))
    | (refine f18_l0_go hJ (o := J.o) rfl H (by decide) (Turn.trans (turn_tip 5 3 1 rfl rfl (leN_t rfl)) (Turn.le ⟨?_, ?_, rfl, rfl⟩ (leN_t rfl))) ?_
       · cbv
         repeat' (first | exact trivial | exact rfl | apply And.intro)
       · cbv
         repeat' (first | exact trivial | exact rfl | apply And.intro)
       clear H
       intro X0 HX0 n _ _ _ H Nx0 hN0
       rw [f18_l0] at H
       cbv)
    | (refine f18_l1_go hJ (o := J.o) rfl H (by decide) (Turn.trans (turn_tip 5 4 5 rfl rfl (leN_t rfl)) (Turn.le ⟨?_, ?_, rfl, rfl⟩ (leN_t rfl))) ?_
       · cbv
         repeat' (first | exact trivial | exact rfl | apply And.intro)
       · cbv
         repeat' (first | exact trivial | exact rfl | apply And.intro)
       clear H
       intro X1 HX1 n _ _ _ H Nx1 hN1
       rw [f18_l1] at H
       cbv)
    | (refine lit_t ?_; cbv)
    | (refine lit_f ?_; cbv)
    | (refine known_t (by assumption) ?_)
    | (refine known_f (by assumption) ?_)
    | (refine known_x (by assumption) ?_)
    | (refine known_y (by assumption) ?_)
    | (refine known_get (by assumption) ?_; cbv)
    | (refine known_and (by assumption) ?_)
    | with_reducible refine And.intro ?_ ?_
    | (intro hh; exact hh)
    | (intro _; assumption)
    | (intro hx; first | exact tf_absurd hx (by assumption) | exact tf_absurd (by assumption) hx)
    | (intro _; clear H h; (try clear hN0); (try clear HX0); (try clear hN1); (try clear HX1); simp only [ho, stdOps] at *; simp_all)
    | (cbv; with_reducible refine hold_go hJ ?_; cbv))

/-! pontoon/pontoonref15.New -/
inductive F19R where
  | v0 (y0 : Int) (y1 : Int) (y2 : Int) (y3 : List AV) (y4 : List AV) (y5 : List AV) (y6 : List AV)
def F19R.av : F19R → AV
  | .v0 y0 _ _ _ _ _ _ => .tup [.ptr 0 0, .int .i64 y0]
def F19R.hp : F19R → List Ent
  | .v0 _ y1 y2 y3 y4 y5 y6 => [.var [.int .i64 y1, .int .i64 y2, .sl 2 y3 .no, .sl 1 y4 .no, .sl 1 y5 .no, .sl 5 y6 .no]]
noncomputable def f19 (o : Ops) (_fuel : Nat)  : Option F19R :=
  req (o.mks 2 2 8) <|
  some (.v0 0 2 0 [] (o.rep 2 (.int .i64 0)) [] [])
set_option maxHeartbeats 4000000 in
set_option maxRecDepth 100000 in
theorem f19_call (o : Ops) (ho : o = stdOps) (fuel : Nat)  {R : F19R} (H : f19 o fuel  = some R) (K : AV → List Ent → Prop) (E : AV → List Ent → Prop) (h : K R.av R.hp) : CallA Try.prog 19 [.int .i64 2] [] K E := by
  refine call_wk fun K' hK => ?_
  refine call_keep (n₀ := 0) tab_ok Try.func19 rfl rfl rfl rfl ?_
  intro J hJ
  obtain rfl : o = J.o := by rw [ho, hJ]; rfl
  unfold f19 at H
  cbv
  repeat' (first
    | ((with_reducible first | refine awp_go2 ?_ | refine aops_go2 ?_ | refine strip_go2 ?_ | refine draw_go2 ?_ | refine frames_go2 ?_); cbv)
    | (with_reducible refine hold_go hJ ?_; cbv)
    | with_reducible exact id
    | exact trivial
    | with_reducible exact rfl
    | with_reducible exact ⟨_, rfl⟩
    | exact none_go H
    | (refine KeepQ.mk [0] (by decide) ?_; cbv; cases H; refine hK _ _ _ _ ?_ ?_ rfl h <;> cbv)
    | (first | refine known_f (kn_pick_f ho (kn_cmp ho (by decide)) (kn_cmp ho (by decide))) ?_ | refine known_x (kn_pick_f ho (kn_cmp ho (by decide)) (kn_cmp ho (by decide))) ?_)
    | (refine ifB_go H ?_ ?_ <;> clear H <;> intro hh H)
    | (refine ifB_og H ?_ ?_ <;> clear H <;> intro hh H)
    | (refine req_go H ?_; clear H; intro hh H)
    | (refine gg_t ho H ?_ ?_ <;> clear H <;> intro hh H)
    | (refine gg_f ho H ?_ ?_ <;> clear H <;> intro hh H)
    | (refine bit_go ho H ?_ ?_ <;> clear H <;> intro hh H; (all_goals cbv))
    | (refine nil_go H ?_; clear H; intro b H; cbv)
    | (refine tok_go ?_; cbv)
    | (refine getA_go (β := UInt8) H ?_; clear H; intro e H; cbv)
    | (refine lit_t ?_; cbv)
    | (refine lit_f ?_; cbv)
    | (refine known_t (by assumption) ?_)
    | (refine known_f (by assumption) ?_)
    | (refine known_x (by assumption) ?_)
    | (refine known_y (by assumption) ?_)
    | (refine known_get (by assumption) ?_; cbv)
    | (refine known_and (by assumption) ?_)
    | with_reducible refine And.intro ?_ ?_
    | (intro hh; exact hh)
    | (intro _; assumption)
    | (intro hx; first | exact tf_absurd hx (by assumption) | exact tf_absurd (by assumption) hx)
    | (intro _; clear H h; simp only [ho, stdOps] at *; simp_all)
    | (cbv; with_reducible refine hold_go hJ ?_; cbv))

/-! (*pontoon/sink.Sink).Done -/
inductive F20R where
  | v0 (y0 : Bool)
def F20R.av : F20R → AV
  | .v0 y0 => .bool y0
def F20R.hp (a0 : Nat) (a3 : Int) (a4 : Int) (a5 : List AV) (a6 : List AV) (a7 : List (AV × AV)) (a8 : List (AV × AV)) : F20R → List Ent
  | .v0 _ => [.var [.int .i64 a3, .int .i64 a4, .sl 2 a5 (.tip 1 a0), .sl 1 a6 .no, .mp 2, .mp 3], .tip a0, .mp a7, .mp a8]
noncomputable def f20 (o : Ops) (fuel : Nat) (a0 : Nat) (a1 : Int) (a2 : Int) (a3 : Int) (a4 : Int) (a5 : List AV) (a6 : List AV) (a7 : List (AV × AV)) (a8 : List (AV × AV)) : Option F20R :=
  bindR (f70 o fuel a0 a3 a4 a5 a6 a7 a8) fun r => match r with
  | .v0 r9 => ifB (o.bnot r9)
    (req (o.mok true [.int .i64, .int .i64] a7) <|
     findA (o.mfind a7 (.agg [.int .i64 a1, .int .i64 a2])) (fun e => sh4 e fun v10 =>
     some (.v0 (o.pick (o.bnot r9) v10 false)))
     (some (.v0 (o.pick (o.bnot r9) false false))))
    (some (.v0 (o.pick (o.bnot r9) false false)))
set_option maxHeartbeats 4000000 in
set_option maxRecDepth 100000 in
theorem f20_call (o : Ops) (ho : o = stdOps) (fuel : Nat) (a0 : Nat) (a1 : Int) (a2 : Int) (a3 : Int) (a4 : Int) (a5 : List AV) (a6 : List AV) (a7 : List (AV × AV)) (a8 : List (AV × AV)) {R : F20R} (H : f20 o fuel a0 a1 a2 a3 a4 a5 a6 a7 a8 = some R) (K : AV → List Ent → Prop) (E : AV → List Ent → Prop) (h : K R.av (F20R.hp a0 a3 a4 a5 a6 a7 a8 R)) : CallA Try.prog 20 [.ptr 0 0, .agg [.int .i64 a1, .int .i64 a2]] [.var [.int .i64 a3, .int .i64 a4, .sl 2 a5 (.tip 1 a0), .sl 1 a6 .no, .mp 2, .mp 3], .tip a0, .mp a7, .mp a8] K E := by
  refine call_wk fun K' hK => ?_
  refine call_keep (n₀ := 4) tab_ok Try.func20 rfl rfl rfl rfl ?_
  intro J hJ
  obtain rfl : o = J.o := by rw [ho, hJ]; rfl
  unfold f20 at H
  cbv
  repeat' (first
    | ((with_reducible first | refine awp_go2 ?_ | refine aops_go2 ?_ | refine strip_go2 ?_ | refine draw_go2 ?_ | refine frames_go2 ?_); cbv)
    | (with_reducible refine hold_go hJ ?_; cbv)
    | with_reducible exact id
    | exact trivial
    | with_reducible exact rfl
    | with_reducible exact ⟨_, rfl⟩
    | exact none_go H
    | (refine KeepQ.mk [] (by decide) ?_; cbv; cases H; refine hK _ _ _ _ ?_ ?_ rfl h <;> cbv)
    | (refine ifB_go H ?_ ?_ <;> clear H <;> intro hh H)
    | (refine ifB_og H ?_ ?_ <;> clear H <;> intro hh H)
    | (refine req_go H ?_; clear H; intro hh H)
    | (refine gg_t ho H ?_ ?_ <;> clear H <;> intro hh H)
    | (refine gg_f ho H ?_ ?_ <;> clear H <;> intro hh H)
    | (refine bit_go ho H ?_ ?_ <;> clear H <;> intro hh H; (all_goals cbv))
    | (refine nil_go H ?_; clear H; intro b H; cbv)
    | (refine tok_go ?_; cbv)
    | (refine sh4_get H ?_; clear H; intro _ he H; cbv)
    | (refine sh4_find H ?_ ?_ <;> clear H; (intro _ H; cbv); rotate_left; (intro H; cbv))
    | (refine getA_go (β := UInt8) H ?_; clear H; intro e H; cbv)
    | (obtain ⟨R, hR, H2⟩ := bindR_go H; refine call_in hJ [0, 1, 2, 3] (by decide) rfl rfl rfl (f70_call _ ho _ _ _ _ _ _ _ _ hR _ _ ?_); clear H hR; rcases R with ⟨_⟩; all_goals (replace H := H2; clear H2; (try dsimp only at H); cbv))
    | (refine lit_t ?_; cbv)
    | (refine lit_f ?_; cbv)
    | (refine known_t (by assumption) ?_)
    | (refine known_f (by assumption) ?_)
    | (refine known_x (by assumption) ?_)
    | (refine known_y (by assumption) ?_)
    | (refine known_get (by assumption) ?_; cbv)
    | (refine known_and (by assumption) ?_)
    | with_reducible refine And.intro ?_ ?_
    | (intro hh; exact hh)
    | (intro _; assumption)
    | (intro hx; first | exact tf_absurd hx (by assumption) | exact tf_absurd (by assumption) hx)
    | (intro _; clear H h; simp only [ho, stdOps] at *; simp_all)
    | (cbv; with_reducible refine hold_go hJ ?_; cbv))

/-! pontoon/pontoonref15.pos -/
inductive F82R where
  | v0 (y0 : Bool)
def F82R.av : F82R → AV
  | .v0 y0 => .bool y0
def F82R.hp : F82R → List Ent
  | .v0 _ => []
noncomputable def f82 (o : Ops) (_fuel : Nat) (a0 : Int) : Option F82R :=
  some (.v0 (o.pick (o.cmp .geq a0 1) (o.cmp .leq a0 9007199254740992) false))
set_option maxHeartbeats 4000000 in
set_option maxRecDepth 100000 in
theorem f82_call (o : Ops) (ho : o = stdOps) (fuel : Nat) (a0 : Int) {R : F82R} (H : f82 o fuel a0 = some R) (K : AV → List Ent → Prop) (E : AV → List Ent → Prop) (h : K R.av R.hp) : CallA Try.prog 82 [.int .i64 a0] [] K E := by
  refine call_wk fun K' hK => ?_
  refine call_keep (n₀ := 0) tab_ok Try.func82 rfl rfl rfl rfl ?_
  intro J hJ
  obtain rfl : o = J.o := by rw [ho, hJ]; rfl
  unfold f82 at H
  cbv
  repeat' (first
    | ((with_reducible first | refine awp_go2 ?_ | refine aops_go2 ?_ | refine strip_go2 ?_ | refine draw_go2 ?_ | refine frames_go2 ?_); cbv)
    | (with_reducible refine hold_go hJ ?_; cbv)
    | with_reducible exact id
    | exact trivial
    | with_reducible exact rfl
    | with_reducible exact ⟨_, rfl⟩
    | exact none_go H
    | (refine KeepQ.mk [] (by decide) ?_; cbv; cases H; refine hK _ _ _ _ ?_ ?_ rfl h <;> cbv)
    | (refine ifB_go H ?_ ?_ <;> clear H <;> intro hh H)
    | (refine ifB_og H ?_ ?_ <;> clear H <;> intro hh H)
    | (refine req_go H ?_; clear H; intro hh H)
    | (refine gg_t ho H ?_ ?_ <;> clear H <;> intro hh H)
    | (refine gg_f ho H ?_ ?_ <;> clear H <;> intro hh H)
    | (refine bit_go ho H ?_ ?_ <;> clear H <;> intro hh H; (all_goals cbv))
    | (refine nil_go H ?_; clear H; intro b H; cbv)
    | (refine tok_go ?_; cbv)
    | (refine getA_go (β := UInt8) H ?_; clear H; intro e H; cbv)
    | (refine lit_t ?_; cbv)
    | (refine lit_f ?_; cbv)
    | (refine known_t (by assumption) ?_)
    | (refine known_f (by assumption) ?_)
    | (refine known_x (by assumption) ?_)
    | (refine known_y (by assumption) ?_)
    | (refine known_get (by assumption) ?_; cbv)
    | (refine known_and (by assumption) ?_)
    | with_reducible refine And.intro ?_ ?_
    | (intro hh; exact hh)
    | (intro _; assumption)
    | (intro hx; first | exact tf_absurd hx (by assumption) | exact tf_absurd (by assumption) hx)
    | (intro _; clear H h; simp only [ho, stdOps] at *; simp_all)
    | (cbv; with_reducible refine hold_go hJ ?_; cbv))

/-! pontoon/pontoonref15.num -/
inductive F102R where
  | v0 (y0 : Bool)
def F102R.av : F102R → AV
  | .v0 y0 => .bool y0
def F102R.hp : F102R → List Ent
  | .v0 _ => []
noncomputable def f102 (o : Ops) (_fuel : Nat) (a0 : Int) : Option F102R :=
  some (.v0 (o.pick (o.cmp .geq a0 0) (o.cmp .leq a0 9007199254740992) false))
set_option maxHeartbeats 4000000 in
set_option maxRecDepth 100000 in
theorem f102_call (o : Ops) (ho : o = stdOps) (fuel : Nat) (a0 : Int) {R : F102R} (H : f102 o fuel a0 = some R) (K : AV → List Ent → Prop) (E : AV → List Ent → Prop) (h : K R.av R.hp) : CallA Try.prog 102 [.int .i64 a0] [] K E := by
  refine call_wk fun K' hK => ?_
  refine call_keep (n₀ := 0) tab_ok Try.func102 rfl rfl rfl rfl ?_
  intro J hJ
  obtain rfl : o = J.o := by rw [ho, hJ]; rfl
  unfold f102 at H
  cbv
  repeat' (first
    | ((with_reducible first | refine awp_go2 ?_ | refine aops_go2 ?_ | refine strip_go2 ?_ | refine draw_go2 ?_ | refine frames_go2 ?_); cbv)
    | (with_reducible refine hold_go hJ ?_; cbv)
    | with_reducible exact id
    | exact trivial
    | with_reducible exact rfl
    | with_reducible exact ⟨_, rfl⟩
    | exact none_go H
    | (refine KeepQ.mk [] (by decide) ?_; cbv; cases H; refine hK _ _ _ _ ?_ ?_ rfl h <;> cbv)
    | (refine ifB_go H ?_ ?_ <;> clear H <;> intro hh H)
    | (refine ifB_og H ?_ ?_ <;> clear H <;> intro hh H)
    | (refine req_go H ?_; clear H; intro hh H)
    | (refine gg_t ho H ?_ ?_ <;> clear H <;> intro hh H)
    | (refine gg_f ho H ?_ ?_ <;> clear H <;> intro hh H)
    | (refine bit_go ho H ?_ ?_ <;> clear H <;> intro hh H; (all_goals cbv))
    | (refine nil_go H ?_; clear H; intro b H; cbv)
    | (refine tok_go ?_; cbv)
    | (refine getA_go (β := UInt8) H ?_; clear H; intro e H; cbv)
    | (refine lit_t ?_; cbv)
    | (refine lit_f ?_; cbv)
    | (refine known_t (by assumption) ?_)
    | (refine known_f (by assumption) ?_)
    | (refine known_x (by assumption) ?_)
    | (refine known_y (by assumption) ?_)
    | (refine known_get (by assumption) ?_; cbv)
    | (refine known_and (by assumption) ?_)
    | with_reducible refine And.intro ?_ ?_
    | (intro hh; exact hh)
    | (intro _; assumption)
    | (intro hx; first | exact tf_absurd hx (by assumption) | exact tf_absurd (by assumption) hx)
    | (intro _; clear H h; simp only [ho, stdOps] at *; simp_all)
    | (cbv; with_reducible refine hold_go hJ ?_; cbv))

end Go.Proofs.Ytjdbmfipciadfaa.A
