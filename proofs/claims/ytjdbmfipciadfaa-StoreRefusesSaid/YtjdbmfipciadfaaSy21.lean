/- Functions of the program and of the document's answer, as plain ones. Written by lift.py. -/import Derived.Test.YtjdbmfipciadfaaSy0
import Derived.Test.YtjdbmfipciadfaaSy9
import Derived.Test.YtjdbmfipciadfaaSy20
import Derived.Test.YtjdbmfipciadfaaSy1
namespace Go.Proofs.Ytjdbmfipciadfaa.A
open Go Go.Pt
set_option maxHeartbeats 4000000
set_option maxRecDepth 100000
inductive F31R where
  | v0
  | v1 (y0 : List AV) (y1 y2 y3 : Int) (y4 : Bool) (y5 y6 y7 y8 y9 y10 : Int) (y11 : Bool) (y12 : List (AV × AV)) (y13 y14 y15 : List AV)
def F31R.av : F31R → AV
  | .v0  => .tup [.nilp, .nilp]
  | .v1 _ _ _ _ _ _ _ _ _ _ _ _ _ _ _ _ => .tup [.ptr 1 0, .ptr 2 0]
def F31R.hp (a0 : Int) (a2 : List AV) : F31R → List Ent
  | .v0  => [.fam 0 a2]
  | .v1 y0 y1 y2 y3 y4 y5 y6 y7 y8 y9 y10 y11 y12 y13 y14 y15 => [.fam 0 y0, .var [.int .i64 a0, .mp 3, .vs 4 3 y1 y2 y3, .bool y4], .var [.vs 5 2 y5 y6 y7, .vs 6 3 y8 y9 y10, .int .i64 a0, .bool y11], .mp y12, .vec 3 y13, .vec 2 y14, .vec 3 y15]
inductive F31L0 where
  | x0 (y0 : List AV) (y1 y2 y3 : Int) (y4 : Bool) (y5 y6 y7 y8 y9 y10 : Int) (y11 : Bool) (y12 : List (AV × AV)) (y13 y14 y15 : List AV)
noncomputable def f31_l0 (o : Ops) (fuel : Nat) (a1 : List AV) (a0 : Int) : Nat → Int → List AV → Int → Int → Int → Bool → Int → Int → Int → Int → Int → Int → Bool → List (AV × AV) → List AV → List AV → List AV → Option F31L0
  | 0, _, _, _, _, _, _, _, _, _, _, _, _, _, _, _, _, _ => none
  | n + 1, w55, w56, w57, w58, w59, w60, w61, w62, w63, w64, w65, w66, w67, w68, w69, w70, w71 =>
    ifB (o.cmp .lss w55 (o.len a1))
    (req (o.inb w55 (o.len a1)) <|
     getA (o.get a1 w55) fun e => sh71 e fun v72 v73 v74 v75 v76 v77 =>
     ifB (o.pick (o.bnot (o.cmp .eql v72 6)) (o.bnot (o.cmp .eql v72 7)) false)
     (bindR (f51 o fuel v72 v73 v74 v75 v76 v77 w56 a0 w57 w58 w59 w60 w61 w62 w63 w64 w65 w66 a0 w67 w68 w69 w70 w71) fun r => match r with
      | .v0 _ r79 r80 r81 r82 r83 r84 r85 r86 r87 r88 r89 r90 r91 r92 r93 r94 => f31_l0 o fuel a1 a0 n (o.ar .add .i64 w55 1) r79 r80 r81 r82 r83 r84 r85 r86 r87 r88 r89 r90 r91 r92 r93 r94)
     (f31_l0 o fuel a1 a0 n (o.ar .add .i64 w55 1) w56 w57 w58 w59 w60 w61 w62 w63 w64 w65 w66 w67 w68 w69 w70 w71))
    (some (.x0 w56 w57 w58 w59 w60 w61 w62 w63 w64 w65 w66 w67 w68 w69 w70 w71))
theorem f31_l0_go {J : Jd} {n₀ : Nat} (hJ : J = std Try.prog n₀) {o : Ops} (hJo : J.o = o) {fuel : Nat} {a1 : List AV} {a0 : Int} {w55i : Int} {w56i : List AV} {w57i : Int} {w58i : Int} {w59i : Int} {w60i : Bool} {w61i : Int} {w62i : Int} {w63i : Int} {w64i : Int} {w65i : Int} {w66i : Int} {w67i : Bool} {w68i : List (AV × AV)} {w69i : List AV} {w70i : List AV} {w71i : List AV} {α : Type} {k : F31L0 → Option α} {r : α} {c : Code} {Q : Ex → St → Prop} {s : St}
    (H : bindR (f31_l0 o fuel a1 a0 fuel w55i w56i w57i w58i w59i w60i w61i w62i w63i w64i w65i w66i w67i w68i w69i w70i w71i) k = some r) (hn : n₀ ≤ 7) (hle : Turn n₀ s ⟨[(34, .int .i64 w55i), (33, .int .i64 (o.len a1)), (32, .sl 6 a1 .no), (8, .ptr 2 0), (6, .ptr 1 0)], [.fam 0 w56i, .var [.int .i64 a0, .mp 3, .vs 4 3 w57i w58i w59i, .bool w60i], .var [.vs 5 2 w61i w62i w63i, .vs 6 3 w64i w65i w66i, .int .i64 a0, .bool w67i], .mp w68i, .vec 3 w69i, .vec 2 w70i, .vec 3 w71i], 53⟩)
    (round : ∀ X, k X = some r → ∀ (n : Nat) (w55 : Int) (w56 : List AV) (w57 : Int) (w58 : Int) (w59 : Int) (w60 : Bool) (w61 : Int) (w62 : Int) (w63 : Int) (w64 : Int) (w65 : Int) (w66 : Int) (w67 : Bool) (w68 : List (AV × AV)) (w69 : List AV) (w70 : List AV) (w71 : List AV), f31_l0 o fuel a1 a0 (n + 1) w55 w56 w57 w58 w59 w60 w61 w62 w63 w64 w65 w66 w67 w68 w69 w70 w71 = some X → ∀ N : St → Prop,
      (∀ (s' : St) (w55' : Int) (w56' : List AV) (w57' : Int) (w58' : Int) (w59' : Int) (w60' : Bool) (w61' : Int) (w62' : Int) (w63' : Int) (w64' : Int) (w65' : Int) (w66' : Int) (w67' : Bool) (w68' : List (AV × AV)) (w69' : List AV) (w70' : List AV) (w71' : List AV), f31_l0 o fuel a1 a0 n w55' w56' w57' w58' w59' w60' w61' w62' w63' w64' w65' w66' w67' w68' w69' w70' w71' = some X → Turn n₀ s' ⟨[(34, .int .i64 w55'), (33, .int .i64 (o.len a1)), (32, .sl 6 a1 .no), (8, .ptr 2 0), (6, .ptr 1 0)], [.fam 0 w56', .var [.int .i64 a0, .mp 3, .vs 4 3 w57' w58' w59', .bool w60'], .var [.vs 5 2 w61' w62' w63', .vs 6 3 w64' w65' w66', .int .i64 a0, .bool w67'], .mp w68', .vec 3 w69', .vec 2 w70', .vec 3 w71'], 53⟩ → N s') → awp J tab c (thenQ N Q) ⟨[(34, .int .i64 w55), (33, .int .i64 (o.len a1)), (32, .sl 6 a1 .no), (8, .ptr 2 0), (6, .ptr 1 0)], [.fam 0 w56, .var [.int .i64 a0, .mp 3, .vs 4 3 w57 w58 w59, .bool w60], .var [.vs 5 2 w61 w62 w63, .vs 6 3 w64 w65 w66, .int .i64 a0, .bool w67], .mp w68, .vec 3 w69, .vec 2 w70, .vec 3 w71], 53⟩) : J.code (.loop c) Q s := by
  subst hJo
  obtain ⟨X, hX, HX⟩ := bindR_go H
  refine loop_turn_at (β := Nat × Int × List AV × Int × Int × Int × Bool × Int × Int × Int × Int × Int × Int × Bool × List (AV × AV) × List AV × List AV × List AV) hJ tab_ok (fun | (_, w55, w56, w57, w58, w59, w60, w61, w62, w63, w64, w65, w66, w67, w68, w69, w70, w71) => ⟨[(34, .int .i64 w55), (33, .int .i64 (J.o.len a1)), (32, .sl 6 a1 .no), (8, .ptr 2 0), (6, .ptr 1 0)], [.fam 0 w56, .var [.int .i64 a0, .mp 3, .vs 4 3 w57 w58 w59, .bool w60], .var [.vs 5 2 w61 w62 w63, .vs 6 3 w64 w65 w66, .int .i64 a0, .bool w67], .mp w68, .vec 3 w69, .vec 2 w70, .vec 3 w71], 53⟩) (fun | (n, w55, w56, w57, w58, w59, w60, w61, w62, w63, w64, w65, w66, w67, w68, w69, w70, w71) => f31_l0 J.o fuel a1 a0 n w55 w56 w57 w58 w59 w60 w61 w62 w63 w64 w65 w66 w67 w68 w69 w70 w71 = some X) (fun | (n, _, _, _, _, _, _, _, _, _, _, _, _, _, _, _, _, _) => n) (fuel, w55i, w56i, w57i, w58i, w59i, w60i, w61i, w62i, w63i, w64i, w65i, w66i, w67i, w68i, w69i, w70i, w71i) hX hle (by rintro ⟨_, _, _, _, _, _, _, _, _, _, _, _, _, _, _, _, _, _⟩; exact hn) ?_
  rintro ⟨n, w55, w56, w57, w58, w59, w60, w61, w62, w63, w64, w65, w66, w67, w68, w69, w70, w71⟩ hb N hN
  rcases n with _ | n
  · exact none_go (show (none : Option F31L0) = some X from hb)
  exact round X HX n w55 w56 w57 w58 w59 w60 w61 w62 w63 w64 w65 w66 w67 w68 w69 w70 w71 hb N fun s' w55' w56' w57' w58' w59' w60' w61' w62' w63' w64' w65' w66' w67' w68' w69' w70' w71' h1 h2 => hN s' (n, w55', w56', w57', w58', w59', w60', w61', w62', w63', w64', w65', w66', w67', w68', w69', w70', w71') h1 (Nat.lt_succ_self n) h2
noncomputable def f31 (o : Ops) (fuel : Nat) (a0 : Int) (a1 a2 : List AV) : Option F31R :=
  bindR (f48 o fuel a0 a2) fun r => match r with
  | .v0  => bindR (f49 o fuel a0 a2) fun r => match r with
    | .v0  => some (.v0 )
    | .v1 _ _ => some (.v0 )
  | .v1 r5 r6 => bindR (f49 o fuel a0 a2) fun r => match r with
    | .v0  => some (.v0 )
    | .v1 r7 r8 => ifB (o.pick (o.pick (o.bnot (o.cmp .eql 0 0)) true false) true false)
      (some (.v0 ))
      (bindR (f31_l0 o fuel a1 a0 fuel 0 a2 0 0 0 false 0 0 0 0 0 0 false r5 r6 r7 r8) fun r => match r with
       | .x0 y95 y96 y97 y98 y99 y100 y101 y102 y103 y104 y105 y106 y107 y108 y109 y110 => some (.v1 y95 y96 y97 y98 y99 y100 y101 y102 y103 y104 y105 y106 y107 y108 y109 y110))
theorem f31_call (o : Ops) (ho : o = stdOps) (fuel : Nat) (a0 : Int) (a1 a2 : List AV) {R : F31R} (H : f31 o fuel a0 a1 a2 = some R) (K : AV → List Ent → Prop) (E : AV → List Ent → Prop) (h : K R.av (F31R.hp a0 a2 R)) : CallA Try.prog 31 [.int .i64 a0, .sl 6 a1 .no] [.fam 0 a2] K E := by
  refine call_wk fun K' hK => ?_
  refine call_keep (n₀ := 1) tab_ok Try.func31 rfl rfl rfl rfl ?_
  intro J hJ
  obtain rfl : o = J.o := by rw [ho, hJ]; rfl
  unfold f31 at H
  cbv
  repeat' (first
    | ((with_reducible refine awp_go2 ?_); cbv)
    | with_reducible exact id
    | (cases H; replace H := HX0; clear HX0; (try dsimp only at H))
    | (refine KeepQ.mk [] (by decide) ?_; cbv; cases H; refine hK _ _ _ _ ?_ ?_ rfl h <;> cbv)
    | (refine KeepQ.mk [1, 2, 3, 4, 5, 6] (by decide) ?_; cbv; cases H; refine hK _ _ _ _ ?_ ?_ rfl h <;> cbv)
    | (refine hN0 _ _ _ _ _ _ _ _ _ _ _ _ _ _ _ _ _ _ H (Turn.trans (Turn.pack [1, 2, 3, 4, 5, 6] (by decide) (leN_t rfl)) (Turn.le ⟨?_, ?_, rfl, rfl⟩ (leN_t rfl))) <;> (cbv; (repeat' (first | exact trivial | exact rfl | apply And.intro)); done))
    | (refine hN0 _ _ _ _ _ _ _ _ _ _ _ _ _ _ _ _ _ _ H (Turn.trans (Turn.pack [1, 2, 3, 8, 9, 10] (by decide) (leN_t rfl)) (Turn.le ⟨?_, ?_, rfl, rfl⟩ (leN_t rfl))) <;> (cbv; (repeat' (first | exact trivial | exact rfl | apply And.intro)); done))
    | (first | refine known_t (kn_pick_t ho (kn_pick_s ho rfl rfl) rfl) ?_ | refine known_y (kn_pick_t ho (kn_pick_s ho rfl rfl) rfl) ?_)
    | (first | refine known_t (kn_pick_s ho rfl rfl) ?_ | refine known_y (kn_pick_s ho rfl rfl) ?_)
    | (refine ifB_go H ?_ ?_ <;> clear H <;> intro hh H)
    | (refine req_go H ?_; clear H; intro hh H)
    | (refine sh71_get H ?_; clear H; intro _ _ _ _ _ _ he H; cbv)
    | (obtain ⟨R, hR, H2⟩ := bindR_go H; refine call_in hJ [0] (by decide) rfl rfl rfl (f49_call _ ho _ _ _ hR _ _ ?_); clear H hR; rcases R with ⟨⟩ | ⟨_, _⟩; all_goals (replace H := H2; clear H2; (try dsimp only at H); cbv))
    | (obtain ⟨R, hR, H2⟩ := bindR_go H; refine call_in hJ [0, 1, 2, 3, 4, 5, 6] (by decide) rfl rfl rfl (f51_call _ ho _ _ _ _ _ _ _ _ _ _ _ _ _ _ _ _ _ _ _ _ _ _ _ _ _ hR _ _ ?_); clear H hR; rcases R with ⟨_, _, _, _, _, _, _, _, _, _, _, _, _, _, _, _, _⟩; all_goals (replace H := H2; clear H2; (try dsimp only at H); cbv))
    | (obtain ⟨R, hR, H2⟩ := bindR_go H; refine call_in hJ [0] (by decide) rfl rfl rfl (f48_call _ ho _ _ _ hR _ _ ?_); clear H hR; rcases R with ⟨⟩ | ⟨_, _⟩; all_goals (replace H := H2; clear H2; (try dsimp only at H); cbv))
    | (refine f31_l0_go hJ (o := J.o) rfl H (by decide) (Turn.trans (Turn.pack [1, 4, 2, 3, 5, 6] (by decide) (leN_t rfl)) (Turn.le ⟨?_, ?_, rfl, rfl⟩ (leN_t rfl))) ?_
       · cbv; (repeat' (first | exact trivial | exact rfl | apply And.intro))
       · cbv; (repeat' (first | exact trivial | exact rfl | apply And.intro))
       clear H
       intro X0 HX0 n _ _ _ _ _ _ _ _ _ _ _ _ _ _ _ _ _ H Nx0 hN0
       rw [f31_l0] at H
       cbv)
    | with_reducible refine And.intro ?_ ?_)
end Go.Proofs.Ytjdbmfipciadfaa.A
