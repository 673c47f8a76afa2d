/- Functions of the program and of the document's answer, as plain ones. Written by lift.py. -/
import Derived.Test.YtjdbmfipciadfaaSx0
import Derived.Test.YtjdbmfipciadfaaSx1
import Derived.Test.YtjdbmfipciadfaaSx3
import Derived.Test.YtjdbmfipciadfaaSx2
import Derived.Test.YtjdbmfipciadfaaSx16

namespace Go.Proofs.Ytjdbmfipciadfaa.A
open Go Go.Pt

/-! pontoon/sink.From -/
inductive F44R where
  | v0 
  | v1 (y0 : List AV) (y1 : Nat) (y2 : List AV) (y3 : List (AV × AV)) (y4 : List (AV × AV))
def F44R.av : F44R → AV
  | .v0  => .tup [.nilp, .int .i64 1]
  | .v1 _ _ _ _ _ => .tup [.ptr 0 0, .int .i64 0]
def F44R.hp (a0 : Int) (a1 : Int) : F44R → List Ent
  | .v0  => []
  | .v1 y0 y1 y2 y3 y4 => [.var [.int .i64 a0, .int .i64 a1, .sl 2 y0 (.tip 1 y1), .sl 1 y2 .no, .mp 2, .mp 3], .tip y1, .mp y3, .mp y4]
inductive F44L0 where
  | x0 
  | x1 (y0 : List (AV × AV))
noncomputable def f44_l0 (o : Ops) (fuel : Nat) (a4 : List AV) (a1 : Int) (a2 : List AV) (a3 : List AV) (a5 : List AV) (a0 : Int) (r6 : List AV) (r7 : Nat) (r8 : List AV) (r10 : List (AV × AV)) : Nat → Int → Int → List (AV × AV) → Option F44L0
  | 0, _, _, _ => none
  | n + 1, w15, w16, w17 =>
    ifB (o.cmp .lss w16 (o.len a4))
    (req (o.inb w16 (o.len a4)) <|
     getA (o.get a4 w16) fun e => sh2 e fun v18 =>
     bindR (f86 o fuel v18) fun r => match r with
     | .v0 r19 => ifB (o.pick (o.bnot r19) true (o.cmp .leq v18 w15))
       (some (.x0 ))
       (req (o.mok true [.int .i64, .int .i64] w17) <|
        f44_l0 o fuel a4 a1 a2 a3 a5 a0 r6 r7 r8 r10 n v18 (o.ar .add .i64 w16 1) (o.mput w17 (.agg [.int .i64 a1, .int .i64 v18]) (.bool true))))
    (some (.x1 w17))
theorem f44_l0_go {J : Jd} {n₀ : Nat} (hJ : J = std Try.prog n₀) {o : Ops} (hJo : J.o = o) {fuel : Nat} {a4 : List AV} {a1 : Int} {a2 : List AV} {a3 : List AV} {a5 : List AV} {a0 : Int} {r6 : List AV} {r7 : Nat} {r8 : List AV} {r10 : List (AV × AV)} {w15i : Int} {w16i : Int} {w17i : List (AV × AV)} {α : Type} {k : F44L0 → Option α} {r : α} {c : Code} {Q : Ex → St → Prop} {s : St}
    (H : bindR (f44_l0 o fuel a4 a1 a2 a3 a5 a0 r6 r7 r8 r10 fuel w15i w16i w17i) k = some r) (hn : n₀ ≤ 5) (hle : Le s ⟨[(74, .int .i64 w16i), (73, .int .i64 (o.len a4)), (72, .sl 1 a4 .no), (8, .int .i64 w15i), (6, .ptr 1 0), (3, .ptr 0 0)], [.var [.int .i64 a1, .sl 2 a2 .no, .sl 1 a3 .no, .sl 1 a4 .no, .sl 5 a5 .no], .var [.int .i64 a0, .int .i64 0, .sl 2 r6 (.tip 2 r7), .sl 1 r8 .no, .mp 3, .mp 4], .tip r7, .mp w17i, .mp r10], 158⟩)
    (round : ∀ X, k X = some r → ∀ (n : Nat) (w15 : Int) (w16 : Int) (w17 : List (AV × AV)), f44_l0 o fuel a4 a1 a2 a3 a5 a0 r6 r7 r8 r10 (n + 1) w15 w16 w17 = some X → ∀ N : St → Prop,
      (∀ (env : List (Nat × AV)) (w15' : Int) (w16' : Int) (w17' : List (AV × AV)) (v : List Ent), f44_l0 o fuel a4 a1 a2 a3 a5 a0 r6 r7 r8 r10 n w15' w16' w17' = some X → wkEnv env [(74, .int .i64 w16'), (73, .int .i64 (o.len a4)), (72, .sl 1 a4 .no), (8, .int .i64 w15'), (6, .ptr 1 0), (3, .ptr 0 0)] → N ⟨env, [.var [.int .i64 a1, .sl 2 a2 .no, .sl 1 a3 .no, .sl 1 a4 .no, .sl 5 a5 .no], .var [.int .i64 a0, .int .i64 0, .sl 2 r6 (.tip 2 r7), .sl 1 r8 .no, .mp 3, .mp 4], .tip r7, .mp w17', .mp r10] ++ v, 158⟩) → awp J tab c (thenQ N Q) ⟨[(74, .int .i64 w16), (73, .int .i64 (o.len a4)), (72, .sl 1 a4 .no), (8, .int .i64 w15), (6, .ptr 1 0), (3, .ptr 0 0)], [.var [.int .i64 a1, .sl 2 a2 .no, .sl 1 a3 .no, .sl 1 a4 .no, .sl 5 a5 .no], .var [.int .i64 a0, .int .i64 0, .sl 2 r6 (.tip 2 r7), .sl 1 r8 .no, .mp 3, .mp 4], .tip r7, .mp w17, .mp r10], 158⟩) : J.code (.loop c) Q s := by
  subst hJo
  obtain ⟨X, hX, HX⟩ := bindR_go H
  refine loop_at (β := Nat × Int × Int × List (AV × AV)) hJ tab_ok (fun | (_, w15, w16, w17) => ⟨[(74, .int .i64 w16), (73, .int .i64 (J.o.len a4)), (72, .sl 1 a4 .no), (8, .int .i64 w15), (6, .ptr 1 0), (3, .ptr 0 0)], [.var [.int .i64 a1, .sl 2 a2 .no, .sl 1 a3 .no, .sl 1 a4 .no, .sl 5 a5 .no], .var [.int .i64 a0, .int .i64 0, .sl 2 r6 (.tip 2 r7), .sl 1 r8 .no, .mp 3, .mp 4], .tip r7, .mp w17, .mp r10], 158⟩) (fun | (n, w15, w16, w17) => f44_l0 J.o fuel a4 a1 a2 a3 a5 a0 r6 r7 r8 r10 n w15 w16 w17 = some X) (fun | (n, _, _, _) => n) (fuel, w15i, w16i, w17i) hX hle (by rintro ⟨_, _, _, _⟩; exact hn) ?_
  rintro ⟨n, w15, w16, w17⟩ hb N hN
  rcases n with _ | n
  · exact none_go (show (none : Option F44L0) = some X from hb)
  exact round X HX n w15 w16 w17 hb N fun env w15' w16' w17' v h1 h2 => hN _ (n, w15', w16', w17') h1 (Nat.lt_succ_self n) ⟨h2, by first | (cbv; done) | (cbv; repeat' (first | exact trivial | exact rfl | apply And.intro)), rfl, rfl⟩

inductive F44L1 where
  | x0 
  | x1 (y0 : List (AV × AV))
noncomputable def f44_l1 (o : Ops) (fuel : Nat) (a5 : List AV) (r7 : Nat) (a0 : Int) (r6 : List AV) (r8 : List AV) (y20 : List (AV × AV)) (a1 : Int) (a2 : List AV) (a3 : List AV) (a4 : List AV) : Nat → Int → Int → List (AV × AV) → Option F44L1
  | 0, _, _, _ => none
  | n + 1, w44, w45, w46 =>
    ifB (o.cmp .lss w45 (o.len a5))
    (req (o.inb w45 (o.len a5)) <|
     getA (o.get a5 w45) fun e => sh31 e fun v47 v48 v49 v50 v51 =>
     bindR (f71 o fuel r7 v47 v48 v49 v50 v51 a0 0 r6 r8 y20 w46) fun r => match r with
     | .v0 r52 => ifB (o.bnot (o.pick (o.bnot r52) true (o.bnot (o.cmp .eql v47 a1))))
       (bindR (f73 o fuel v47 v48 v49 v50 v51) fun r => match r with
        | .v0 r53 r54 => req (o.mok true [.int .i64, .int .i64] y20) <|
          findA (o.mfind y20 (.agg [.int .i64 r53, .int .i64 r54])) (fun e => sh4 e fun v55 =>
          ifB (o.pick (o.pick (o.pick (o.bnot r52) true (o.bnot (o.cmp .eql v47 a1))) true v55) true (o.cmp .leq v48 w44))
           (some (.x0 ))
           (bindR (f73 o fuel v47 v48 v49 v50 v51) fun r => match r with
            | .v0 r56 r57 => bindR (f76 o fuel v47 v48 v49 v50 v51) fun r => match r with
              | .v0 r58 r59 r60 r61 r62 => req (o.mok true [.int .i64, .int .i64] w46) <|
                f44_l1 o fuel a5 r7 a0 r6 r8 y20 a1 a2 a3 a4 n v48 (o.ar .add .i64 w45 1) (o.mput w46 (.agg [.int .i64 r56, .int .i64 r57]) (.agg [.int .i64 r58, .int .i64 r59, .int .i64 r60, .sl 2 r61 .no, .sl 1 r62 .no]))))
          (ifB (o.pick (o.pick (o.pick (o.bnot r52) true (o.bnot (o.cmp .eql v47 a1))) true false) true (o.cmp .leq v48 w44))
           (some (.x0 ))
           (bindR (f73 o fuel v47 v48 v49 v50 v51) fun r => match r with
            | .v0 r63 r64 => bindR (f76 o fuel v47 v48 v49 v50 v51) fun r => match r with
              | .v0 r65 r66 r67 r68 r69 => req (o.mok true [.int .i64, .int .i64] w46) <|
                f44_l1 o fuel a5 r7 a0 r6 r8 y20 a1 a2 a3 a4 n v48 (o.ar .add .i64 w45 1) (o.mput w46 (.agg [.int .i64 r63, .int .i64 r64]) (.agg [.int .i64 r65, .int .i64 r66, .int .i64 r67, .sl 2 r68 .no, .sl 1 r69 .no])))))
       (some (.x0 )))
    (some (.x1 w46))
theorem f44_l1_go {J : Jd} {n₀ : Nat} (hJ : J = std Try.prog n₀) {o : Ops} (hJo : J.o = o) {fuel : Nat} {a5 : List AV} {r7 : Nat} {a0 : Int} {r6 : List AV} {r8 : List AV} {y20 : List (AV × AV)} {a1 : Int} {a2 : List AV} {a3 : List AV} {a4 : List AV} {w44i : Int} {w45i : Int} {w46i : List (AV × AV)} {α : Type} {k : F44L1 → Option α} {r : α} {c : Code} {Q : Ex → St → Prop} {s : St}
    (H : bindR (f44_l1 o fuel a5 r7 a0 r6 r8 y20 a1 a2 a3 a4 fuel w44i w45i w46i) k = some r) (hn : n₀ ≤ 5) (hle : Le s ⟨[(99, .int .i64 w45i), (98, .int .i64 (o.len a5)), (97, .sl 5 a5 .no), (8, .int .i64 w44i), (6, .ptr 1 0), (3, .ptr 0 0)], [.var [.int .i64 a1, .sl 2 a2 .no, .sl 1 a3 .no, .sl 1 a4 .no, .sl 5 a5 .no], .var [.int .i64 a0, .int .i64 0, .sl 2 r6 (.tip 2 r7), .sl 1 r8 .no, .mp 3, .mp 4], .tip r7, .mp y20, .mp w46i], 158⟩)
    (round : ∀ X, k X = some r → ∀ (n : Nat) (w44 : Int) (w45 : Int) (w46 : List (AV × AV)), f44_l1 o fuel a5 r7 a0 r6 r8 y20 a1 a2 a3 a4 (n + 1) w44 w45 w46 = some X → ∀ N : St → Prop,
      (∀ (env : List (Nat × AV)) (w44' : Int) (w45' : Int) (w46' : List (AV × AV)) (v : List Ent), f44_l1 o fuel a5 r7 a0 r6 r8 y20 a1 a2 a3 a4 n w44' w45' w46' = some X → wkEnv env [(99, .int .i64 w45'), (98, .int .i64 (o.len a5)), (97, .sl 5 a5 .no), (8, .int .i64 w44'), (6, .ptr 1 0), (3, .ptr 0 0)] → N ⟨env, [.var [.int .i64 a1, .sl 2 a2 .no, .sl 1 a3 .no, .sl 1 a4 .no, .sl 5 a5 .no], .var [.int .i64 a0, .int .i64 0, .sl 2 r6 (.tip 2 r7), .sl 1 r8 .no, .mp 3, .mp 4], .tip r7, .mp y20, .mp w46'] ++ v, 158⟩) → awp J tab c (thenQ N Q) ⟨[(99, .int .i64 w45), (98, .int .i64 (o.len a5)), (97, .sl 5 a5 .no), (8, .int .i64 w44), (6, .ptr 1 0), (3, .ptr 0 0)], [.var [.int .i64 a1, .sl 2 a2 .no, .sl 1 a3 .no, .sl 1 a4 .no, .sl 5 a5 .no], .var [.int .i64 a0, .int .i64 0, .sl 2 r6 (.tip 2 r7), .sl 1 r8 .no, .mp 3, .mp 4], .tip r7, .mp y20, .mp w46], 158⟩) : J.code (.loop c) Q s := by
  subst hJo
  obtain ⟨X, hX, HX⟩ := bindR_go H
  refine loop_at (β := Nat × Int × Int × List (AV × AV)) hJ tab_ok (fun | (_, w44, w45, w46) => ⟨[(99, .int .i64 w45), (98, .int .i64 (J.o.len a5)), (97, .sl 5 a5 .no), (8, .int .i64 w44), (6, .ptr 1 0), (3, .ptr 0 0)], [.var [.int .i64 a1, .sl 2 a2 .no, .sl 1 a3 .no, .sl 1 a4 .no, .sl 5 a5 .no], .var [.int .i64 a0, .int .i64 0, .sl 2 r6 (.tip 2 r7), .sl 1 r8 .no, .mp 3, .mp 4], .tip r7, .mp y20, .mp w46], 158⟩) (fun | (n, w44, w45, w46) => f44_l1 J.o fuel a5 r7 a0 r6 r8 y20 a1 a2 a3 a4 n w44 w45 w46 = some X) (fun | (n, _, _, _) => n) (fuel, w44i, w45i, w46i) hX hle (by rintro ⟨_, _, _, _⟩; exact hn) ?_
  rintro ⟨n, w44, w45, w46⟩ hb N hN
  rcases n with _ | n
  · exact none_go (show (none : Option F44L1) = some X from hb)
  exact round X HX n w44 w45 w46 hb N fun env w44' w45' w46' v h1 h2 => hN _ (n, w44', w45', w46') h1 (Nat.lt_succ_self n) ⟨h2, by first | (cbv; done) | (cbv; repeat' (first | exact trivial | exact rfl | apply And.intro)), rfl, rfl⟩

inductive F44L2 where
  | x0 
  | x1 (y0 : List (AV × AV))
noncomputable def f44_l2 (o : Ops) (fuel : Nat) (a4 : List AV) (a1 : Int) (a2 : List AV) (a3 : List AV) (a5 : List AV) (a0 : Int) (r6 : List AV) (r7 : Nat) (r8 : List AV) (r10 : List (AV × AV)) : Nat → Int → Int → List (AV × AV) → Option F44L2
  | 0, _, _, _ => none
  | n + 1, w76, w77, w78 =>
    ifB (o.cmp .lss w77 (o.len a4))
    (req (o.inb w77 (o.len a4)) <|
     getA (o.get a4 w77) fun e => sh2 e fun v79 =>
     bindR (f86 o fuel v79) fun r => match r with
     | .v0 r80 => ifB (o.pick (o.bnot r80) true (o.cmp .leq v79 w76))
       (some (.x0 ))
       (req (o.mok true [.int .i64, .int .i64] w78) <|
        f44_l2 o fuel a4 a1 a2 a3 a5 a0 r6 r7 r8 r10 n v79 (o.ar .add .i64 w77 1) (o.mput w78 (.agg [.int .i64 a1, .int .i64 v79]) (.bool true))))
    (some (.x1 w78))
theorem f44_l2_go {J : Jd} {n₀ : Nat} (hJ : J = std Try.prog n₀) {o : Ops} (hJo : J.o = o) {fuel : Nat} {a4 : List AV} {a1 : Int} {a2 : List AV} {a3 : List AV} {a5 : List AV} {a0 : Int} {r6 : List AV} {r7 : Nat} {r8 : List AV} {r10 : List (AV × AV)} {w76i : Int} {w77i : Int} {w78i : List (AV × AV)} {α : Type} {k : F44L2 → Option α} {r : α} {c : Code} {Q : Ex → St → Prop} {s : St}
    (H : bindR (f44_l2 o fuel a4 a1 a2 a3 a5 a0 r6 r7 r8 r10 fuel w76i w77i w78i) k = some r) (hn : n₀ ≤ 5) (hle : Le s ⟨[(74, .int .i64 w77i), (73, .int .i64 (o.len a4)), (72, .sl 1 a4 .no), (8, .int .i64 w76i), (6, .ptr 1 0), (3, .ptr 0 0)], [.var [.int .i64 a1, .sl 2 a2 .no, .sl 1 a3 .no, .sl 1 a4 .no, .sl 5 a5 .no], .var [.int .i64 a0, .int .i64 0, .sl 2 r6 (.tip 2 r7), .sl 1 r8 .no, .mp 3, .mp 4], .tip r7, .mp w78i, .mp r10], 158⟩)
    (round : ∀ X, k X = some r → ∀ (n : Nat) (w76 : Int) (w77 : Int) (w78 : List (AV × AV)), f44_l2 o fuel a4 a1 a2 a3 a5 a0 r6 r7 r8 r10 (n + 1) w76 w77 w78 = some X → ∀ N : St → Prop,
      (∀ (env : List (Nat × AV)) (w76' : Int) (w77' : Int) (w78' : List (AV × AV)) (v : List Ent), f44_l2 o fuel a4 a1 a2 a3 a5 a0 r6 r7 r8 r10 n w76' w77' w78' = some X → wkEnv env [(74, .int .i64 w77'), (73, .int .i64 (o.len a4)), (72, .sl 1 a4 .no), (8, .int .i64 w76'), (6, .ptr 1 0), (3, .ptr 0 0)] → N ⟨env, [.var [.int .i64 a1, .sl 2 a2 .no, .sl 1 a3 .no, .sl 1 a4 .no, .sl 5 a5 .no], .var [.int .i64 a0, .int .i64 0, .sl 2 r6 (.tip 2 r7), .sl 1 r8 .no, .mp 3, .mp 4], .tip r7, .mp w78', .mp r10] ++ v, 158⟩) → awp J tab c (thenQ N Q) ⟨[(74, .int .i64 w77), (73, .int .i64 (o.len a4)), (72, .sl 1 a4 .no), (8, .int .i64 w76), (6, .ptr 1 0), (3, .ptr 0 0)], [.var [.int .i64 a1, .sl 2 a2 .no, .sl 1 a3 .no, .sl 1 a4 .no, .sl 5 a5 .no], .var [.int .i64 a0, .int .i64 0, .sl 2 r6 (.tip 2 r7), .sl 1 r8 .no, .mp 3, .mp 4], .tip r7, .mp w78, .mp r10], 158⟩) : J.code (.loop c) Q s := by
  subst hJo
  obtain ⟨X, hX, HX⟩ := bindR_go H
  refine loop_at (β := Nat × Int × Int × List (AV × AV)) hJ tab_ok (fun | (_, w76, w77, w78) => ⟨[(74, .int .i64 w77), (73, .int .i64 (J.o.len a4)), (72, .sl 1 a4 .no), (8, .int .i64 w76), (6, .ptr 1 0), (3, .ptr 0 0)], [.var [.int .i64 a1, .sl 2 a2 .no, .sl 1 a3 .no, .sl 1 a4 .no, .sl 5 a5 .no], .var [.int .i64 a0, .int .i64 0, .sl 2 r6 (.tip 2 r7), .sl 1 r8 .no, .mp 3, .mp 4], .tip r7, .mp w78, .mp r10], 158⟩) (fun | (n, w76, w77, w78) => f44_l2 J.o fuel a4 a1 a2 a3 a5 a0 r6 r7 r8 r10 n w76 w77 w78 = some X) (fun | (n, _, _, _) => n) (fuel, w76i, w77i, w78i) hX hle (by rintro ⟨_, _, _, _⟩; exact hn) ?_
  rintro ⟨n, w76, w77, w78⟩ hb N hN
  rcases n with _ | n
  · exact none_go (show (none : Option F44L2) = some X from hb)
  exact round X HX n w76 w77 w78 hb N fun env w76' w77' w78' v h1 h2 => hN _ (n, w76', w77', w78') h1 (Nat.lt_succ_self n) ⟨h2, by first | (cbv; done) | (cbv; repeat' (first | exact trivial | exact rfl | apply And.intro)), rfl, rfl⟩

inductive F44L3 where
  | x0 
  | x1 (y0 : List (AV × AV))
noncomputable def f44_l3 (o : Ops) (fuel : Nat) (a5 : List AV) (r7 : Nat) (a0 : Int) (r6 : List AV) (r8 : List AV) (y81 : List (AV × AV)) (a1 : Int) (a2 : List AV) (a3 : List AV) (a4 : List AV) : Nat → Int → Int → List (AV × AV) → Option F44L3
  | 0, _, _, _ => none
  | n + 1, w105, w106, w107 =>
    ifB (o.cmp .lss w106 (o.len a5))
    (req (o.inb w106 (o.len a5)) <|
     getA (o.get a5 w106) fun e => sh31 e fun v108 v109 v110 v111 v112 =>
     bindR (f71 o fuel r7 v108 v109 v110 v111 v112 a0 0 r6 r8 y81 w107) fun r => match r with
     | .v0 r113 => ifB (o.bnot (o.pick (o.bnot r113) true (o.bnot (o.cmp .eql v108 a1))))
       (bindR (f73 o fuel v108 v109 v110 v111 v112) fun r => match r with
        | .v0 r114 r115 => req (o.mok true [.int .i64, .int .i64] y81) <|
          findA (o.mfind y81 (.agg [.int .i64 r114, .int .i64 r115])) (fun e => sh4 e fun v116 =>
          ifB (o.pick (o.pick (o.pick (o.bnot r113) true (o.bnot (o.cmp .eql v108 a1))) true v116) true (o.cmp .leq v109 w105))
           (some (.x0 ))
           (bindR (f73 o fuel v108 v109 v110 v111 v112) fun r => match r with
            | .v0 r117 r118 => bindR (f76 o fuel v108 v109 v110 v111 v112) fun r => match r with
              | .v0 r119 r120 r121 r122 r123 => req (o.mok true [.int .i64, .int .i64] w107) <|
                f44_l3 o fuel a5 r7 a0 r6 r8 y81 a1 a2 a3 a4 n v109 (o.ar .add .i64 w106 1) (o.mput w107 (.agg [.int .i64 r117, .int .i64 r118]) (.agg [.int .i64 r119, .int .i64 r120, .int .i64 r121, .sl 2 r122 .no, .sl 1 r123 .no]))))
          (ifB (o.pick (o.pick (o.pick (o.bnot r113) true (o.bnot (o.cmp .eql v108 a1))) true false) true (o.cmp .leq v109 w105))
           (some (.x0 ))
           (bindR (f73 o fuel v108 v109 v110 v111 v112) fun r => match r with
            | .v0 r124 r125 => bindR (f76 o fuel v108 v109 v110 v111 v112) fun r => match r with
              | .v0 r126 r127 r128 r129 r130 => req (o.mok true [.int .i64, .int .i64] w107) <|
                f44_l3 o fuel a5 r7 a0 r6 r8 y81 a1 a2 a3 a4 n v109 (o.ar .add .i64 w106 1) (o.mput w107 (.agg [.int .i64 r124, .int .i64 r125]) (.agg [.int .i64 r126, .int .i64 r127, .int .i64 r128, .sl 2 r129 .no, .sl 1 r130 .no])))))
       (some (.x0 )))
    (some (.x1 w107))
theorem f44_l3_go {J : Jd} {n₀ : Nat} (hJ : J = std Try.prog n₀) {o : Ops} (hJo : J.o = o) {fuel : Nat} {a5 : List AV} {r7 : Nat} {a0 : Int} {r6 : List AV} {r8 : List AV} {y81 : List (AV × AV)} {a1 : Int} {a2 : List AV} {a3 : List AV} {a4 : List AV} {w105i : Int} {w106i : Int} {w107i : List (AV × AV)} {α : Type} {k : F44L3 → Option α} {r : α} {c : Code} {Q : Ex → St → Prop} {s : St}
    (H : bindR (f44_l3 o fuel a5 r7 a0 r6 r8 y81 a1 a2 a3 a4 fuel w105i w106i w107i) k = some r) (hn : n₀ ≤ 5) (hle : Le s ⟨[(99, .int .i64 w106i), (98, .int .i64 (o.len a5)), (97, .sl 5 a5 .no), (8, .int .i64 w105i), (6, .ptr 1 0), (3, .ptr 0 0)], [.var [.int .i64 a1, .sl 2 a2 .no, .sl 1 a3 .no, .sl 1 a4 .no, .sl 5 a5 .no], .var [.int .i64 a0, .int .i64 0, .sl 2 r6 (.tip 2 r7), .sl 1 r8 .no, .mp 3, .mp 4], .tip r7, .mp y81, .mp w107i], 158⟩)
    (round : ∀ X, k X = some r → ∀ (n : Nat) (w105 : Int) (w106 : Int) (w107 : List (AV × AV)), f44_l3 o fuel a5 r7 a0 r6 r8 y81 a1 a2 a3 a4 (n + 1) w105 w106 w107 = some X → ∀ N : St → Prop,
      (∀ (env : List (Nat × AV)) (w105' : Int) (w106' : Int) (w107' : List (AV × AV)) (v : List Ent), f44_l3 o fuel a5 r7 a0 r6 r8 y81 a1 a2 a3 a4 n w105' w106' w107' = some X → wkEnv env [(99, .int .i64 w106'), (98, .int .i64 (o.len a5)), (97, .sl 5 a5 .no), (8, .int .i64 w105'), (6, .ptr 1 0), (3, .ptr 0 0)] → N ⟨env, [.var [.int .i64 a1, .sl 2 a2 .no, .sl 1 a3 .no, .sl 1 a4 .no, .sl 5 a5 .no], .var [.int .i64 a0, .int .i64 0, .sl 2 r6 (.tip 2 r7), .sl 1 r8 .no, .mp 3, .mp 4], .tip r7, .mp y81, .mp w107'] ++ v, 158⟩) → awp J tab c (thenQ N Q) ⟨[(99, .int .i64 w106), (98, .int .i64 (o.len a5)), (97, .sl 5 a5 .no), (8, .int .i64 w105), (6, .ptr 1 0), (3, .ptr 0 0)], [.var [.int .i64 a1, .sl 2 a2 .no, .sl 1 a3 .no, .sl 1 a4 .no, .sl 5 a5 .no], .var [.int .i64 a0, .int .i64 0, .sl 2 r6 (.tip 2 r7), .sl 1 r8 .no, .mp 3, .mp 4], .tip r7, .mp y81, .mp w107], 158⟩) : J.code (.loop c) Q s := by
  subst hJo
  obtain ⟨X, hX, HX⟩ := bindR_go H
  refine loop_at (β := Nat × Int × Int × List (AV × AV)) hJ tab_ok (fun | (_, w105, w106, w107) => ⟨[(99, .int .i64 w106), (98, .int .i64 (J.o.len a5)), (97, .sl 5 a5 .no), (8, .int .i64 w105), (6, .ptr 1 0), (3, .ptr 0 0)], [.var [.int .i64 a1, .sl 2 a2 .no, .sl 1 a3 .no, .sl 1 a4 .no, .sl 5 a5 .no], .var [.int .i64 a0, .int .i64 0, .sl 2 r6 (.tip 2 r7), .sl 1 r8 .no, .mp 3, .mp 4], .tip r7, .mp y81, .mp w107], 158⟩) (fun | (n, w105, w106, w107) => f44_l3 J.o fuel a5 r7 a0 r6 r8 y81 a1 a2 a3 a4 n w105 w106 w107 = some X) (fun | (n, _, _, _) => n) (fuel, w105i, w106i, w107i) hX hle (by rintro ⟨_, _, _, _⟩; exact hn) ?_
  rintro ⟨n, w105, w106, w107⟩ hb N hN
  rcases n with _ | n
  · exact none_go (show (none : Option F44L3) = some X from hb)
  exact round X HX n w105 w106 w107 hb N fun env w105' w106' w107' v h1 h2 => hN _ (n, w105', w106', w107') h1 (Nat.lt_succ_self n) ⟨h2, by first | (cbv; done) | (cbv; repeat' (first | exact trivial | exact rfl | apply And.intro)), rfl, rfl⟩

noncomputable def f44 (o : Ops) (fuel : Nat) (a0 : Int) (a1 : Int) (a2 : List AV) (a3 : List AV) (a4 : List AV) (a5 : List AV) : Option F44R :=
  bindR (f14 o fuel a0) fun r => match r with
  | .v0  => some (.v0 )
  | .v1 r6 r7 r8 r9 r10 => ifB (o.pick (o.pick (o.cmp .lss a1 0) true (o.cmp .gtr a1 9007199254740992)) true (o.cmp .gtr (o.len a2) 4096))
    (some (.v0 ))
    (bindR (f100 o fuel a3 a0) fun r => match r with
     | .v0 r11 => ifB (o.pick (o.bnot r11) true (o.cmp .gtr (o.len a5) 8))
       (some (.v0 ))
       (ifB (o.band (o.cmp .eql a1 0) (o.bnot (o.cmp .gtr (o.ar .add .i64 (o.ar .add .i64 (o.len a2) (o.len a4)) (o.len a5)) 0)))
        (bindR (f101 o fuel a3) fun r => match r with
         | .v0 r12 => ifB (o.pick (o.cmp .eql a1 0) (o.cmp .gtr r12 0) false)
           (some (.v0 ))
           (bindR (f44_l0 o fuel a4 a1 a2 a3 a5 a0 r6 r7 r8 r10 fuel 0 0 r9) fun r => match r with
            | .x0  => some (.v0 )
            | .x1 y20 => bindR (f44_l1 o fuel a5 r7 a0 r6 r8 y20 a1 a2 a3 a4 fuel 0 0 r10) fun r => match r with
              | .x0  => some (.v0 )
              | .x1 y70 => bindR (f79_1 o fuel a2) fun r => match r with
                | .v0 r71 r72 => bindR (f78 o fuel a3) fun r => match r with
                  | .v0 r73 => some (.v1 r71 r72 r73 y20 y70)))
        (ifB (o.pick (o.cmp .eql a1 0) true false)
         (some (.v0 ))
         (bindR (f44_l2 o fuel a4 a1 a2 a3 a5 a0 r6 r7 r8 r10 fuel 0 0 r9) fun r => match r with
          | .x0  => some (.v0 )
          | .x1 y81 => bindR (f44_l3 o fuel a5 r7 a0 r6 r8 y81 a1 a2 a3 a4 fuel 0 0 r10) fun r => match r with
            | .x0  => some (.v0 )
            | .x1 y131 => bindR (f79_1 o fuel a2) fun r => match r with
              | .v0 r132 r133 => bindR (f78 o fuel a3) fun r => match r with
                | .v0 r134 => some (.v1 r132 r133 r134 y81 y131)))))
set_option maxHeartbeats 4000000 in
set_option maxRecDepth 100000 in
theorem f44_call (o : Ops) (ho : o = stdOps) (fuel : Nat) (a0 : Int) (a1 : Int) (a2 : List AV) (a3 : List AV) (a4 : List AV) (a5 : List AV) {R : F44R} (H : f44 o fuel a0 a1 a2 a3 a4 a5 = some R) (K : AV → List Ent → Prop) (E : AV → List Ent → Prop) (h : K R.av (F44R.hp a0 a1 R)) : CallA Try.prog 44 [.int .i64 a0, .agg [.int .i64 a1, .sl 2 a2 .no, .sl 1 a3 .no, .sl 1 a4 .no, .sl 5 a5 .no]] [] K E := by
  refine call_wk fun K' hK => ?_
  refine call_keep (n₀ := 0) tab_ok Try.func44 rfl rfl rfl rfl ?_
  intro J hJ
  obtain rfl : o = J.o := by rw [ho, hJ]; rfl
  unfold f44 at H
  cbv
  repeat' (first
    | ((with_reducible first | refine awp_go2 ?_ | refine aops_go2 ?_ | refine strip_go2 ?_ | refine draw_go2 ?_ | refine frames_go2 ?_); cbv)
    | (with_reducible refine hold_go hJ ?_; cbv)
    | with_reducible exact id
    | exact trivial
    | with_reducible exact rfl
    | with_reducible exact ⟨_, rfl⟩
    | exact none_go H
    | (cases H; replace H := HX3; clear HX3; (try dsimp only at H))
    | (cases H; replace H := HX2; clear HX2; (try dsimp only at H))
    | (cases H; replace H := HX1; clear HX1; (try dsimp only at H))
    | (cases H; replace H := HX0; clear HX0; (try dsimp only at H))
    | (refine KeepQ.mk [] (by decide) ?_; cbv; cases H; refine hK _ _ _ _ ?_ ?_ rfl h <;> cbv)
    | (refine KeepQ.mk [1, 5, 3, 4] (by decide) ?_; cbv; cases H; refine hK _ _ _ _ ?_ ?_ rfl h <;> cbv)
    | (refine hN0 _ _ _ _ _ H ?_; with_reducible refine wkEnv_go2 ?_; cbv)
    | (refine hN1 _ _ _ _ _ H ?_; with_reducible refine wkEnv_go2 ?_; cbv)
    | (refine hN2 _ _ _ _ _ H ?_; with_reducible refine wkEnv_go2 ?_; cbv)
    | (refine hN3 _ _ _ _ _ H ?_; with_reducible refine wkEnv_go2 ?_; cbv)
    | (first | refine known_t (kn_bnot_t ho (kn_cmp ho (by decide))) ?_ | refine known_y (kn_bnot_t ho (kn_cmp ho (by decide))) ?_)
    | (first | refine known_f (kn_bnot_f ho (kn_cmp ho (by decide))) ?_ | refine known_x (kn_bnot_f ho (kn_cmp ho (by decide))) ?_)
    | (first | refine known_t (by assumption) ?_ | refine known_y (by assumption) ?_)
    | (first | refine known_f (by assumption) ?_ | refine known_x (by assumption) ?_)
    | (first | refine known_t (kn_pick_t ho (kn_pick_t ho (ku_bnot_f ho (by assumption)) rfl) rfl) ?_ | refine known_y (kn_pick_t ho (kn_pick_t ho (ku_bnot_f ho (by assumption)) rfl) rfl) ?_)
    | (refine ifB_go H ?_ ?_ <;> clear H <;> intro hh H)
    | (refine ifB_og H ?_ ?_ <;> clear H <;> intro hh H)
    | (refine req_go H ?_; clear H; intro hh H)
    | (refine gg_t ho H ?_ ?_ <;> clear H <;> intro hh H)
    | (refine gg_f ho H ?_ ?_ <;> clear H <;> intro hh H)
    | (refine bit_go ho H ?_ ?_ <;> clear H <;> intro hh H; (all_goals cbv))
    | (refine nil_go H ?_; clear H; intro b H; cbv)
    | (refine tok_go ?_; cbv)
    | (refine sh2_get H ?_; clear H; intro _ he H; cbv)
    | (refine sh2_find H ?_ ?_ <;> clear H; (intro _ H; cbv); rotate_left; (intro H; cbv))
    | (refine sh4_get H ?_; clear H; intro _ he H; cbv)
    | (refine sh4_find H ?_ ?_ <;> clear H; (intro _ H; cbv); rotate_left; (intro H; cbv))
    | (refine sh31_get H ?_; clear H; intro _ _ _ _ _ he H; cbv)
    | (refine sh31_find H ?_ ?_ <;> clear H; (intro _ _ _ _ _ H; cbv); rotate_left; (intro H; cbv))
    | (refine getA_go (β := UInt8) H ?_; clear H; intro e H; cbv)
    | (obtain ⟨R, hR, H2⟩ := bindR_go H; refine call_in hJ [] (by decide) rfl rfl rfl (f86_call _ ho _ _ hR _ _ ?_); clear H hR; rcases R with ⟨_⟩; all_goals (replace H := H2; clear H2; (try dsimp only at H); cbv))
    | (obtain ⟨R, hR, H2⟩ := bindR_go H; refine call_in hJ [] (by decide) rfl rfl rfl (f76_call _ ho _ _ _ _ _ _ hR _ _ ?_); clear H hR; rcases R with ⟨_, _, _, _, _⟩; all_goals (replace H := H2; clear H2; (try dsimp only at H); cbv))
    | (obtain ⟨R, hR, H2⟩ := bindR_go H; refine call_in hJ [] (by decide) rfl rfl rfl (f73_call _ ho _ _ _ _ _ _ hR _ _ ?_); clear H hR; rcases R with ⟨_, _⟩; all_goals (replace H := H2; clear H2; (try dsimp only at H); cbv))
    | (obtain ⟨R, hR, H2⟩ := bindR_go H; refine call_in hJ [1, 2, 3, 4] (by decide) rfl rfl rfl (f71_call _ ho _ _ _ _ _ _ _ _ _ _ _ _ _ hR _ _ ?_); clear H hR; rcases R with ⟨_⟩; all_goals (replace H := H2; clear H2; (try dsimp only at H); cbv))
    | (obtain ⟨R, hR, H2⟩ := bindR_go H; refine call_in hJ [] (by decide) rfl rfl rfl (f78_call _ ho _ _ hR _ _ ?_); clear H hR; rcases R with ⟨_⟩; all_goals (replace H := H2; clear H2; (try dsimp only at H); cbv))
    | (obtain ⟨R, hR, H2⟩ := bindR_go H; refine call_in hJ [] (by decide) rfl rfl rfl (f79_1_call _ ho _ _ hR _ _ ?_); clear H hR; rcases R with ⟨_, _⟩; all_goals (replace H := H2; clear H2; (try dsimp only at H); cbv))
    | (obtain ⟨R, hR, H2⟩ := bindR_go H; refine call_in hJ [] (by decide) rfl rfl rfl (f101_call _ ho _ _ hR _ _ ?_); clear H hR; rcases R with ⟨_⟩; all_goals (replace H := H2; clear H2; (try dsimp only at H); cbv))
    | (obtain ⟨R, hR, H2⟩ := bindR_go H; refine call_in hJ [] (by decide) rfl rfl rfl (f100_call _ ho _ _ _ hR _ _ ?_); clear H hR; rcases R with ⟨_⟩; all_goals (replace H := H2; clear H2; (try dsimp only at H); cbv))
    | (obtain ⟨R, hR, H2⟩ := bindR_go H; refine call_in hJ [] (by decide) rfl rfl rfl (f14_call _ ho _ _ hR _ _ ?_); clear H hR; rcases R with ⟨⟩ | ⟨_, _, _, _, _⟩; all_goals (replace H := H2; clear H2; (try dsimp only at H); cbv))
    | (refine f44_l0_go hJ (o := J.o) rfl H (by decide) ⟨?_, ?_, rfl, rfl⟩ ?_
       · cbv
         repeat' (first | exact trivial | exact rfl | apply And.intro)
       · cbv
         repeat' (first | exact trivial | exact rfl | apply And.intro)
       clear H
       intro X0 HX0 n _ _ _ H Nx0 hN0
       rw [f44_l0] at H
       cbv)
    | (refine f44_l1_go hJ (o := J.o) rfl H (by decide) ⟨?_, ?_, rfl, rfl⟩ ?_
       · cbv
         repeat' (first | exact trivial | exact rfl | apply And.intro)
       · cbv
         repeat' (first | exact trivial | exact rfl | apply And.intro)
       clear H
       intro X1 HX1 n _ _ _ H Nx1 hN1
       rw [f44_l1] at H
       cbv)
    | (refine f44_l2_go hJ (o := J.o) rfl H (by decide) ⟨?_, ?_, rfl, rfl⟩ ?_
       · cbv
         repeat' (first | exact trivial | exact rfl | apply And.intro)
       · cbv
         repeat' (first | exact trivial | exact rfl | apply And.intro)
       clear H
       intro X2 HX2 n _ _ _ H Nx2 hN2
       rw [f44_l2] at H
       cbv)
    | (refine f44_l3_go hJ (o := J.o) rfl H (by decide) ⟨?_, ?_, rfl, rfl⟩ ?_
       · cbv
         repeat' (first | exact trivial | exact rfl | apply And.intro)
       · cbv
         repeat' (first | exact trivial | exact rfl | apply And.intro)
       clear H
       intro X3 HX3 n _ _ _ H Nx3 hN3
       rw [f44_l3] at H
       cbv)
    | (refine lit_t ?_; cbv)
    | (refine lit_f ?_; cbv)
    | (refine known_t (by assumption) ?_)
    | (refine known_f (by assumption) ?_)
    | (refine known_x (by assumption) ?_)
    | (refine known_y (by assumption) ?_)
    | (refine known_get (by assumption) ?_; cbv)
    | (refine known_and (by assumption) ?_)
    | with_reducible refine And.intro ?_ ?_
    | (intro hh; exact hh)
    | (intro _; assumption)
    | (intro hx; first | exact tf_absurd hx (by assumption) | exact tf_absurd (by assumption) hx)
    | (intro _; clear H h; (try clear hN0); (try clear HX0); (try clear hN1); (try clear HX1); (try clear hN2); (try clear HX2); (try clear hN3); (try clear HX3); simp only [ho, stdOps] at *; simp_all)
    | (cbv; with_reducible refine hold_go hJ ?_; cbv))

end Go.Proofs.Ytjdbmfipciadfaa.A
