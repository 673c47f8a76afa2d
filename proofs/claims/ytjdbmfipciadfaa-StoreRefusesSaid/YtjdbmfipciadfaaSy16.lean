/- Functions of the program and of the document's answer, as plain ones. Written by lift.py. -/import Derived.Test.YtjdbmfipciadfaaSy0
import Derived.Test.YtjdbmfipciadfaaSy10
import Derived.Test.YtjdbmfipciadfaaSy9
import Derived.Test.YtjdbmfipciadfaaSy15
namespace Go.Proofs.Ytjdbmfipciadfaa.A
open Go Go.Pt
set_option maxHeartbeats 4000000
set_option maxRecDepth 100000
inductive F114R where
  | v0 (y0 y1 y2 y3 y4 y5 y6 : Int) (y7 y8 : List AV)
def F114R.av : F114R → AV
  | .v0 y0 _ _ _ _ _ _ _ _ => .int .i64 y0
def F114R.hp (a2 : List AV) (a9 : Int) (a10 : Bool) : F114R → List Ent
  | .v0 _ y1 y2 y3 y4 y5 y6 y7 y8 => [.fam 0 a2, .var [.vs 4 2 y1 y2 y3, .vs 5 3 y4 y5 y6, .int .i64 a9, .bool a10], .dead, .dead, .vec 2 y7, .vec 3 y8]
inductive F114L0 where
  | x0 (y0 y1 : Int) (y2 : List AV)
noncomputable def f114_l0 (o : Ops) (fuel : Nat) (r20 r19 : Int) (r23 : List AV) (a0 a1 : ByteArray) (a2 : List AV) (r27 r28 r29 r21 a9 : Int) (a10 : Bool) (r30 : List AV) : Nat → Int → Int → Int → List AV → Option F114L0
  | 0, _, _, _, _ => none
  | n + 1, w40, w41, w42, w43 =>
    ifB (o.cmp .lss w42 r20)
    (req (o.inb w42 r20) <|
     req (o.inb (o.sum r19 w42) (o.len r23)) <|
     getA (o.get r23 (o.sum r19 w42)) fun e => sh158 e fun v44 v45 v46 =>
     ifB (o.seq v44 a0)
     (req (o.is 0 0) <|
      req (o.le 0 w40) <|
      req (o.le w40 (o.len w43)) <|
      req (o.room (o.sub w43 0 w40) [.agg [.str a1, .int .i64 v45, .sl 1 v46 .no]] 48) <|
      f114_l0 o fuel r20 r19 r23 a0 a1 a2 r27 r28 r29 r21 a9 a10 r30 n (o.len (o.apnd (o.sub w43 0 w40) [.agg [.str a1, .int .i64 v45, .sl 1 v46 .no]])) (o.len (o.apnd (o.sub w43 0 w40) [.agg [.str a1, .int .i64 v45, .sl 1 v46 .no]])) (o.ar .add .i64 w42 1) (o.apnd (o.sub w43 0 w40) [.agg [.str a1, .int .i64 v45, .sl 1 v46 .no]]))
     (req (o.is 0 0) <|
      req (o.le 0 w40) <|
      req (o.le w40 (o.len w43)) <|
      req (o.room (o.sub w43 0 w40) [.agg [.str v44, .int .i64 v45, .sl 1 v46 .no]] 48) <|
      f114_l0 o fuel r20 r19 r23 a0 a1 a2 r27 r28 r29 r21 a9 a10 r30 n (o.len (o.apnd (o.sub w43 0 w40) [.agg [.str v44, .int .i64 v45, .sl 1 v46 .no]])) (o.len (o.apnd (o.sub w43 0 w40) [.agg [.str v44, .int .i64 v45, .sl 1 v46 .no]])) (o.ar .add .i64 w42 1) (o.apnd (o.sub w43 0 w40) [.agg [.str v44, .int .i64 v45, .sl 1 v46 .no]])))
    (some (.x0 w40 w41 w43))
theorem f114_l0_go {J : Jd} {n₀ : Nat} (hJ : J = std Try.prog n₀) {o : Ops} (hJo : J.o = o) {fuel : Nat} {r20 r19 : Int} {r23 : List AV} {a0 a1 : ByteArray} {a2 : List AV} {r27 r28 r29 r21 a9 : Int} {a10 : Bool} {r30 : List AV} {w40i : Int} {w41i : Int} {w42i : Int} {w43i : List AV} {α : Type} {k : F114L0 → Option α} {r : α} {c : Code} {Q : Ex → St → Prop} {s : St}
    (H : bindR (f114_l0 o fuel r20 r19 r23 a0 a1 a2 r27 r28 r29 r21 a9 a10 r30 fuel w40i w41i w42i w43i) k = some r) (hn : n₀ ≤ 7) (hle : Turn n₀ s ⟨[(12, .int .i64 w42i), (11, .vs 4 3 0 w40i w41i), (2, .str a1), (1, .str a0), (0, .ptr 1 0)], [.fam 0 a2, .var [.vs 5 2 r27 r28 r29, .vs 6 3 r19 r20 r21, .int .i64 a9, .bool a10], .dead, .dead, .vec 3 w43i, .vec 2 r30, .vec 3 r23], 97⟩)
    (round : ∀ X, k X = some r → ∀ (n : Nat) (w40 : Int) (w41 : Int) (w42 : Int) (w43 : List AV), f114_l0 o fuel r20 r19 r23 a0 a1 a2 r27 r28 r29 r21 a9 a10 r30 (n + 1) w40 w41 w42 w43 = some X → ∀ N : St → Prop,
      (∀ (s' : St) (w40' : Int) (w41' : Int) (w42' : Int) (w43' : List AV), f114_l0 o fuel r20 r19 r23 a0 a1 a2 r27 r28 r29 r21 a9 a10 r30 n w40' w41' w42' w43' = some X → Turn n₀ s' ⟨[(12, .int .i64 w42'), (11, .vs 4 3 0 w40' w41'), (2, .str a1), (1, .str a0), (0, .ptr 1 0)], [.fam 0 a2, .var [.vs 5 2 r27 r28 r29, .vs 6 3 r19 r20 r21, .int .i64 a9, .bool a10], .dead, .dead, .vec 3 w43', .vec 2 r30, .vec 3 r23], 97⟩ → N s') → awp J tab c (thenQ N Q) ⟨[(12, .int .i64 w42), (11, .vs 4 3 0 w40 w41), (2, .str a1), (1, .str a0), (0, .ptr 1 0)], [.fam 0 a2, .var [.vs 5 2 r27 r28 r29, .vs 6 3 r19 r20 r21, .int .i64 a9, .bool a10], .dead, .dead, .vec 3 w43, .vec 2 r30, .vec 3 r23], 97⟩) : J.code (.loop c) Q s := by
  subst hJo
  obtain ⟨X, hX, HX⟩ := bindR_go H
  refine loop_turn_at (β := Nat × Int × Int × Int × List AV) hJ tab_ok (fun | (_, w40, w41, w42, w43) => ⟨[(12, .int .i64 w42), (11, .vs 4 3 0 w40 w41), (2, .str a1), (1, .str a0), (0, .ptr 1 0)], [.fam 0 a2, .var [.vs 5 2 r27 r28 r29, .vs 6 3 r19 r20 r21, .int .i64 a9, .bool a10], .dead, .dead, .vec 3 w43, .vec 2 r30, .vec 3 r23], 97⟩) (fun | (n, w40, w41, w42, w43) => f114_l0 J.o fuel r20 r19 r23 a0 a1 a2 r27 r28 r29 r21 a9 a10 r30 n w40 w41 w42 w43 = some X) (fun | (n, _, _, _, _) => n) (fuel, w40i, w41i, w42i, w43i) hX hle (by rintro ⟨_, _, _, _, _⟩; exact hn) ?_
  rintro ⟨n, w40, w41, w42, w43⟩ hb N hN
  rcases n with _ | n
  · exact none_go (show (none : Option F114L0) = some X from hb)
  exact round X HX n w40 w41 w42 w43 hb N fun s' w40' w41' w42' w43' h1 h2 => hN s' (n, w40', w41', w42', w43') h1 (Nat.lt_succ_self n) h2
inductive F114L1 where
  | x0 (y0 y1 : Int) (y2 : List AV)
noncomputable def f114_l1 (o : Ops) (fuel : Nat) (a7 a6 : Int) (a12 : List AV) (a0 a1 : ByteArray) (a2 : List AV) (r53 r54 r55 a8 a9 : Int) (a10 : Bool) (a11 r56 : List AV) : Nat → Int → Int → Int → List AV → Option F114L1
  | 0, _, _, _, _ => none
  | n + 1, w66, w67, w68, w69 =>
    ifB (o.cmp .lss w68 a7)
    (req (o.inb w68 a7) <|
     req (o.inb (o.sum a6 w68) (o.len a12)) <|
     getA (o.get a12 (o.sum a6 w68)) fun e => sh158 e fun v70 v71 v72 =>
     ifB (o.seq v70 a0)
     (req (o.is 0 0) <|
      req (o.le 0 w66) <|
      req (o.le w66 (o.len w69)) <|
      req (o.room (o.sub w69 0 w66) [.agg [.str a1, .int .i64 v71, .sl 1 v72 .no]] 48) <|
      f114_l1 o fuel a7 a6 a12 a0 a1 a2 r53 r54 r55 a8 a9 a10 a11 r56 n (o.len (o.apnd (o.sub w69 0 w66) [.agg [.str a1, .int .i64 v71, .sl 1 v72 .no]])) (o.len (o.apnd (o.sub w69 0 w66) [.agg [.str a1, .int .i64 v71, .sl 1 v72 .no]])) (o.ar .add .i64 w68 1) (o.apnd (o.sub w69 0 w66) [.agg [.str a1, .int .i64 v71, .sl 1 v72 .no]]))
     (req (o.is 0 0) <|
      req (o.le 0 w66) <|
      req (o.le w66 (o.len w69)) <|
      req (o.room (o.sub w69 0 w66) [.agg [.str v70, .int .i64 v71, .sl 1 v72 .no]] 48) <|
      f114_l1 o fuel a7 a6 a12 a0 a1 a2 r53 r54 r55 a8 a9 a10 a11 r56 n (o.len (o.apnd (o.sub w69 0 w66) [.agg [.str v70, .int .i64 v71, .sl 1 v72 .no]])) (o.len (o.apnd (o.sub w69 0 w66) [.agg [.str v70, .int .i64 v71, .sl 1 v72 .no]])) (o.ar .add .i64 w68 1) (o.apnd (o.sub w69 0 w66) [.agg [.str v70, .int .i64 v71, .sl 1 v72 .no]])))
    (some (.x0 w66 w67 w69))
theorem f114_l1_go {J : Jd} {n₀ : Nat} (hJ : J = std Try.prog n₀) {o : Ops} (hJo : J.o = o) {fuel : Nat} {a7 a6 : Int} {a12 : List AV} {a0 a1 : ByteArray} {a2 : List AV} {r53 r54 r55 a8 a9 : Int} {a10 : Bool} {a11 r56 : List AV} {w66i : Int} {w67i : Int} {w68i : Int} {w69i : List AV} {α : Type} {k : F114L1 → Option α} {r : α} {c : Code} {Q : Ex → St → Prop} {s : St}
    (H : bindR (f114_l1 o fuel a7 a6 a12 a0 a1 a2 r53 r54 r55 a8 a9 a10 a11 r56 fuel w66i w67i w68i w69i) k = some r) (hn : n₀ ≤ 6) (hle : Turn n₀ s ⟨[(12, .int .i64 w68i), (11, .vs 4 3 0 w66i w67i), (2, .str a1), (1, .str a0), (0, .ptr 1 0)], [.fam 0 a2, .var [.vs 5 2 r53 r54 r55, .vs 3 3 a6 a7 a8, .int .i64 a9, .bool a10], .vec 2 a11, .vec 3 a12, .vec 3 w69i, .vec 2 r56], 97⟩)
    (round : ∀ X, k X = some r → ∀ (n : Nat) (w66 : Int) (w67 : Int) (w68 : Int) (w69 : List AV), f114_l1 o fuel a7 a6 a12 a0 a1 a2 r53 r54 r55 a8 a9 a10 a11 r56 (n + 1) w66 w67 w68 w69 = some X → ∀ N : St → Prop,
      (∀ (s' : St) (w66' : Int) (w67' : Int) (w68' : Int) (w69' : List AV), f114_l1 o fuel a7 a6 a12 a0 a1 a2 r53 r54 r55 a8 a9 a10 a11 r56 n w66' w67' w68' w69' = some X → Turn n₀ s' ⟨[(12, .int .i64 w68'), (11, .vs 4 3 0 w66' w67'), (2, .str a1), (1, .str a0), (0, .ptr 1 0)], [.fam 0 a2, .var [.vs 5 2 r53 r54 r55, .vs 3 3 a6 a7 a8, .int .i64 a9, .bool a10], .vec 2 a11, .vec 3 a12, .vec 3 w69', .vec 2 r56], 97⟩ → N s') → awp J tab c (thenQ N Q) ⟨[(12, .int .i64 w68), (11, .vs 4 3 0 w66 w67), (2, .str a1), (1, .str a0), (0, .ptr 1 0)], [.fam 0 a2, .var [.vs 5 2 r53 r54 r55, .vs 3 3 a6 a7 a8, .int .i64 a9, .bool a10], .vec 2 a11, .vec 3 a12, .vec 3 w69, .vec 2 r56], 97⟩) : J.code (.loop c) Q s := by
  subst hJo
  obtain ⟨X, hX, HX⟩ := bindR_go H
  refine loop_turn_at (β := Nat × Int × Int × Int × List AV) hJ tab_ok (fun | (_, w66, w67, w68, w69) => ⟨[(12, .int .i64 w68), (11, .vs 4 3 0 w66 w67), (2, .str a1), (1, .str a0), (0, .ptr 1 0)], [.fam 0 a2, .var [.vs 5 2 r53 r54 r55, .vs 3 3 a6 a7 a8, .int .i64 a9, .bool a10], .vec 2 a11, .vec 3 a12, .vec 3 w69, .vec 2 r56], 97⟩) (fun | (n, w66, w67, w68, w69) => f114_l1 J.o fuel a7 a6 a12 a0 a1 a2 r53 r54 r55 a8 a9 a10 a11 r56 n w66 w67 w68 w69 = some X) (fun | (n, _, _, _, _) => n) (fuel, w66i, w67i, w68i, w69i) hX hle (by rintro ⟨_, _, _, _, _⟩; exact hn) ?_
  rintro ⟨n, w66, w67, w68, w69⟩ hb N hN
  rcases n with _ | n
  · exact none_go (show (none : Option F114L1) = some X from hb)
  exact round X HX n w66 w67 w68 w69 hb N fun s' w66' w67' w68' w69' h1 h2 => hN s' (n, w66', w67', w68', w69') h1 (Nat.lt_succ_self n) h2
noncomputable def f114 (o : Ops) (fuel : Nat) (a0 a1 : ByteArray) (a2 : List AV) (a3 a4 a5 a6 a7 a8 a9 : Int) (a10 : Bool) (a11 a12 : List AV) : Option F114R :=
  bindR (f144 o fuel a0 a2 a3 a4 a5 a6 a7 a8 a9 a10 a11 a12) fun r => match r with
  | .v0 r13 => ifB (o.bnot (o.cmp .eql r13 0))
    (some (.v0 r13 a3 a4 a5 a6 a7 a8 a11 a12))
    (ifB (o.seq a1 ⟨#[]⟩)
     (some (.v0 31 a3 a4 a5 a6 a7 a8 a11 a12))
     (ifB (o.seq a1 a0)
      (some (.v0 0 a3 a4 a5 a6 a7 a8 a11 a12))
      (bindR (f142 o fuel a1 a2 a3 a4 a5 a6 a7 a8 a9 a10 a11 a12) fun r => match r with
       | .v0 r14 => ifB (o.cmp .geq r14 0)
         (bindR (f115 o fuel a1 a2 a3 a4 a5 a6 a7 a8 a9 a10 a11 a12) fun r => match r with
          | .v0 _ r16 r17 r18 r19 r20 r21 r22 r23 => bindR (f142 o fuel a0 a2 r16 r17 r18 r19 r20 r21 a9 a10 r22 r23) fun r => match r with
            | .v0 r24 => req (o.inb r24 r17) <|
              req (o.inb (o.sum r16 r24) (o.len r22)) <|
              getA (o.get r22 (o.sum r16 r24)) fun e => sh164 e fun _ v26 =>
              req (o.le 0 r24) <|
              req (o.le (o.sum r16 r24) r18) <|
              req (o.le 0 r16) <|
              req (o.le 0 r24) <|
              req (o.le (o.sum r16 r24) (o.len r22)) <|
              req (o.emp []) <|
              req (o.room [] (o.sub r22 r16 (o.sum r16 r24)) 40) <|
              req (o.le 0 (o.ar .add .i64 r24 1)) <|
              req (o.le (o.ar .add .i64 r24 1) r17) <|
              req (o.le 0 (o.sum r16 (o.ar .add .i64 r24 1))) <|
              req (o.le 0 (o.dif r17 (o.ar .add .i64 r24 1))) <|
              req (o.le (o.sum (o.sum r16 (o.ar .add .i64 r24 1)) (o.dif r17 (o.ar .add .i64 r24 1))) (o.len r22)) <|
              req (o.is 0 0) <|
              req (o.le 0 (o.len (o.sub r22 r16 (o.sum r16 r24)))) <|
              req (o.le (o.len (o.sub r22 r16 (o.sum r16 r24))) (o.len (o.sub r22 r16 (o.sum r16 r24)))) <|
              req (o.room (o.sub (o.sub r22 r16 (o.sum r16 r24)) 0 (o.len (o.sub r22 r16 (o.sum r16 r24)))) (o.sub r22 (o.sum r16 (o.ar .add .i64 r24 1)) (o.sum (o.sum r16 (o.ar .add .i64 r24 1)) (o.dif r17 (o.ar .add .i64 r24 1)))) 40) <|
              bindR (f143 o fuel a1 v26 a2 0 (o.len (o.apnd (o.sub (o.sub r22 r16 (o.sum r16 r24)) 0 (o.len (o.sub r22 r16 (o.sum r16 r24)))) (o.sub r22 (o.sum r16 (o.ar .add .i64 r24 1)) (o.sum (o.sum r16 (o.ar .add .i64 r24 1)) (o.dif r17 (o.ar .add .i64 r24 1)))))) (o.len (o.apnd (o.sub (o.sub r22 r16 (o.sum r16 r24)) 0 (o.len (o.sub r22 r16 (o.sum r16 r24)))) (o.sub r22 (o.sum r16 (o.ar .add .i64 r24 1)) (o.sum (o.sum r16 (o.ar .add .i64 r24 1)) (o.dif r17 (o.ar .add .i64 r24 1)))))) r19 r20 r21 a9 a10 (o.apnd (o.sub (o.sub r22 r16 (o.sum r16 r24)) 0 (o.len (o.sub r22 r16 (o.sum r16 r24)))) (o.sub r22 (o.sum r16 (o.ar .add .i64 r24 1)) (o.sum (o.sum r16 (o.ar .add .i64 r24 1)) (o.dif r17 (o.ar .add .i64 r24 1))))) r23) fun r => match r with
              | .v0 r27 r28 r29 r30 => bindR (f114_l0 o fuel r20 r19 r23 a0 a1 a2 r27 r28 r29 r21 a9 a10 r30 fuel 0 0 0 []) fun r => match r with
                | .x0 y47 y48 y49 => some (.v0 0 r27 r28 r29 0 y47 y48 r30 y49))
         (bindR (f142 o fuel a0 a2 a3 a4 a5 a6 a7 a8 a9 a10 a11 a12) fun r => match r with
          | .v0 r50 => req (o.inb r50 a4) <|
            req (o.inb (o.sum a3 r50) (o.len a11)) <|
            getA (o.get a11 (o.sum a3 r50)) fun e => sh164 e fun _ v52 =>
            req (o.le 0 r50) <|
            req (o.le (o.sum a3 r50) a5) <|
            req (o.le 0 a3) <|
            req (o.le 0 r50) <|
            req (o.le (o.sum a3 r50) (o.len a11)) <|
            req (o.emp []) <|
            req (o.room [] (o.sub a11 a3 (o.sum a3 r50)) 40) <|
            req (o.le 0 (o.ar .add .i64 r50 1)) <|
            req (o.le (o.ar .add .i64 r50 1) a4) <|
            req (o.le 0 (o.sum a3 (o.ar .add .i64 r50 1))) <|
            req (o.le 0 (o.dif a4 (o.ar .add .i64 r50 1))) <|
            req (o.le (o.sum (o.sum a3 (o.ar .add .i64 r50 1)) (o.dif a4 (o.ar .add .i64 r50 1))) (o.len a11)) <|
            req (o.is 0 0) <|
            req (o.le 0 (o.len (o.sub a11 a3 (o.sum a3 r50)))) <|
            req (o.le (o.len (o.sub a11 a3 (o.sum a3 r50))) (o.len (o.sub a11 a3 (o.sum a3 r50)))) <|
            req (o.room (o.sub (o.sub a11 a3 (o.sum a3 r50)) 0 (o.len (o.sub a11 a3 (o.sum a3 r50)))) (o.sub a11 (o.sum a3 (o.ar .add .i64 r50 1)) (o.sum (o.sum a3 (o.ar .add .i64 r50 1)) (o.dif a4 (o.ar .add .i64 r50 1)))) 40) <|
            bindR (f143 o fuel a1 v52 a2 0 (o.len (o.apnd (o.sub (o.sub a11 a3 (o.sum a3 r50)) 0 (o.len (o.sub a11 a3 (o.sum a3 r50)))) (o.sub a11 (o.sum a3 (o.ar .add .i64 r50 1)) (o.sum (o.sum a3 (o.ar .add .i64 r50 1)) (o.dif a4 (o.ar .add .i64 r50 1)))))) (o.len (o.apnd (o.sub (o.sub a11 a3 (o.sum a3 r50)) 0 (o.len (o.sub a11 a3 (o.sum a3 r50)))) (o.sub a11 (o.sum a3 (o.ar .add .i64 r50 1)) (o.sum (o.sum a3 (o.ar .add .i64 r50 1)) (o.dif a4 (o.ar .add .i64 r50 1)))))) a6 a7 a8 a9 a10 (o.apnd (o.sub (o.sub a11 a3 (o.sum a3 r50)) 0 (o.len (o.sub a11 a3 (o.sum a3 r50)))) (o.sub a11 (o.sum a3 (o.ar .add .i64 r50 1)) (o.sum (o.sum a3 (o.ar .add .i64 r50 1)) (o.dif a4 (o.ar .add .i64 r50 1))))) a12) fun r => match r with
            | .v0 r53 r54 r55 r56 => bindR (f114_l1 o fuel a7 a6 a12 a0 a1 a2 r53 r54 r55 a8 a9 a10 a11 r56 fuel 0 0 0 []) fun r => match r with
              | .x0 y73 y74 y75 => some (.v0 0 r53 r54 r55 0 y73 y74 r56 y75)))))
theorem f114_call (o : Ops) (ho : o = stdOps) (fuel : Nat) (a0 a1 : ByteArray) (a2 : List AV) (a3 a4 a5 a6 a7 a8 a9 : Int) (a10 : Bool) (a11 a12 : List AV) {R : F114R} (H : f114 o fuel a0 a1 a2 a3 a4 a5 a6 a7 a8 a9 a10 a11 a12 = some R) (K : AV → List Ent → Prop) (E : AV → List Ent → Prop) (h : K R.av (F114R.hp a2 a9 a10 R)) : CallA Try.prog 114 [.ptr 1 0, .str a0, .str a1] [.fam 0 a2, .var [.vs 2 2 a3 a4 a5, .vs 3 3 a6 a7 a8, .int .i64 a9, .bool a10], .vec 2 a11, .vec 3 a12] K E := by
  refine call_wk fun K' hK => ?_
  refine call_keep (n₀ := 4) tab_ok Try.func114 rfl rfl rfl rfl ?_
  intro J hJ
  obtain rfl : o = J.o := by rw [ho, hJ]; rfl
  unfold f114 at H
  cbv
  repeat' (first
    | ((with_reducible refine awp_go2 ?_); cbv)
    | (cases H; replace H := HX1; clear HX1; (try dsimp only at H))
    | (cases H; replace H := HX0; clear HX0; (try dsimp only at H))
    | (refine KeepQ.tn _ (by first | exact .inl rfl | exact .inr rfl) (Turn.trans (Turn.at 4 (turn_mv 1 0 2 2 rfl rfl rfl rfl (leN_t rfl)) rfl) (Turn.at 5 (turn_mv 1 1 3 3 rfl rfl rfl rfl (leN_t rfl)) rfl)) [4, 5] (by decide) ?_; cbv; cases H; refine hK _ _ _ _ ?_ ?_ rfl h <;> cbv)
    | (refine KeepQ.tn _ (by first | exact .inl rfl | exact .inr rfl) (Turn.trans (Turn.at 6 (turn_mvg 2 2 rfl (leN_t rfl)) rfl) (Turn.at 7 (turn_mvg 3 3 rfl (leN_t rfl)) rfl)) [5, 4] (by decide) ?_; cbv; cases H; refine hK _ _ _ _ ?_ ?_ rfl h <;> cbv)
    | (refine KeepQ.mk [5, 4] (by decide) ?_; cbv; cases H; refine hK _ _ _ _ ?_ ?_ rfl h <;> cbv)
    | (refine hN0 _ _ _ _ _ H (Turn.trans (Turn.pack [8, 5, 6] (by decide) (leN_t rfl)) (Turn.le ⟨?_, ?_, rfl, rfl⟩ (leN_t rfl))) <;> (cbv; (repeat' (first | exact trivial | exact rfl | apply And.intro)); done))
    | (refine hN1 _ _ _ _ _ H (Turn.trans (Turn.pack [7, 5] (by decide) (leN_t rfl)) (Turn.le ⟨?_, ?_, rfl, rfl⟩ (leN_t rfl))) <;> (cbv; (repeat' (first | exact trivial | exact rfl | apply And.intro)); done))
    | (refine ifB_go H ?_ ?_ <;> clear H <;> intro hh H)
    | (with_reducible refine and3_go ?_)
    | (refine req_go H ?_; clear H; intro hh H)
    | (refine sh158_get H ?_; clear H; intro _ _ _ he H; cbv)
    | (refine sh164_get H ?_; clear H; intro _ _ he H; cbv)
    | (obtain ⟨R, hR, H2⟩ := bindR_go H; refine call_in hJ [0, 1, 8, 5] (by decide) rfl rfl rfl (f143_call _ ho _ _ _ _ _ _ _ _ _ _ _ _ _ _ hR _ _ ?_); clear H hR; rcases R with ⟨_, _, _, _⟩; all_goals (replace H := H2; clear H2; (try dsimp only at H); cbv))
    | (obtain ⟨R, hR, H2⟩ := bindR_go H; refine call_in hJ [0, 1, 4, 5] (by decide) rfl rfl rfl (f142_call _ ho _ _ _ _ _ _ _ _ _ _ _ _ _ hR _ _ ?_); clear H hR; rcases R with ⟨_⟩; all_goals (replace H := H2; clear H2; (try dsimp only at H); cbv))
    | (obtain ⟨R, hR, H2⟩ := bindR_go H; refine call_in hJ [0, 1, 2, 3] (by decide) rfl rfl rfl (f115_call _ ho _ _ _ _ _ _ _ _ _ _ _ _ _ hR _ _ ?_); clear H hR; rcases R with ⟨_, _, _, _, _, _, _, _, _⟩; all_goals (replace H := H2; clear H2; (try dsimp only at H); cbv))
    | (obtain ⟨R, hR, H2⟩ := bindR_go H; refine call_in hJ [0, 1, 6, 3] (by decide) rfl rfl rfl (f143_call _ ho _ _ _ _ _ _ _ _ _ _ _ _ _ _ hR _ _ ?_); clear H hR; rcases R with ⟨_, _, _, _⟩; all_goals (replace H := H2; clear H2; (try dsimp only at H); cbv))
    | (obtain ⟨R, hR, H2⟩ := bindR_go H; refine call_in hJ [0, 1, 2, 3] (by decide) rfl rfl rfl (f142_call _ ho _ _ _ _ _ _ _ _ _ _ _ _ _ hR _ _ ?_); clear H hR; rcases R with ⟨_⟩; all_goals (replace H := H2; clear H2; (try dsimp only at H); cbv))
    | (obtain ⟨R, hR, H2⟩ := bindR_go H; refine call_in hJ [0, 1, 2, 3] (by decide) rfl rfl rfl (f144_call _ ho _ _ _ _ _ _ _ _ _ _ _ _ _ hR _ _ ?_); clear H hR; rcases R with ⟨_⟩; all_goals (replace H := H2; clear H2; (try dsimp only at H); cbv))
    | (refine f114_l0_go hJ (o := J.o) rfl H (by decide) (Turn.trans (turn_nilr 11 3 rfl (leN_t rfl)) (Turn.trans (Turn.pack [10, 9, 5] (by decide) (leN_t rfl)) (Turn.le ⟨?_, ?_, rfl, rfl⟩ (leN_t rfl)))) ?_
       · cbv; (repeat' (first | exact trivial | exact rfl | apply And.intro))
       · cbv; (repeat' (first | exact trivial | exact rfl | apply And.intro))
       clear H
       intro X0 HX0 n _ _ _ _ H Nx0 hN0
       rw [f114_l0] at H
       cbv)
    | (refine f114_l1_go hJ (o := J.o) rfl H (by decide) (Turn.trans (turn_nilr 11 3 rfl (leN_t rfl)) (Turn.trans (Turn.pack [8, 7] (by decide) (leN_t rfl)) (Turn.le ⟨?_, ?_, rfl, rfl⟩ (leN_t rfl)))) ?_
       · cbv; (repeat' (first | exact trivial | exact rfl | apply And.intro))
       · cbv; (repeat' (first | exact trivial | exact rfl | apply And.intro))
       clear H
       intro X1 HX1 n _ _ _ _ H Nx1 hN1
       rw [f114_l1] at H
       cbv))
end Go.Proofs.Ytjdbmfipciadfaa.A
