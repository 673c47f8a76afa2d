/- Functions of the program and of the document's answer, as plain ones. Written by lift.py. -/
import Derived.Test.YtjdbmfipciadfaaSx0
import Derived.Test.YtjdbmfipciadfaaSx5
import Derived.Test.YtjdbmfipciadfaaSx11
import Derived.Test.YtjdbmfipciadfaaSx6
import Derived.Test.YtjdbmfipciadfaaSx12
import Derived.Test.YtjdbmfipciadfaaSx18

namespace Go.Proofs.Ytjdbmfipciadfaa.A
open Go Go.Pt

/-! pontoon/pontoonref15.From -/
inductive F45R where
  | v0 
  | v1 (y0 : List AV) (y1 : List AV) (y2 : List AV) (y3 : List AV)
def F45R.av : F45R → AV
  | .v0  => .tup [.nilp, .int .i64 1]
  | .v1 _ _ _ _ => .tup [.ptr 0 0, .int .i64 0]
def F45R.hp (a0 : Int) (a1 : Int) : F45R → List Ent
  | .v0  => []
  | .v1 y0 y1 y2 y3 => [.var [.int .i64 a0, .int .i64 a1, .sl 2 y0 .no, .sl 1 y1 .no, .sl 1 y2 .no, .sl 5 y3 .no]]
inductive F45L0 where
  | x0 
  | x1 
noncomputable def f45_l0 (o : Ops) (fuel : Nat) (a4 : List AV) (a1 : Int) (a2 : List AV) (a3 : List AV) (a5 : List AV) (a0 : Int) (r6 : List AV) (r7 : List AV) (r8 : List AV) (r9 : List AV) : Nat → Int → Option F45L0
  | 0, _ => none
  | n + 1, w14 =>
    ifB (o.cmp .lss w14 (o.len a4))
    (req (o.inb w14 (o.len a4)) <|
     getA (o.get a4 w14) fun e => sh2 e fun v15 =>
     bindR (f82 o fuel v15) fun r => match r with
     | .v0 r16 => ifB (o.band (o.bnot (o.bnot r16)) (o.cmp .gtr w14 0))
       (req (o.inb w14 (o.len a4)) <|
        getA (o.get a4 w14) fun e => sh2 e fun v17 =>
        req (o.inb (o.ar .sub .i64 w14 1) (o.len a4)) <|
        getA (o.get a4 (o.ar .sub .i64 w14 1)) fun e => sh2 e fun v18 =>
        ifB (o.pick (o.bnot r16) true (o.pick (o.cmp .gtr w14 0) (o.cmp .leq v17 v18) false))
        (some (.x0 ))
        (f45_l0 o fuel a4 a1 a2 a3 a5 a0 r6 r7 r8 r9 n (o.ar .add .i64 w14 1)))
       (ifB (o.pick (o.bnot r16) true (o.pick (o.cmp .gtr w14 0) (o.cmp .leq 0 0) false))
        (some (.x0 ))
        (f45_l0 o fuel a4 a1 a2 a3 a5 a0 r6 r7 r8 r9 n (o.ar .add .i64 w14 1))))
    (some (.x1 ))
theorem f45_l0_go {J : Jd} {n₀ : Nat} (hJ : J = std Try.prog n₀) {o : Ops} (hJo : J.o = o) {fuel : Nat} {a4 : List AV} {a1 : Int} {a2 : List AV} {a3 : List AV} {a5 : List AV} {a0 : Int} {r6 : List AV} {r7 : List AV} {r8 : List AV} {r9 : List AV} {w14i : Int} {α : Type} {k : F45L0 → Option α} {r : α} {c : Code} {Q : Ex → St → Prop} {s : St}
    (H : bindR (f45_l0 o fuel a4 a1 a2 a3 a5 a0 r6 r7 r8 r9 fuel w14i) k = some r) (hn : n₀ ≤ 2) (hle : Le s ⟨[(8, .int .i64 w14i), (6, .ptr 1 0), (3, .ptr 0 0)], [.var [.int .i64 a1, .sl 2 a2 .no, .sl 1 a3 .no, .sl 1 a4 .no, .sl 5 a5 .no], .var [.int .i64 a0, .int .i64 0, .sl 2 r6 .no, .sl 1 r7 .no, .sl 1 r8 .no, .sl 5 r9 .no]], 193⟩)
    (round : ∀ X, k X = some r → ∀ (n : Nat) (w14 : Int), f45_l0 o fuel a4 a1 a2 a3 a5 a0 r6 r7 r8 r9 (n + 1) w14 = some X → ∀ N : St → Prop,
      (∀ (env : List (Nat × AV)) (w14' : Int) (v : List Ent), f45_l0 o fuel a4 a1 a2 a3 a5 a0 r6 r7 r8 r9 n w14' = some X → wkEnv env [(8, .int .i64 w14'), (6, .ptr 1 0), (3, .ptr 0 0)] → N ⟨env, [.var [.int .i64 a1, .sl 2 a2 .no, .sl 1 a3 .no, .sl 1 a4 .no, .sl 5 a5 .no], .var [.int .i64 a0, .int .i64 0, .sl 2 r6 .no, .sl 1 r7 .no, .sl 1 r8 .no, .sl 5 r9 .no]] ++ v, 193⟩) → awp J tab c (thenQ N Q) ⟨[(8, .int .i64 w14), (6, .ptr 1 0), (3, .ptr 0 0)], [.var [.int .i64 a1, .sl 2 a2 .no, .sl 1 a3 .no, .sl 1 a4 .no, .sl 5 a5 .no], .var [.int .i64 a0, .int .i64 0, .sl 2 r6 .no, .sl 1 r7 .no, .sl 1 r8 .no, .sl 5 r9 .no]], 193⟩) : J.code (.loop c) Q s := by
  subst hJo
  obtain ⟨X, hX, HX⟩ := bindR_go H
  refine loop_at (β := Nat × Int) hJ tab_ok (fun | (_, w14) => ⟨[(8, .int .i64 w14), (6, .ptr 1 0), (3, .ptr 0 0)], [.var [.int .i64 a1, .sl 2 a2 .no, .sl 1 a3 .no, .sl 1 a4 .no, .sl 5 a5 .no], .var [.int .i64 a0, .int .i64 0, .sl 2 r6 .no, .sl 1 r7 .no, .sl 1 r8 .no, .sl 5 r9 .no]], 193⟩) (fun | (n, w14) => f45_l0 J.o fuel a4 a1 a2 a3 a5 a0 r6 r7 r8 r9 n w14 = some X) (fun | (n, _) => n) (fuel, w14i) hX hle (by rintro ⟨_, _⟩; exact hn) ?_
  rintro ⟨n, w14⟩ hb N hN
  rcases n with _ | n
  · exact none_go (show (none : Option F45L0) = some X from hb)
  exact round X HX n w14 hb N fun env w14' v h1 h2 => hN _ (n, w14') h1 (Nat.lt_succ_self n) ⟨h2, by first | (cbv; done) | (cbv; repeat' (first | exact trivial | exact rfl | apply And.intro)), rfl, rfl⟩

inductive F45L1 where
  | x0 
  | x1 
noncomputable def f45_l1 (o : Ops) (fuel : Nat) (a5 : List AV) (a0 : Int) (r6 : List AV) (r7 : List AV) (r8 : List AV) (r9 : List AV) (a1 : Int) (a4 : List AV) (a2 : List AV) (a3 : List AV) : Nat → Int → Option F45L1
  | 0, _ => none
  | n + 1, w26 =>
    ifB (o.cmp .lss w26 (o.len a5))
    (req (o.inb w26 (o.len a5)) <|
     getA (o.get a5 w26) fun e => sh31 e fun v27 v28 v29 v30 v31 =>
     bindR (f21 o fuel v27 v28 v29 v30 v31 a0 0 r6 r7 r8 r9) fun r => match r with
     | .v0 r32 => ifB (o.bnot (o.pick (o.bnot r32) true (o.bnot (o.cmp .eql v27 a1))))
       (bindR (f103 o fuel a4 v28) fun r => match r with
        | .v0 r33 => ifB (o.band (o.bnot (o.pick (o.pick (o.bnot r32) true (o.bnot (o.cmp .eql v27 a1))) true r33)) (o.cmp .gtr w26 0))
          (req (o.inb (o.ar .sub .i64 w26 1) (o.len a5)) <|
           getA (o.get a5 (o.ar .sub .i64 w26 1)) fun e => sh31 e fun _ v35 _ _ _ =>
           ifB (o.pick (o.pick (o.pick (o.bnot r32) true (o.bnot (o.cmp .eql v27 a1))) true r33) true (o.pick (o.cmp .gtr w26 0) (o.cmp .leq v28 v35) false))
           (some (.x0 ))
           (f45_l1 o fuel a5 a0 r6 r7 r8 r9 a1 a4 a2 a3 n (o.ar .add .i64 w26 1)))
          (ifB (o.pick (o.pick (o.pick (o.bnot r32) true (o.bnot (o.cmp .eql v27 a1))) true r33) true (o.pick (o.cmp .gtr w26 0) (o.cmp .leq v28 0) false))
           (some (.x0 ))
           (f45_l1 o fuel a5 a0 r6 r7 r8 r9 a1 a4 a2 a3 n (o.ar .add .i64 w26 1))))
       (some (.x0 )))
    (some (.x1 ))
theorem f45_l1_go {J : Jd} {n₀ : Nat} (hJ : J = std Try.prog n₀) {o : Ops} (hJo : J.o = o) {fuel : Nat} {a5 : List AV} {a0 : Int} {r6 : List AV} {r7 : List AV} {r8 : List AV} {r9 : List AV} {a1 : Int} {a4 : List AV} {a2 : List AV} {a3 : List AV} {w26i : Int} {α : Type} {k : F45L1 → Option α} {r : α} {c : Code} {Q : Ex → St → Prop} {s : St}
    (H : bindR (f45_l1 o fuel a5 a0 r6 r7 r8 r9 a1 a4 a2 a3 fuel w26i) k = some r) (hn : n₀ ≤ 2) (hle : Le s ⟨[(9, .int .i64 w26i), (6, .ptr 1 0), (3, .ptr 0 0)], [.var [.int .i64 a1, .sl 2 a2 .no, .sl 1 a3 .no, .sl 1 a4 .no, .sl 5 a5 .no], .var [.int .i64 a0, .int .i64 0, .sl 2 r6 .no, .sl 1 r7 .no, .sl 1 r8 .no, .sl 5 r9 .no]], 193⟩)
    (round : ∀ X, k X = some r → ∀ (n : Nat) (w26 : Int), f45_l1 o fuel a5 a0 r6 r7 r8 r9 a1 a4 a2 a3 (n + 1) w26 = some X → ∀ N : St → Prop,
      (∀ (env : List (Nat × AV)) (w26' : Int) (v : List Ent), f45_l1 o fuel a5 a0 r6 r7 r8 r9 a1 a4 a2 a3 n w26' = some X → wkEnv env [(9, .int .i64 w26'), (6, .ptr 1 0), (3, .ptr 0 0)] → N ⟨env, [.var [.int .i64 a1, .sl 2 a2 .no, .sl 1 a3 .no, .sl 1 a4 .no, .sl 5 a5 .no], .var [.int .i64 a0, .int .i64 0, .sl 2 r6 .no, .sl 1 r7 .no, .sl 1 r8 .no, .sl 5 r9 .no]] ++ v, 193⟩) → awp J tab c (thenQ N Q) ⟨[(9, .int .i64 w26), (6, .ptr 1 0), (3, .ptr 0 0)], [.var [.int .i64 a1, .sl 2 a2 .no, .sl 1 a3 .no, .sl 1 a4 .no, .sl 5 a5 .no], .var [.int .i64 a0, .int .i64 0, .sl 2 r6 .no, .sl 1 r7 .no, .sl 1 r8 .no, .sl 5 r9 .no]], 193⟩) : J.code (.loop c) Q s := by
  subst hJo
  obtain ⟨X, hX, HX⟩ := bindR_go H
  refine loop_at (β := Nat × Int) hJ tab_ok (fun | (_, w26) => ⟨[(9, .int .i64 w26), (6, .ptr 1 0), (3, .ptr 0 0)], [.var [.int .i64 a1, .sl 2 a2 .no, .sl 1 a3 .no, .sl 1 a4 .no, .sl 5 a5 .no], .var [.int .i64 a0, .int .i64 0, .sl 2 r6 .no, .sl 1 r7 .no, .sl 1 r8 .no, .sl 5 r9 .no]], 193⟩) (fun | (n, w26) => f45_l1 J.o fuel a5 a0 r6 r7 r8 r9 a1 a4 a2 a3 n w26 = some X) (fun | (n, _) => n) (fuel, w26i) hX hle (by rintro ⟨_, _⟩; exact hn) ?_
  rintro ⟨n, w26⟩ hb N hN
  rcases n with _ | n
  · exact none_go (show (none : Option F45L1) = some X from hb)
  exact round X HX n w26 hb N fun env w26' v h1 h2 => hN _ (n, w26') h1 (Nat.lt_succ_self n) ⟨h2, by first | (cbv; done) | (cbv; repeat' (first | exact trivial | exact rfl | apply And.intro)), rfl, rfl⟩

inductive F45L2 where
  | x0 (y0 : List AV) (y1 : Nat)
noncomputable def f45_l2 (o : Ops) (fuel : Nat) (a5 : List AV) (a1 : Int) (a2 : List AV) (a3 : List AV) (a4 : List AV) (a0 : Int) : Nat → Nat → Int → List AV → Option F45L2
  | 0, _, _, _ => none
  | n + 1, w60, w61, w62 =>
    ifB (o.cmp .lss w61 (o.len a5))
    (req (o.inb w61 (o.len a5)) <|
     getA (o.get a5 w61) fun e => sh31 e fun v63 v64 v65 v66 v67 =>
     bindR (f104 o fuel v63 v64 v65 v66 v67) fun r => match r with
     | .v0 r68 r69 r70 r71 r72 => req (o.room w62 [.agg [.int .i64 r68, .int .i64 r69, .int .i64 r70, .sl 2 r71 .no, .sl 1 r72 .no]] 72) <|
       f45_l2 o fuel a5 a1 a2 a3 a4 a0 n (o.padd w60 [.agg [.int .i64 r68, .int .i64 r69, .int .i64 r70, .sl 2 r71 .no, .sl 1 r72 .no]]) (o.ar .add .i64 w61 1) (o.apnd w62 [.agg [.int .i64 r68, .int .i64 r69, .int .i64 r70, .sl 2 r71 .no, .sl 1 r72 .no]]))
    (some (.x0 w62 w60))
theorem f45_l2_go {J : Jd} {n₀ : Nat} (hJ : J = std Try.prog n₀) {o : Ops} (hJo : J.o = o) {fuel : Nat} {a5 : List AV} {a1 : Int} {a2 : List AV} {a3 : List AV} {a4 : List AV} {a0 : Int} {w60i : Nat} {w61i : Int} {w62i : List AV} {α : Type} {k : F45L2 → Option α} {r : α} {c : Code} {Q : Ex → St → Prop} {s : St}
    (H : bindR (f45_l2 o fuel a5 a1 a2 a3 a4 a0 fuel w60i w61i w62i) k = some r) (hn : n₀ ≤ 4) (hle : Turn n₀ s ⟨[(14, .int .i64 w61i), (6, .ptr 1 0), (3, .ptr 0 0)], [.var [.int .i64 a1, .sl 2 a2 .no, .sl 1 a3 .no, .sl 1 a4 .no, .sl 5 a5 .no], .var [.int .i64 a0, .int .i64 a1, .sl 2 (o.apnd [] a2) .no, .sl 1 (o.apnd [] a3) (.tip 2 (o.pos [] a3)), .sl 1 (o.apnd [] a4) .no, .sl 5 w62i (.tip 3 w60i)], .tip (o.pos [] a3), .tip w60i], 193⟩)
    (round : ∀ X, k X = some r → ∀ (n : Nat) (w60 : Nat) (w61 : Int) (w62 : List AV), f45_l2 o fuel a5 a1 a2 a3 a4 a0 (n + 1) w60 w61 w62 = some X → ∀ N : St → Prop,
      (∀ (env : List (Nat × AV)) (w60' : Nat) (w61' : Int) (w62' : List AV) (v : List Ent), f45_l2 o fuel a5 a1 a2 a3 a4 a0 n w60' w61' w62' = some X → wkEnv env [(14, .int .i64 w61'), (6, .ptr 1 0), (3, .ptr 0 0)] → N ⟨env, [.var [.int .i64 a1, .sl 2 a2 .no, .sl 1 a3 .no, .sl 1 a4 .no, .sl 5 a5 .no], .var [.int .i64 a0, .int .i64 a1, .sl 2 (o.apnd [] a2) .no, .sl 1 (o.apnd [] a3) (.tip 2 (o.pos [] a3)), .sl 1 (o.apnd [] a4) .no, .sl 5 w62' (.tip 3 w60')], .tip (o.pos [] a3), .tip w60'] ++ v, 193⟩) → awp J tab c (thenQ N Q) ⟨[(14, .int .i64 w61), (6, .ptr 1 0), (3, .ptr 0 0)], [.var [.int .i64 a1, .sl 2 a2 .no, .sl 1 a3 .no, .sl 1 a4 .no, .sl 5 a5 .no], .var [.int .i64 a0, .int .i64 a1, .sl 2 (o.apnd [] a2) .no, .sl 1 (o.apnd [] a3) (.tip 2 (o.pos [] a3)), .sl 1 (o.apnd [] a4) .no, .sl 5 w62 (.tip 3 w60)], .tip (o.pos [] a3), .tip w60], 193⟩) : J.code (.loop c) Q s := by
  subst hJo
  obtain ⟨X, hX, HX⟩ := bindR_go H
  refine loop_turn_at (β := Nat × Nat × Int × List AV) hJ tab_ok (fun | (_, w60, w61, w62) => ⟨[(14, .int .i64 w61), (6, .ptr 1 0), (3, .ptr 0 0)], [.var [.int .i64 a1, .sl 2 a2 .no, .sl 1 a3 .no, .sl 1 a4 .no, .sl 5 a5 .no], .var [.int .i64 a0, .int .i64 a1, .sl 2 (J.o.apnd [] a2) .no, .sl 1 (J.o.apnd [] a3) (.tip 2 (J.o.pos [] a3)), .sl 1 (J.o.apnd [] a4) .no, .sl 5 w62 (.tip 3 w60)], .tip (J.o.pos [] a3), .tip w60], 193⟩) (fun | (n, w60, w61, w62) => f45_l2 J.o fuel a5 a1 a2 a3 a4 a0 n w60 w61 w62 = some X) (fun | (n, _, _, _) => n) (fuel, w60i, w61i, w62i) hX hle (by rintro ⟨_, _, _, _⟩; exact hn) ?_
  rintro ⟨n, w60, w61, w62⟩ hb N hN
  rcases n with _ | n
  · exact none_go (show (none : Option F45L2) = some X from hb)
  exact round X HX n w60 w61 w62 hb N fun env w60' w61' w62' v h1 h2 => hN _ (n, w60', w61', w62') h1 (Nat.lt_succ_self n) (Turn.le ⟨h2, by cbv; repeat' (first | exact trivial | exact rfl | apply And.intro), rfl, rfl⟩ (by simp; omega))

inductive F45L3 where
  | x0 (y0 : List AV) (y1 : Nat)
noncomputable def f45_l3 (o : Ops) (fuel : Nat) (a5 : List AV) (a1 : Int) (a2 : List AV) (a3 : List AV) (a4 : List AV) (a0 : Int) : Nat → Nat → Int → List AV → Option F45L3
  | 0, _, _, _ => none
  | n + 1, w95, w96, w97 =>
    ifB (o.cmp .lss w96 (o.len a5))
    (req (o.inb w96 (o.len a5)) <|
     getA (o.get a5 w96) fun e => sh31 e fun v98 v99 v100 v101 v102 =>
     bindR (f104 o fuel v98 v99 v100 v101 v102) fun r => match r with
     | .v0 r103 r104 r105 r106 r107 => req (o.room w97 [.agg [.int .i64 r103, .int .i64 r104, .int .i64 r105, .sl 2 r106 .no, .sl 1 r107 .no]] 72) <|
       f45_l3 o fuel a5 a1 a2 a3 a4 a0 n (o.padd w95 [.agg [.int .i64 r103, .int .i64 r104, .int .i64 r105, .sl 2 r106 .no, .sl 1 r107 .no]]) (o.ar .add .i64 w96 1) (o.apnd w97 [.agg [.int .i64 r103, .int .i64 r104, .int .i64 r105, .sl 2 r106 .no, .sl 1 r107 .no]]))
    (some (.x0 w97 w95))
theorem f45_l3_go {J : Jd} {n₀ : Nat} (hJ : J = std Try.prog n₀) {o : Ops} (hJo : J.o = o) {fuel : Nat} {a5 : List AV} {a1 : Int} {a2 : List AV} {a3 : List AV} {a4 : List AV} {a0 : Int} {w95i : Nat} {w96i : Int} {w97i : List AV} {α : Type} {k : F45L3 → Option α} {r : α} {c : Code} {Q : Ex → St → Prop} {s : St}
    (H : bindR (f45_l3 o fuel a5 a1 a2 a3 a4 a0 fuel w95i w96i w97i) k = some r) (hn : n₀ ≤ 4) (hle : Turn n₀ s ⟨[(14, .int .i64 w96i), (6, .ptr 1 0), (3, .ptr 0 0)], [.var [.int .i64 a1, .sl 2 a2 .no, .sl 1 a3 .no, .sl 1 a4 .no, .sl 5 a5 .no], .var [.int .i64 a0, .int .i64 a1, .sl 2 (o.apnd [] a2) .no, .sl 1 (o.apnd [] a3) (.tip 2 (o.pos [] a3)), .sl 1 (o.apnd [] a4) .no, .sl 5 w97i (.tip 3 w95i)], .tip (o.pos [] a3), .tip w95i], 193⟩)
    (round : ∀ X, k X = some r → ∀ (n : Nat) (w95 : Nat) (w96 : Int) (w97 : List AV), f45_l3 o fuel a5 a1 a2 a3 a4 a0 (n + 1) w95 w96 w97 = some X → ∀ N : St → Prop,
      (∀ (env : List (Nat × AV)) (w95' : Nat) (w96' : Int) (w97' : List AV) (v : List Ent), f45_l3 o fuel a5 a1 a2 a3 a4 a0 n w95' w96' w97' = some X → wkEnv env [(14, .int .i64 w96'), (6, .ptr 1 0), (3, .ptr 0 0)] → N ⟨env, [.var [.int .i64 a1, .sl 2 a2 .no, .sl 1 a3 .no, .sl 1 a4 .no, .sl 5 a5 .no], .var [.int .i64 a0, .int .i64 a1, .sl 2 (o.apnd [] a2) .no, .sl 1 (o.apnd [] a3) (.tip 2 (o.pos [] a3)), .sl 1 (o.apnd [] a4) .no, .sl 5 w97' (.tip 3 w95')], .tip (o.pos [] a3), .tip w95'] ++ v, 193⟩) → awp J tab c (thenQ N Q) ⟨[(14, .int .i64 w96), (6, .ptr 1 0), (3, .ptr 0 0)], [.var [.int .i64 a1, .sl 2 a2 .no, .sl 1 a3 .no, .sl 1 a4 .no, .sl 5 a5 .no], .var [.int .i64 a0, .int .i64 a1, .sl 2 (o.apnd [] a2) .no, .sl 1 (o.apnd [] a3) (.tip 2 (o.pos [] a3)), .sl 1 (o.apnd [] a4) .no, .sl 5 w97 (.tip 3 w95)], .tip (o.pos [] a3), .tip w95], 193⟩) : J.code (.loop c) Q s := by
  subst hJo
  obtain ⟨X, hX, HX⟩ := bindR_go H
  refine loop_turn_at (β := Nat × Nat × Int × List AV) hJ tab_ok (fun | (_, w95, w96, w97) => ⟨[(14, .int .i64 w96), (6, .ptr 1 0), (3, .ptr 0 0)], [.var [.int .i64 a1, .sl 2 a2 .no, .sl 1 a3 .no, .sl 1 a4 .no, .sl 5 a5 .no], .var [.int .i64 a0, .int .i64 a1, .sl 2 (J.o.apnd [] a2) .no, .sl 1 (J.o.apnd [] a3) (.tip 2 (J.o.pos [] a3)), .sl 1 (J.o.apnd [] a4) .no, .sl 5 w97 (.tip 3 w95)], .tip (J.o.pos [] a3), .tip w95], 193⟩) (fun | (n, w95, w96, w97) => f45_l3 J.o fuel a5 a1 a2 a3 a4 a0 n w95 w96 w97 = some X) (fun | (n, _, _, _) => n) (fuel, w95i, w96i, w97i) hX hle (by rintro ⟨_, _, _, _⟩; exact hn) ?_
  rintro ⟨n, w95, w96, w97⟩ hb N hN
  rcases n with _ | n
  · exact none_go (show (none : Option F45L3) = some X from hb)
  exact round X HX n w95 w96 w97 hb N fun env w95' w96' w97' v h1 h2 => hN _ (n, w95', w96', w97') h1 (Nat.lt_succ_self n) (Turn.le ⟨h2, by cbv; repeat' (first | exact trivial | exact rfl | apply And.intro), rfl, rfl⟩ (by simp; omega))

noncomputable def f45 (o : Ops) (fuel : Nat) (a0 : Int) (a1 : Int) (a2 : List AV) (a3 : List AV) (a4 : List AV) (a5 : List AV) : Option F45R :=
  bindR (f19_1 o fuel a0) fun r => match r with
  | .v0  => some (.v0 )
  | .v1 r6 r7 r8 r9 => bindR (f102 o fuel a1) fun r => match r with
    | .v0 r10 => ifB (o.pick (o.bnot r10) true (o.cmp .gtr (o.len a2) 4096))
      (some (.v0 ))
      (bindR (f83 o fuel a3 a0 0 r6 r7 r8 r9) fun r => match r with
       | .v0 r11 => ifB (o.pick (o.bnot r11) true (o.cmp .gtr (o.len a5) 8))
         (some (.v0 ))
         (bindR (f45_l0 o fuel a4 a1 a2 a3 a5 a0 r6 r7 r8 r9 fuel 0) fun r => match r with
          | .x0  => some (.v0 )
          | .x1  => bindR (f45_l1 o fuel a5 a0 r6 r7 r8 r9 a1 a4 a2 a3 fuel 0) fun r => match r with
            | .x0  => some (.v0 )
            | .x1  => ifB (o.band (o.cmp .eql a1 0) (o.bnot (o.pick (o.cmp .gtr (o.len a2) 0) true (o.cmp .gtr (o.len a4) 0))))
              (bindR (f29 o fuel r7 a3) fun r => match r with
               | .v0 r39 => ifB (o.pick (o.cmp .eql a1 0) (o.pick (o.pick (o.cmp .gtr (o.len a2) 0) true (o.cmp .gtr (o.len a4) 0)) true (o.bnot r39)) false)
                 (some (.v0 ))
                 (req (o.room [] a2 16) <|
                  req (o.room [] a3 8) <|
                  req (o.room [] a4 8) <|
                  bindR (f45_l2 o fuel a5 a1 a2 a3 a4 a0 fuel 0 0 []) fun r => match r with
                  | .x0 y73 _ => some (.v1 (o.apnd [] a2) (o.apnd [] a3) (o.apnd [] a4) y73)))
              (ifB (o.pick (o.cmp .eql a1 0) (o.pick (o.pick (o.cmp .gtr (o.len a2) 0) true (o.cmp .gtr (o.len a4) 0)) true true) false)
               (some (.v0 ))
               (req (o.room [] a2 16) <|
                req (o.room [] a3 8) <|
                req (o.room [] a4 8) <|
                bindR (f45_l3 o fuel a5 a1 a2 a3 a4 a0 fuel 0 0 []) fun r => match r with
                | .x0 y108 _ => some (.v1 (o.apnd [] a2) (o.apnd [] a3) (o.apnd [] a4) y108)))))
set_option maxHeartbeats 4000000 in
set_option maxRecDepth 100000 in
theorem f45_call (o : Ops) (ho : o = stdOps) (fuel : Nat) (a0 : Int) (a1 : Int) (a2 : List AV) (a3 : List AV) (a4 : List AV) (a5 : List AV) {R : F45R} (H : f45 o fuel a0 a1 a2 a3 a4 a5 = some R) (K : AV → List Ent → Prop) (E : AV → List Ent → Prop) (h : K R.av (F45R.hp a0 a1 R)) : CallA Try.prog 45 [.int .i64 a0, .agg [.int .i64 a1, .sl 2 a2 .no, .sl 1 a3 .no, .sl 1 a4 .no, .sl 5 a5 .no]] [] K E := by
  refine call_wk fun K' hK => ?_
  refine call_keep (n₀ := 0) tab_ok Try.func45 rfl rfl rfl rfl ?_
  intro J hJ
  obtain rfl : o = J.o := by rw [ho, hJ]; rfl
  unfold f45 at H
  cbv
  repeat' (first
    | ((with_reducible first | refine awp_go2 ?_ | refine aops_go2 ?_ | refine strip_go2 ?_ | refine draw_go2 ?_ | refine frames_go2 ?_); cbv)
    | (with_reducible refine hold_go hJ ?_; cbv)
    | with_reducible exact id
    | exact trivial
    | with_reducible exact rfl
    | with_reducible exact ⟨_, rfl⟩
    | exact none_go H
    | (cases H; replace H := HX3; clear HX3; (try dsimp only at H))
    | (cases H; replace H := HX2; clear HX2; (try dsimp only at H))
    | (cases H; replace H := HX1; clear HX1; (try dsimp only at H))
    | (cases H; replace H := HX0; clear HX0; (try dsimp only at H))
    | (refine KeepQ.mk [] (by decide) ?_; cbv; cases H; refine hK _ _ _ _ ?_ ?_ rfl h <;> cbv)
    | (refine KeepQ.mk [1] (by decide) ?_; cbv; cases H; refine hK _ _ _ _ ?_ ?_ rfl h <;> cbv)
    | (refine hN0 _ _ _ H ?_; with_reducible refine wkEnv_go2 ?_; cbv)
    | (refine hN1 _ _ _ H ?_; with_reducible refine wkEnv_go2 ?_; cbv)
    | (refine hN2 _ _ _ _ _ H ?_; with_reducible refine wkEnv_go2 ?_; cbv)
    | (refine hN3 _ _ _ _ _ H ?_; with_reducible refine wkEnv_go2 ?_; cbv)
    | (first | refine known_t (kn_bnot_t ho (kn_cmp ho (by decide))) ?_ | refine known_y (kn_bnot_t ho (kn_cmp ho (by decide))) ?_)
    | (first | refine known_f (kn_bnot_f ho (kn_cmp ho (by decide))) ?_ | refine known_x (kn_bnot_f ho (kn_cmp ho (by decide))) ?_)
    | (first | refine known_f (kn_band_g ho (kn_cmp ho (by decide))) ?_ | refine known_x (kn_band_g ho (kn_cmp ho (by decide))) ?_)
    | (first | refine known_t (by assumption) ?_ | refine known_y (by assumption) ?_)
    | (first | refine known_f (by assumption) ?_ | refine known_x (by assumption) ?_)
    | (first | refine known_f (kn_band_f ho (kn_bnot_f ho (kn_pick_t ho (ku_bnot_f ho (by assumption)) rfl))) ?_ | refine known_x (kn_band_f ho (kn_bnot_f ho (kn_pick_t ho (ku_bnot_f ho (by assumption)) rfl))) ?_)
    | (first | refine known_t (kn_pick_t ho (kn_pick_t ho (ku_bnot_f ho (by assumption)) rfl) rfl) ?_ | refine known_y (kn_pick_t ho (kn_pick_t ho (ku_bnot_f ho (by assumption)) rfl) rfl) ?_)
    | (refine ifB_go H ?_ ?_ <;> clear H <;> intro hh H)
    | (refine ifB_og H ?_ ?_ <;> clear H <;> intro hh H)
    | (refine req_go H ?_; clear H; intro hh H)
    | (refine gg_t ho H ?_ ?_ <;> clear H <;> intro hh H)
    | (refine gg_f ho H ?_ ?_ <;> clear H <;> intro hh H)
    | (refine bit_go ho H ?_ ?_ <;> clear H <;> intro hh H; (all_goals cbv))
    | (refine nil_go H ?_; clear H; intro b H; cbv)
    | (refine tok_go ?_; cbv)
    | (refine sh2_get H ?_; clear H; intro _ he H; cbv)
    | (refine sh2_find H ?_ ?_ <;> clear H; (intro _ H; cbv); rotate_left; (intro H; cbv))
    | (refine sh31_get H ?_; clear H; intro _ _ _ _ _ he H; cbv)
    | (refine sh31_find H ?_ ?_ <;> clear H; (intro _ _ _ _ _ H; cbv); rotate_left; (intro H; cbv))
    | (refine getA_go (β := UInt8) H ?_; clear H; intro e H; cbv)
    | (obtain ⟨R, hR, H2⟩ := bindR_go H; refine call_in hJ [] (by decide) rfl rfl rfl (f82_call _ ho _ _ hR _ _ ?_); clear H hR; rcases R with ⟨_⟩; all_goals (replace H := H2; clear H2; (try dsimp only at H); cbv))
    | (obtain ⟨R, hR, H2⟩ := bindR_go H; refine call_in hJ [] (by decide) rfl rfl rfl (f103_call _ ho _ _ _ hR _ _ ?_); clear H hR; rcases R with ⟨_⟩; all_goals (replace H := H2; clear H2; (try dsimp only at H); cbv))
    | (obtain ⟨R, hR, H2⟩ := bindR_go H; refine call_in hJ [1] (by decide) rfl rfl rfl (f21_call _ ho _ _ _ _ _ _ _ _ _ _ _ _ hR _ _ ?_); clear H hR; rcases R with ⟨_⟩; all_goals (replace H := H2; clear H2; (try dsimp only at H); cbv))
    | (obtain ⟨R, hR, H2⟩ := bindR_go H; refine call_in hJ [] (by decide) rfl rfl rfl (f104_call _ ho _ _ _ _ _ _ hR _ _ ?_); clear H hR; rcases R with ⟨_, _, _, _, _⟩; all_goals (replace H := H2; clear H2; (try dsimp only at H); cbv))
    | (obtain ⟨R, hR, H2⟩ := bindR_go H; refine call_in hJ [] (by decide) rfl rfl rfl (f29_call _ ho _ _ _ hR _ _ ?_); clear H hR; rcases R with ⟨_⟩; all_goals (replace H := H2; clear H2; (try dsimp only at H); cbv))
    | (obtain ⟨R, hR, H2⟩ := bindR_go H; refine call_in hJ [1] (by decide) rfl rfl rfl (f83_call _ ho _ _ _ _ _ _ _ _ hR _ _ ?_); clear H hR; rcases R with ⟨_⟩; all_goals (replace H := H2; clear H2; (try dsimp only at H); cbv))
    | (obtain ⟨R, hR, H2⟩ := bindR_go H; refine call_in hJ [] (by decide) rfl rfl rfl (f102_call _ ho _ _ hR _ _ ?_); clear H hR; rcases R with ⟨_⟩; all_goals (replace H := H2; clear H2; (try dsimp only at H); cbv))
    | (obtain ⟨R, hR, H2⟩ := bindR_go H; refine call_in hJ [] (by decide) rfl rfl rfl (f19_1_call _ ho _ _ hR _ _ ?_); clear H hR; rcases R with ⟨⟩ | ⟨_, _, _, _⟩; all_goals (replace H := H2; clear H2; (try dsimp only at H); cbv))
    | (refine f45_l0_go hJ (o := J.o) rfl H (by decide) ⟨?_, ?_, rfl, rfl⟩ ?_
       · cbv
         repeat' (first | exact trivial | exact rfl | apply And.intro)
       · cbv
         repeat' (first | exact trivial | exact rfl | apply And.intro)
       clear H
       intro X0 HX0 n _ H Nx0 hN0
       rw [f45_l0] at H
       cbv)
    | (refine f45_l1_go hJ (o := J.o) rfl H (by decide) ⟨?_, ?_, rfl, rfl⟩ ?_
       · cbv
         repeat' (first | exact trivial | exact rfl | apply And.intro)
       · cbv
         repeat' (first | exact trivial | exact rfl | apply And.intro)
       clear H
       intro X1 HX1 n _ H Nx1 hN1
       rw [f45_l1] at H
       cbv)
    | (refine f45_l2_go hJ (o := J.o) rfl H (by decide) (Turn.trans (turn_tip 1 5 5 rfl rfl (leN_t rfl)) (Turn.le ⟨?_, ?_, rfl, rfl⟩ (leN_t rfl))) ?_
       · cbv
         repeat' (first | exact trivial | exact rfl | apply And.intro)
       · cbv
         repeat' (first | exact trivial | exact rfl | apply And.intro)
       clear H
       intro X2 HX2 n _ _ _ H Nx2 hN2
       rw [f45_l2] at H
       cbv)
    | (refine f45_l3_go hJ (o := J.o) rfl H (by decide) (Turn.trans (turn_tip 1 5 5 rfl rfl (leN_t rfl)) (Turn.le ⟨?_, ?_, rfl, rfl⟩ (leN_t rfl))) ?_
       · cbv
         repeat' (first | exact trivial | exact rfl | apply And.intro)
       · cbv
         repeat' (first | exact trivial | exact rfl | apply And.intro)
       clear H
       intro X3 HX3 n _ _ _ H Nx3 hN3
       rw [f45_l3] at H
       cbv)
    | (refine lit_t ?_; cbv)
    | (refine lit_f ?_; cbv)
    | (refine known_t (by assumption) ?_)
    | (refine known_f (by assumption) ?_)
    | (refine known_x (by assumption) ?_)
    | (refine known_y (by assumption) ?_)
    | (refine known_get (by assumption) ?_; cbv)
    | (refine known_and (by assumption) ?_)
    | with_reducible refine And.intro ?_ ?_
    | (intro hh; exact hh)
    | (intro _; assumption)
    | (intro hx; first | exact tf_absurd hx (by assumption) | exact tf_absurd (by assumption) hx)
    | (intro _; clear H h; (try clear hN0); (try clear HX0); (try clear hN1); (try clear HX1); (try clear hN2); (try clear HX2); (try clear hN3); (try clear HX3); simp only [ho, stdOps] at *; simp_all)
    | (cbv; with_reducible refine hold_go hJ ?_; cbv))

end Go.Proofs.Ytjdbmfipciadfaa.A
