/- Functions of the program and of the document's answer, as plain ones. Written by lift.py. -/
import Derived.Test.YtjdbmfipciadfaaSx0
import Derived.Test.YtjdbmfipciadfaaSx4
import Derived.Test.YtjdbmfipciadfaaSx9
import Derived.Test.YtjdbmfipciadfaaSx3
import Derived.Test.YtjdbmfipciadfaaSx6
import Derived.Test.YtjdbmfipciadfaaSx7
import Derived.Test.YtjdbmfipciadfaaSx5
import Derived.Test.YtjdbmfipciadfaaSx1

namespace Go.Proofs.Ytjdbmfipciadfaa.A
open Go Go.Pt

/-! pontoon/pontoonlaw15.SinkFenced -/
inductive F4R where
  | v0 (y0 : Bool)
def F4R.av : F4R → AV
  | .v0 y0 => .bool y0
def F4R.hp : F4R → List Ent
  | .v0 _ => []
inductive F4L0 where
  | x0 
  | x1 (y0 : Int) (y1 : Int) (y2 : List AV) (y3 : Nat) (y4 : List AV) (y5 : List (AV × AV)) (y6 : List (AV × AV))
noncomputable def f4_l0 (o : Ops) (fuel : Nat) (a0 : List AV) (a1 : List AV) : Nat → Nat → Int → Int → Int → List AV → List AV → List (AV × AV) → List (AV × AV) → Option F4L0
  | 0, _, _, _, _, _, _, _, _ => none
  | n + 1, w48, w49, w50, w51, w52, w53, w54, w55 =>
    ifB (o.cmp .lss w50 (o.len a0))
    (req (o.inb w50 (o.len a0)) <|
     getA (o.get a0 w50) fun e => sh33 e fun v56 v57 v58 v59 v60 v61 =>
     ifB (o.cmp .eql v56 0)
     (bindR (f24 o fuel w48 v57 2 w51 w52 w53 w54 w55) fun r => match r with
      | .v0 r62 r63 r64 r65 => ifB (o.bnot (o.cmp .eql r62 1))
        (bindR (f25 o fuel w48 2 r63 w52 w53 r64 r65) fun r => match r with
         | .v0 r66 => ifB (o.bnot (o.cmp .eql r66 (o.mx w49 v57)))
           (some (.x0 ))
           (f4_l0 o fuel a0 a1 n w48 (o.mx w49 v57) (o.ar .add .i64 w50 1) r63 w52 w53 r64 r65))
        (bindR (f25 o fuel w48 2 r63 w52 w53 r64 r65) fun r => match r with
         | .v0 r67 => ifB (o.bnot (o.cmp .eql r67 w49))
           (some (.x0 ))
           (f4_l0 o fuel a0 a1 n w48 w49 (o.ar .add .i64 w50 1) r63 w52 w53 r64 r65)))
     (ifB (o.cmp .eql v56 1)
      (bindR (f15 o fuel w48 v57 v58 v59 v60 v61 2 w51 w52 w53 w54 w55) fun r => match r with
       | .v0 r68 r69 r70 r71 => ifB (o.bnot (o.cmp .eql r68 1))
         (bindR (f25 o fuel w48 2 r69 w52 w53 r70 r71) fun r => match r with
          | .v0 r72 => ifB (o.bnot (o.cmp .eql r72 (o.mx w49 v57)))
            (some (.x0 ))
            (f4_l0 o fuel a0 a1 n w48 (o.mx w49 v57) (o.ar .add .i64 w50 1) r69 w52 w53 r70 r71))
         (bindR (f25 o fuel w48 2 r69 w52 w53 r70 r71) fun r => match r with
          | .v0 r73 => ifB (o.bnot (o.cmp .eql r73 w49))
            (some (.x0 ))
            (f4_l0 o fuel a0 a1 n w48 w49 (o.ar .add .i64 w50 1) r69 w52 w53 r70 r71)))
      (ifB (o.cmp .eql v56 2)
       (bindR (f17 o fuel v56 v57 v58 v59 v60 v61) fun r => match r with
        | .v0 r74 r75 => bindR (f16 o fuel w48 r74 r75 2 w51 w52 w53 w54 w55) fun r => match r with
          | .v0 r76 r77 r78 r79 r80 r81 r82 => ifB (o.bnot (o.cmp .eql r76 1))
            (bindR (f25 o fuel r79 2 r77 r78 r80 r81 r82) fun r => match r with
             | .v0 r83 => ifB (o.bnot (o.cmp .eql r83 (o.mx w49 v57)))
               (some (.x0 ))
               (f4_l0 o fuel a0 a1 n r79 (o.mx w49 v57) (o.ar .add .i64 w50 1) r77 r78 r80 r81 r82))
            (bindR (f25 o fuel r79 2 r77 r78 r80 r81 r82) fun r => match r with
             | .v0 r84 => ifB (o.bnot (o.cmp .eql r84 w49))
               (some (.x0 ))
               (f4_l0 o fuel a0 a1 n r79 w49 (o.ar .add .i64 w50 1) r77 r78 r80 r81 r82)))
       (ifB (o.cmp .eql v56 3)
        (bindR (f17 o fuel v56 v57 v58 v59 v60 v61) fun r => match r with
         | .v0 r85 r86 => bindR (f22 o fuel w48 r85 r86 2 w51 w52 w53 w54 w55) fun r => match r with
           | .v0 r87 r88 r89 r90 => ifB (o.bnot (o.cmp .eql r87 1))
             (bindR (f25 o fuel w48 2 r88 w52 w53 r89 r90) fun r => match r with
              | .v0 r91 => ifB (o.bnot (o.cmp .eql r91 (o.mx w49 v57)))
                (some (.x0 ))
                (f4_l0 o fuel a0 a1 n w48 (o.mx w49 v57) (o.ar .add .i64 w50 1) r88 w52 w53 r89 r90))
             (bindR (f25 o fuel w48 2 r88 w52 w53 r89 r90) fun r => match r with
              | .v0 r92 => ifB (o.bnot (o.cmp .eql r92 w49))
                (some (.x0 ))
                (f4_l0 o fuel a0 a1 n w48 w49 (o.ar .add .i64 w50 1) r88 w52 w53 r89 r90)))
        (f4_l0 o fuel a0 a1 n w48 w49 (o.ar .add .i64 w50 1) w51 w52 w53 w54 w55)))))
    (some (.x1 w49 w51 w52 w48 w53 w54 w55))
theorem f4_l0_go {J : Jd} {n₀ : Nat} (hJ : J = std Try.prog n₀) {fuel : Nat} {a0 : List AV} {a1 : List AV} {w48i : Nat} {w49i : Int} {w50i : Int} {w51i : Int} {w52i : List AV} {w53i : List AV} {w54i : List (AV × AV)} {w55i : List (AV × AV)} {α : Type} {k : F4L0 → Option α} {r : α} {c : Code} {Q : Ex → St → Prop} {s : St}
    (H : bindR (f4_l0 J.o fuel a0 a1 fuel w48i w49i w50i w51i w52i w53i w54i w55i) k = some r) (hn : n₀ ≤ 4) (hle : Le s ⟨[(30, .int .i64 w50i), (29, .int .i64 (J.o.len a0)), (28, .sl 6 a0 .no), (7, .int .i64 w49i), (5, .ptr 0 0), (1, .sl 6 a1 .no)], [.var [.int .i64 2, .int .i64 w51i, .sl 2 w52i (.tip 1 w48i), .sl 1 w53i .no, .mp 2, .mp 3], .tip w48i, .mp w54i, .mp w55i], 138⟩)
    (round : ∀ X, k X = some r → ∀ (n : Nat) (w48 : Nat) (w49 : Int) (w50 : Int) (w51 : Int) (w52 : List AV) (w53 : List AV) (w54 : List (AV × AV)) (w55 : List (AV × AV)), f4_l0 J.o fuel a0 a1 (n + 1) w48 w49 w50 w51 w52 w53 w54 w55 = some X → ∀ N : St → Prop,
      (∀ (env : List (Nat × AV)) (w48' : Nat) (w49' : Int) (w50' : Int) (w51' : Int) (w52' : List AV) (w53' : List AV) (w54' : List (AV × AV)) (w55' : List (AV × AV)) (v : List Ent), f4_l0 J.o fuel a0 a1 n w48' w49' w50' w51' w52' w53' w54' w55' = some X → wkEnv env [(30, .int .i64 w50'), (29, .int .i64 (J.o.len a0)), (28, .sl 6 a0 .no), (7, .int .i64 w49'), (5, .ptr 0 0), (1, .sl 6 a1 .no)] → N ⟨env, [.var [.int .i64 2, .int .i64 w51', .sl 2 w52' (.tip 1 w48'), .sl 1 w53' .no, .mp 2, .mp 3], .tip w48', .mp w54', .mp w55'] ++ v, 138⟩) → awp J tab c (thenQ N Q) ⟨[(30, .int .i64 w50), (29, .int .i64 (J.o.len a0)), (28, .sl 6 a0 .no), (7, .int .i64 w49), (5, .ptr 0 0), (1, .sl 6 a1 .no)], [.var [.int .i64 2, .int .i64 w51, .sl 2 w52 (.tip 1 w48), .sl 1 w53 .no, .mp 2, .mp 3], .tip w48, .mp w54, .mp w55], 138⟩) : J.code (.loop c) Q s := by
  obtain ⟨X, hX, HX⟩ := bindR_go H
  refine loop_at (β := Nat × Nat × Int × Int × Int × List AV × List AV × List (AV × AV) × List (AV × AV)) hJ tab_ok (fun | (_, w48, w49, w50, w51, w52, w53, w54, w55) => ⟨[(30, .int .i64 w50), (29, .int .i64 (J.o.len a0)), (28, .sl 6 a0 .no), (7, .int .i64 w49), (5, .ptr 0 0), (1, .sl 6 a1 .no)], [.var [.int .i64 2, .int .i64 w51, .sl 2 w52 (.tip 1 w48), .sl 1 w53 .no, .mp 2, .mp 3], .tip w48, .mp w54, .mp w55], 138⟩) (fun | (n, w48, w49, w50, w51, w52, w53, w54, w55) => f4_l0 J.o fuel a0 a1 n w48 w49 w50 w51 w52 w53 w54 w55 = some X) (fun | (n, _, _, _, _, _, _, _, _) => n) (fuel, w48i, w49i, w50i, w51i, w52i, w53i, w54i, w55i) hX hle (by rintro ⟨_, _, _, _, _, _, _, _, _⟩; exact hn) ?_
  rintro ⟨n, w48, w49, w50, w51, w52, w53, w54, w55⟩ hb N hN
  rcases n with _ | n
  · exact none_go (show (none : Option F4L0) = some X from hb)
  exact round X HX n w48 w49 w50 w51 w52 w53 w54 w55 hb N fun env w48' w49' w50' w51' w52' w53' w54' w55' v h1 h2 => hN _ (n, w48', w49', w50', w51', w52', w53', w54', w55') h1 (Nat.lt_succ_self n) ⟨h2, by first | (cbv; done) | (cbv; repeat' (first | exact trivial | exact rfl | apply And.intro)), rfl, rfl⟩

inductive F4L1 where
  | x0 
  | x1 (y0 : Int) (y1 : List AV) (y2 : Nat) (y3 : List AV) (y4 : List (AV × AV)) (y5 : List (AV × AV))
noncomputable def f4_l1 (o : Ops) (fuel : Nat) (a1 : List AV) (y93 : Int) (r101 : Int) (r102 : Int) (r103 : List AV) (r104 : List AV) (r105 : List AV) (r106 : List AV) (r107 : Int) (r108 : List AV) (r109 : List AV) (r110 : List AV) (r111 : List AV) : Nat → Nat → Int → Int → List AV → List AV → List (AV × AV) → List (AV × AV) → Option F4L1
  | 0, _, _, _, _, _, _, _ => none
  | n + 1, w155, w156, w157, w158, w159, w160, w161 =>
    ifB (o.cmp .lss w156 (o.len a1))
    (req (o.inb w156 (o.len a1)) <|
     getA (o.get a1 w156) fun e => sh33 e fun v162 v163 v164 v165 v166 v167 =>
     ifB (o.pick (o.pick (o.pick (o.cmp .geq v163 y93) true (o.cmp .lss v163 1)) true (o.cmp .lss v164 1)) true (o.cmp .gtr v164 9007199254740992))
     (f4_l1 o fuel a1 y93 r101 r102 r103 r104 r105 r106 r107 r108 r109 r110 r111 n w155 (o.ar .add .i64 w156 1) w157 w158 w159 w160 w161)
     (bindR (f21 o fuel v163 v164 v165 v166 v167 r101 r102 r103 r104 r105 r106) fun r => match r with
      | .v0 r168 => ifB r168
        (bindR (f15 o fuel w155 v163 v164 v165 v166 v167 2 w157 w158 w159 w160 w161) fun r => match r with
         | .v0 r169 r170 r171 r172 => ifB (o.bnot (o.cmp .eql r169 150))
           (some (.x0 ))
           (bindR (f17 o fuel v162 v163 v164 v165 v166 v167) fun r => match r with
            | .v0 r173 r174 => bindR (f16 o fuel w155 r173 r174 2 r170 w158 w159 r171 r172) fun r => match r with
              | .v0 r175 r176 r177 r178 r179 r180 r181 => ifB (o.bnot (o.cmp .eql r175 150))
                (some (.x0 ))
                (bindR (f17 o fuel v162 v163 v164 v165 v166 v167) fun r => match r with
                 | .v0 r182 r183 => bindR (f22 o fuel r178 r182 r183 2 r176 r177 r179 r180 r181) fun r => match r with
                   | .v0 r184 r185 r186 r187 => ifB (o.bnot (o.cmp .eql r184 150))
                     (some (.x0 ))
                     (f4_l1 o fuel a1 y93 r101 r102 r103 r104 r105 r106 r107 r108 r109 r110 r111 n r178 (o.ar .add .i64 w156 1) r185 r177 r179 r186 r187))))
        (bindR (f17 o fuel v162 v163 v164 v165 v166 v167) fun r => match r with
         | .v0 r188 r189 => bindR (f16 o fuel w155 r188 r189 2 w157 w158 w159 w160 w161) fun r => match r with
           | .v0 r190 r191 r192 r193 r194 r195 r196 => ifB (o.bnot (o.cmp .eql r190 150))
             (some (.x0 ))
             (bindR (f17 o fuel v162 v163 v164 v165 v166 v167) fun r => match r with
              | .v0 r197 r198 => bindR (f22 o fuel r193 r197 r198 2 r191 r192 r194 r195 r196) fun r => match r with
                | .v0 r199 r200 r201 r202 => ifB (o.bnot (o.cmp .eql r199 150))
                  (some (.x0 ))
                  (f4_l1 o fuel a1 y93 r101 r102 r103 r104 r105 r106 r107 r108 r109 r110 r111 n r193 (o.ar .add .i64 w156 1) r200 r192 r194 r201 r202)))))
    (some (.x1 w157 w158 w155 w159 w160 w161))
theorem f4_l1_go {J : Jd} {n₀ : Nat} (hJ : J = std Try.prog n₀) {fuel : Nat} {a1 : List AV} {y93 : Int} {r101 : Int} {r102 : Int} {r103 : List AV} {r104 : List AV} {r105 : List AV} {r106 : List AV} {r107 : Int} {r108 : List AV} {r109 : List AV} {r110 : List AV} {r111 : List AV} {w155i : Nat} {w156i : Int} {w157i : Int} {w158i : List AV} {w159i : List AV} {w160i : List (AV × AV)} {w161i : List (AV × AV)} {α : Type} {k : F4L1 → Option α} {r : α} {c : Code} {Q : Ex → St → Prop} {s : St}
    (H : bindR (f4_l1 J.o fuel a1 y93 r101 r102 r103 r104 r105 r106 r107 r108 r109 r110 r111 fuel w155i w156i w157i w158i w159i w160i w161i) k = some r) (hn : n₀ ≤ 6) (hle : Le s ⟨[(81, .int .i64 w156i), (80, .int .i64 (J.o.len a1)), (79, .sl 6 a1 .no), (13, .ptr 5 0), (11, .ptr 4 0), (7, .int .i64 y93), (5, .ptr 0 0)], [.var [.int .i64 2, .int .i64 w157i, .sl 2 w158i (.tip 1 w155i), .sl 1 w159i .no, .mp 2, .mp 3], .tip w155i, .mp w160i, .mp w161i, .var [.int .i64 r101, .int .i64 r102, .sl 2 r103 .no, .sl 1 r104 .no, .sl 1 r105 .no, .sl 5 r106 .no], .var [.int .i64 r107, .sl 2 r108 .no, .sl 1 r109 .no, .sl 1 r110 .no, .sl 5 r111 .no]], 138⟩)
    (round : ∀ X, k X = some r → ∀ (n : Nat) (w155 : Nat) (w156 : Int) (w157 : Int) (w158 : List AV) (w159 : List AV) (w160 : List (AV × AV)) (w161 : List (AV × AV)), f4_l1 J.o fuel a1 y93 r101 r102 r103 r104 r105 r106 r107 r108 r109 r110 r111 (n + 1) w155 w156 w157 w158 w159 w160 w161 = some X → ∀ N : St → Prop,
      (∀ (env : List (Nat × AV)) (w155' : Nat) (w156' : Int) (w157' : Int) (w158' : List AV) (w159' : List AV) (w160' : List (AV × AV)) (w161' : List (AV × AV)) (v : List Ent), f4_l1 J.o fuel a1 y93 r101 r102 r103 r104 r105 r106 r107 r108 r109 r110 r111 n w155' w156' w157' w158' w159' w160' w161' = some X → wkEnv env [(81, .int .i64 w156'), (80, .int .i64 (J.o.len a1)), (79, .sl 6 a1 .no), (13, .ptr 5 0), (11, .ptr 4 0), (7, .int .i64 y93), (5, .ptr 0 0)] → N ⟨env, [.var [.int .i64 2, .int .i64 w157', .sl 2 w158' (.tip 1 w155'), .sl 1 w159' .no, .mp 2, .mp 3], .tip w155', .mp w160', .mp w161', .var [.int .i64 r101, .int .i64 r102, .sl 2 r103 .no, .sl 1 r104 .no, .sl 1 r105 .no, .sl 5 r106 .no], .var [.int .i64 r107, .sl 2 r108 .no, .sl 1 r109 .no, .sl 1 r110 .no, .sl 5 r111 .no]] ++ v, 138⟩) → awp J tab c (thenQ N Q) ⟨[(81, .int .i64 w156), (80, .int .i64 (J.o.len a1)), (79, .sl 6 a1 .no), (13, .ptr 5 0), (11, .ptr 4 0), (7, .int .i64 y93), (5, .ptr 0 0)], [.var [.int .i64 2, .int .i64 w157, .sl 2 w158 (.tip 1 w155), .sl 1 w159 .no, .mp 2, .mp 3], .tip w155, .mp w160, .mp w161, .var [.int .i64 r101, .int .i64 r102, .sl 2 r103 .no, .sl 1 r104 .no, .sl 1 r105 .no, .sl 5 r106 .no], .var [.int .i64 r107, .sl 2 r108 .no, .sl 1 r109 .no, .sl 1 r110 .no, .sl 5 r111 .no]], 138⟩) : J.code (.loop c) Q s := by
  obtain ⟨X, hX, HX⟩ := bindR_go H
  refine loop_at (β := Nat × Nat × Int × Int × List AV × List AV × List (AV × AV) × List (AV × AV)) hJ tab_ok (fun | (_, w155, w156, w157, w158, w159, w160, w161) => ⟨[(81, .int .i64 w156), (80, .int .i64 (J.o.len a1)), (79, .sl 6 a1 .no), (13, .ptr 5 0), (11, .ptr 4 0), (7, .int .i64 y93), (5, .ptr 0 0)], [.var [.int .i64 2, .int .i64 w157, .sl 2 w158 (.tip 1 w155), .sl 1 w159 .no, .mp 2, .mp 3], .tip w155, .mp w160, .mp w161, .var [.int .i64 r101, .int .i64 r102, .sl 2 r103 .no, .sl 1 r104 .no, .sl 1 r105 .no, .sl 5 r106 .no], .var [.int .i64 r107, .sl 2 r108 .no, .sl 1 r109 .no, .sl 1 r110 .no, .sl 5 r111 .no]], 138⟩) (fun | (n, w155, w156, w157, w158, w159, w160, w161) => f4_l1 J.o fuel a1 y93 r101 r102 r103 r104 r105 r106 r107 r108 r109 r110 r111 n w155 w156 w157 w158 w159 w160 w161 = some X) (fun | (n, _, _, _, _, _, _, _) => n) (fuel, w155i, w156i, w157i, w158i, w159i, w160i, w161i) hX hle (by rintro ⟨_, _, _, _, _, _, _, _⟩; exact hn) ?_
  rintro ⟨n, w155, w156, w157, w158, w159, w160, w161⟩ hb N hN
  rcases n with _ | n
  · exact none_go (show (none : Option F4L1) = some X from hb)
  exact round X HX n w155 w156 w157 w158 w159 w160 w161 hb N fun env w155' w156' w157' w158' w159' w160' w161' v h1 h2 => hN _ (n, w155', w156', w157', w158', w159', w160', w161') h1 (Nat.lt_succ_self n) ⟨h2, by first | (cbv; done) | (cbv; repeat' (first | exact trivial | exact rfl | apply And.intro)), rfl, rfl⟩

noncomputable def f4 (o : Ops) (fuel : Nat) (a0 : List AV) (a1 : List AV) : Option F4R :=
  bindR (f13 o fuel ) fun r => match r with
  | .v0 r2 => ifB (o.bnot r2)
    (some (.v0 false))
    (bindR (f14 o fuel 2) fun r => match r with
     | .v0 _ => some (.v0 false)
     | .v1 r4 r5 r6 r7 r8 r9 r10 => ifB (o.pick (o.bnot (o.cmp .eql r4 0)) true false)
       (some (.v0 false))
       (bindR (f4_l0 o fuel a0 a1 fuel r7 0 0 r5 r6 r8 r9 r10) fun r => match r with
        | .x0  => some (.v0 false)
        | .x1 y93 y94 y95 y96 y97 y98 y99 => bindR (f19 o fuel ) fun r => match r with
          | .v0 _ r101 r102 r103 r104 r105 r106 => bindR (f18 o fuel y96 2 y94 y95 y97 y98 y99) fun r => match r with
            | .v0 r107 r108 r109 r110 r111 r112 r113 => bindR (f4_l1 o fuel a1 y93 r101 r102 r103 r104 r105 r106 r107 r108 r109 r110 r111 fuel y96 0 y94 y95 y97 r112 r113) fun r => match r with
              | .x0  => some (.v0 false)
              | .x1 y203 y204 y205 y206 y207 y208 => bindR (f18 o fuel y205 2 y203 y204 y206 y207 y208) fun r => match r with
                | .v0 r209 r210 r211 r212 r213 _ _ => bindR (f23 o fuel r209 r210 r211 r212 r213 r107 r108 r109 r110 r111) fun r => match r with
                  | .v0 r216 => some (.v0 r216)))
set_option maxHeartbeats 4000000 in
set_option maxRecDepth 100000 in
theorem f4_call (o : Ops) (ho : o = stdOps) (fuel : Nat) (a0 : List AV) (a1 : List AV) {R : F4R} (H : f4 o fuel a0 a1 = some R) (K : AV → List Ent → Prop) (E : AV → List Ent → Prop) (h : K R.av R.hp) : CallA Try.prog 4 [.sl 6 a0 .no, .sl 6 a1 .no] [] K E := by
  refine call_wk fun K' hK => ?_
  refine call_keep (n₀ := 0) tab_ok Try.func4 rfl rfl rfl rfl ?_
  intro J hJ
  obtain rfl : o = J.o := by rw [ho, hJ]; rfl
  unfold f4 at H
  cbv
  repeat' (first
    | ((with_reducible first | refine awp_go2 ?_ | refine aops_go2 ?_ | refine strip_go2 ?_ | refine draw_go2 ?_ | refine frames_go2 ?_); cbv)
    | (with_reducible refine hold_go hJ ?_; cbv)
    | with_reducible exact id
    | exact trivial
    | with_reducible exact rfl
    | with_reducible exact ⟨_, rfl⟩
    | exact none_go H
    | (cases H; replace H := HX1; clear HX1; dsimp only at H)
    | (cases H; replace H := HX0; clear HX0; dsimp only at H)
    | (refine KeepQ.mk [] (by decide) ?_; cbv; cases H; refine hK _ _ _ _ ?_ ?_ rfl h <;> cbv)
    | (refine hN0 _ _ _ _ _ _ _ _ _ _ H ?_; with_reducible refine wkEnv_go2 ?_; cbv)
    | (refine hN1 _ _ _ _ _ _ _ _ _ H ?_; with_reducible refine wkEnv_go2 ?_; cbv)
    | (first | refine known_t (kn_pick_s ho rfl rfl) ?_ | refine known_y (kn_pick_s ho rfl rfl) ?_)
    | (refine ifB_go H ?_ ?_ <;> clear H <;> intro hh H)
    | (refine ifB_og H ?_ ?_ <;> clear H <;> intro hh H)
    | (refine req_go H ?_; clear H; intro hh H)
    | (refine gg_t ho H ?_ ?_ <;> clear H <;> intro hh H)
    | (refine gg_f ho H ?_ ?_ <;> clear H <;> intro hh H)
    | (refine bit_go ho H ?_ ?_ <;> clear H <;> intro hh H; (all_goals cbv))
    | (refine nil_go H ?_; clear H; intro b H; cbv)
    | (refine tok_go ?_; cbv)
    | (refine sh33_get H ?_; clear H; intro _ _ _ _ _ _ he H; cbv)
    | (refine sh33_find H ?_ ?_ <;> clear H; (intro _ _ _ _ _ _ H; cbv); rotate_left; (intro H; cbv))
    | (refine getA_go (β := UInt8) H ?_; clear H; intro e H; cbv)
    | (obtain ⟨R, hR, H2⟩ := bindR_go H; refine call_in hJ [0, 1, 2, 3] (by decide) rfl rfl rfl (f25_call _ ho _ _ _ _ _ _ _ _ hR _ _ ?_); clear H hR; rcases R with ⟨_⟩; all_goals (replace H := H2; clear H2; dsimp only at H; cbv))
    | (obtain ⟨R, hR, H2⟩ := bindR_go H; refine call_in hJ [0, 1, 2, 3] (by decide) rfl rfl rfl (f24_call _ ho _ _ _ _ _ _ _ _ _ hR _ _ ?_); clear H hR; rcases R with ⟨_, _, _, _⟩; all_goals (replace H := H2; clear H2; dsimp only at H; cbv))
    | (obtain ⟨R, hR, H2⟩ := bindR_go H; refine call_in hJ [0, 1, 2, 3] (by decide) rfl rfl rfl (f15_call _ ho _ _ _ _ _ _ _ _ _ _ _ _ _ hR _ _ ?_); clear H hR; rcases R with ⟨_, _, _, _⟩; all_goals (replace H := H2; clear H2; dsimp only at H; cbv))
    | (obtain ⟨R, hR, H2⟩ := bindR_go H; refine call_in hJ [0, 1, 2, 3] (by decide) rfl rfl rfl (f16_call _ ho _ _ _ _ _ _ _ _ _ _ hR _ _ ?_); clear H hR; rcases R with ⟨_, _, _, _, _, _, _⟩; all_goals (replace H := H2; clear H2; dsimp only at H; cbv))
    | (obtain ⟨R, hR, H2⟩ := bindR_go H; refine call_in hJ [] (by decide) rfl rfl rfl (f17_call _ ho _ _ _ _ _ _ _ hR _ _ ?_); clear H hR; rcases R with ⟨_, _⟩; all_goals (replace H := H2; clear H2; dsimp only at H; cbv))
    | (obtain ⟨R, hR, H2⟩ := bindR_go H; refine call_in hJ [0, 1, 2, 3] (by decide) rfl rfl rfl (f22_call _ ho _ _ _ _ _ _ _ _ _ _ hR _ _ ?_); clear H hR; rcases R with ⟨_, _, _, _⟩; all_goals (replace H := H2; clear H2; dsimp only at H; cbv))
    | (obtain ⟨R, hR, H2⟩ := bindR_go H; refine call_in hJ [4] (by decide) rfl rfl rfl (f21_call _ ho _ _ _ _ _ _ _ _ _ _ _ _ hR _ _ ?_); clear H hR; rcases R with ⟨_⟩; all_goals (replace H := H2; clear H2; dsimp only at H; cbv))
    | (obtain ⟨R, hR, H2⟩ := bindR_go H; refine call_in hJ [] (by decide) rfl rfl rfl (f23_call _ ho _ _ _ _ _ _ _ _ _ _ _ hR _ _ ?_); clear H hR; rcases R with ⟨_⟩; all_goals (replace H := H2; clear H2; dsimp only at H; cbv))
    | (obtain ⟨R, hR, H2⟩ := bindR_go H; refine call_in hJ [0, 1, 2, 3] (by decide) rfl rfl rfl (f18_call _ ho _ _ _ _ _ _ _ _ hR _ _ ?_); clear H hR; rcases R with ⟨_, _, _, _, _, _, _⟩; all_goals (replace H := H2; clear H2; dsimp only at H; cbv))
    | (obtain ⟨R, hR, H2⟩ := bindR_go H; refine call_in hJ [] (by decide) rfl rfl rfl (f19_call _ ho _  hR _ _ ?_); clear H hR; rcases R with ⟨_, _, _, _, _, _, _⟩; all_goals (replace H := H2; clear H2; dsimp only at H; cbv))
    | (obtain ⟨R, hR, H2⟩ := bindR_go H; refine call_in hJ [] (by decide) rfl rfl rfl (f14_call _ ho _ _ hR _ _ ?_); clear H hR; rcases R with ⟨_⟩ | ⟨_, _, _, _, _, _, _⟩; all_goals (replace H := H2; clear H2; dsimp only at H; cbv))
    | (obtain ⟨R, hR, H2⟩ := bindR_go H; refine call_in hJ [] (by decide) rfl rfl rfl (f13_call _ ho _  hR _ _ ?_); clear H hR; rcases R with ⟨_⟩; all_goals (replace H := H2; clear H2; dsimp only at H; cbv))
    | (refine f4_l0_go hJ H (by decide) ⟨?_, ?_, rfl, rfl⟩ ?_
       · cbv
         repeat' (first | exact trivial | exact rfl | apply And.intro)
       · cbv
         repeat' (first | exact trivial | exact rfl | apply And.intro)
       clear H
       intro X0 HX0 n _ _ _ _ _ _ _ _ H Nx0 hN0
       rw [f4_l0] at H
       cbv)
    | (refine f4_l1_go hJ H (by decide) ⟨?_, ?_, rfl, rfl⟩ ?_
       · cbv
         repeat' (first | exact trivial | exact rfl | apply And.intro)
       · cbv
         repeat' (first | exact trivial | exact rfl | apply And.intro)
       clear H
       intro X1 HX1 n _ _ _ _ _ _ _ H Nx1 hN1
       rw [f4_l1] at H
       cbv)
    | (refine lit_t ?_; cbv)
    | (refine lit_f ?_; cbv)
    | (refine known_t (by assumption) ?_)
    | (refine known_f (by assumption) ?_)
    | (refine known_x (by assumption) ?_)
    | (refine known_y (by assumption) ?_)
    | (refine known_get (by assumption) ?_; cbv)
    | (refine known_and (by assumption) ?_)
    | with_reducible refine And.intro ?_ ?_
    | (intro hh; exact hh)
    | (intro _; assumption)
    | (intro hx; first | exact tf_absurd hx (by assumption) | exact tf_absurd (by assumption) hx)
    | (intro _; clear H h; (try clear hN0); (try clear HX0); (try clear hN1); (try clear HX1); simp only [ho, stdOps] at *; simp_all)
    | (cbv; with_reducible refine hold_go hJ ?_; cbv))

end Go.Proofs.Ytjdbmfipciadfaa.A
