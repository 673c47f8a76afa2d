/- Contracts by hand, as plain functions: the graph's checks, the law's live. -/
import Derived.Test.YtilffanmaicakaaMgC
import Derived.Test.YtilffanmaicakaaMaD
import Derived.Test.YtilffanmaicakaaMbT

namespace Go.Proofs.Ytilffanmaicakaa.A
open Go Go.Pt Go.Gr

/-- What a check tells of a graph. -/
noncomputable def chkF (n : Int) (os : List AV) : Option (Int × Int) :=
  @dite _ (∃ p : Int × Int, ∃ l : List Gr.Op, os = l.map Gr.Op.av ∧ (l.length : Int) < 2 ^ 48 ∧ Chk ⟨n, l⟩ p.1 p.2) (Classical.propDecidable _) (fun h => some (Classical.choose h)) (fun _ => none)
theorem chkF_some {n : Int} {os : List AV} {p : Int × Int} (h : chkF n os = some p) : ∃ l : List Gr.Op, os = l.map Gr.Op.av ∧ (l.length : Int) < 2 ^ 48 ∧ Chk ⟨n, l⟩ p.1 p.2 := by
  unfold chkF at h
  by_cases hx : ∃ p : Int × Int, ∃ l : List Gr.Op, os = l.map Gr.Op.av ∧ (l.length : Int) < 2 ^ 48 ∧ Chk ⟨n, l⟩ p.1 p.2
  · rw [dif_pos hx] at h
    obtain rfl := Option.some.inj h
    exact Classical.choose_spec hx
  · rw [dif_neg hx] at h; exact nomatch h
theorem op_av_inj : ∀ {x y : Gr.Op}, x.av = y.av → x = y := by
  have ed : ∀ {l m : List Ed}, l.map Ed.av = m.map Ed.av → l = m := by
    intro l
    induction l with
    | nil => intro m h; cases m with
      | nil => rfl
      | cons _ _ => simp at h
    | cons x l ih =>
      intro m h
      cases m with
      | nil => simp at h
      | cons y m =>
        rw [List.map_cons, List.map_cons, List.cons.injEq] at h
        obtain ⟨h1, h2⟩ := h
        obtain ⟨xf, xp⟩ := x
        obtain ⟨yf, yp⟩ := y
        simp only [Ed.av, AV.agg.injEq, List.cons.injEq, AV.int.injEq, true_and, and_true] at h1
        rw [ih h2, h1.1, h1.2]
  rintro ⟨k, p, f, a, i⟩ ⟨k', p', f', a', i'⟩ h
  simp only [Op.av, AV.agg.injEq, List.cons.injEq, AV.int.injEq, true_and, and_true, AV.sl.injEq] at h
  obtain ⟨rfl, rfl, rfl, rfl, h⟩ := h
  rw [ed h]
theorem ops_inj : ∀ {l m : List Gr.Op}, l.map Gr.Op.av = m.map Gr.Op.av → l = m
  | [], [], _ => rfl
  | [], _ :: _, h => by simp at h
  | _ :: _, [], h => by simp at h
  | x :: l, y :: m, h => by
    rw [List.map_cons, List.map_cons, List.cons.injEq] at h
    rw [op_av_inj h.1, ops_inj h.2]
theorem chkF_eq {n r e : Int} {l : List Gr.Op} (hl : (l.length : Int) < 2 ^ 48) (h : Chk ⟨n, l⟩ r e) : chkF n (l.map Gr.Op.av) = some (r, e) := by
  have hx : ∃ p : Int × Int, ∃ m : List Gr.Op, l.map Gr.Op.av = m.map Gr.Op.av ∧ (m.length : Int) < 2 ^ 48 ∧ Chk ⟨n, m⟩ p.1 p.2 := ⟨(r, e), l, rfl, hl, h⟩
  have h1 : chkF n (l.map Gr.Op.av) = some (Classical.choose hx) := by unfold chkF; rw [dif_pos hx]
  rw [h1]
  obtain ⟨m, hm, _, h2⟩ := Classical.choose_spec hx
  obtain rfl := ops_inj hm
  obtain ⟨h3, h4⟩ := h2.same h
  exact congrArg some (Prod.ext h3 h4)

inductive F26R where
  | v0 (y0 : Int) (y1 : Int)
def F26R.av : F26R → AV
  | .v0 y0 y1 => .tup [.int .i64 y0, .int .i64 y1]
def F26R.hp : F26R → List Ent
  | .v0 _ _ => []
noncomputable def f26 (_o : Ops) (_fuel : Nat) (a0 : Int) (a1 : List AV) : Option F26R := (chkF a0 a1).map fun p => .v0 p.1 p.2
theorem f26_call (o : Ops) (_ho : o = stdOps) (fuel : Nat) (a0 : Int) (a1 : List AV) {R : F26R} (H : f26 o fuel a0 a1 = some R) (K : AV → List Ent → Prop) (E : AV → List Ent → Prop) (h : K R.av R.hp) : CallA Try.prog 26 [.agg [.int .i64 a0, .sl 5 a1 .no]] [] K E := by
  unfold f26 at H
  obtain ⟨p, hp, rfl⟩ := Option.map_eq_some_iff.1 H
  obtain ⟨l, rfl, hl, hc⟩ := chkF_some hp
  refine check_call a0 l _ rfl _ rfl hl _ _ fun r e hc' => ?_
  obtain ⟨h1, h2⟩ := hc'.same hc
  rw [h1, h2]; exact h
inductive F27R where
  | v0 (y0 : Int) (y1 : Int)
def F27R.av : F27R → AV
  | .v0 y0 y1 => .tup [.int .i64 y0, .int .i64 y1]
def F27R.hp : F27R → List Ent
  | .v0 _ _ => []
noncomputable def f27 (_o : Ops) (_fuel : Nat) (a0 : Int) (a1 : List AV) : Option F27R := (chkF a0 a1).map fun p => .v0 p.1 p.2
theorem f27_call (o : Ops) (_ho : o = stdOps) (fuel : Nat) (a0 : Int) (a1 : List AV) {R : F27R} (H : f27 o fuel a0 a1 = some R) (K : AV → List Ent → Prop) (E : AV → List Ent → Prop) (h : K R.av R.hp) : CallA Try.prog 27 [.agg [.int .i64 a0, .sl 5 a1 .no]] [] K E := by
  unfold f27 at H
  obtain ⟨p, hp, rfl⟩ := Option.map_eq_some_iff.1 H
  obtain ⟨l, rfl, hl, hc⟩ := chkF_some hp
  refine check'_call a0 l _ rfl _ rfl hl _ _ fun r e hc' => ?_
  obtain ⟨h1, h2⟩ := hc'.same hc
  rw [h1, h2]; exact h
inductive F25R where
  | v0 (y0 : Bool)
def F25R.av : F25R → AV
  | .v0 y0 => .bool y0
def F25R.hp : F25R → List Ent
  | .v0 _ => []
def f25 (_o : Ops) (_fuel : Nat) : Option F25R := some (.v0 true)
theorem f25_call (o : Ops) (_ho : o = stdOps) (fuel : Nat) {R : F25R} (H : f25 o fuel = some R) (K : AV → List Ent → Prop) (E : AV → List Ent → Prop) (h : K R.av R.hp) : CallA Try.prog 25 [] [] K E := by
  obtain rfl := Option.some.inj H
  exact live_call _ _ h
end Go.Proofs.Ytilffanmaicakaa.A

/- Functions that the law GraphBytes reaches, as plain ones. Written by lift.py. -/
namespace Go.Proofs.Ytilffanmaicakaa.A
open Go Go.Pt

def sh74 {α : Type} (e : AV) (k : Int → Int → Option α) : Option α := match e with | .agg [.int .i64 x0, .int .i64 x1] => k x0 x1 | _ => none
theorem sh74_go {α : Type} {e : AV} {k : Int → Int → Option α} {r : α} {G : AV → Prop} (H : sh74 e k = some r) (h : ∀ (x0 : Int) (x1 : Int), k x0 x1 = some r → G (.agg [.int .i64 x0, .int .i64 x1])) : G e := by
  unfold sh74 at H
  split at H
  · exact h _ _ H
  · exact nomatch H
theorem sh74_get {α : Type} {x : Option AV} {k : Int → Int → Option α} {r : α} {G : AV → Prop} (H : getA x (fun e => sh74 e k) = some r) (h : ∀ (x0 : Int) (x1 : Int), x = some (.agg [.int .i64 x0, .int .i64 x1]) → k x0 x1 = some r → G (.agg [.int .i64 x0, .int .i64 x1])) : ∀ e, x = some e → G e := fun e he => by
  have H2 : sh74 e k = some r := by rw [he] at H; exact H
  unfold sh74 at H2
  split at H2
  · exact h _ _ he H2
  · exact nomatch H2
theorem sh74_find {α : Type} {x : Option AV} {k : Int → Int → Option α} {z : Option α} {r : α} {G1 : AV → Prop} {G2 : Prop} (H : findA x (fun e => sh74 e k) z = some r) (h1 : ∀ (x0 : Int) (x1 : Int), k x0 x1 = some r → G1 (.agg [.int .i64 x0, .int .i64 x1])) (h2 : z = some r → G2) : (∀ e, x = some e → G1 e) ∧ (x = none → G2) :=
  findA_go H (fun _ He => sh74_go He h1) h2

/-! slices.Equal[[]pontoon/api.Edge,pontoon/api.Edge] -/
inductive F92R where
  | v0 (y0 : Bool)
def F92R.av : F92R → AV
  | .v0 y0 => .bool y0
def F92R.hp : F92R → List Ent
  | .v0 _ => []
inductive F92L0 where
  | x0 
  | x1 
noncomputable def f92_l0 (o : Ops) (fuel : Nat) (a0 : List AV) (a1 : List AV) : Nat → Int → Option F92L0
  | 0, _ => none
  | n + 1, w6 =>
    ifB (o.cmp .lss w6 (o.len a0))
    (req (o.inb w6 (o.len a0)) <|
     getA (o.get a0 w6) fun e => sh74 e fun v7 v8 =>
     req (o.inb w6 (o.len a1)) <|
     getA (o.get a1 w6) fun e => sh74 e fun v9 v10 =>
     ifB (o.bnot (o.band (o.cmp .eql v7 v9) (o.cmp .eql v8 v10)))
     (some (.x0 ))
     (f92_l0 o fuel a0 a1 n (o.ar .add .i64 w6 1)))
    (some (.x1 ))
theorem f92_l0_go {J : Jd} {n₀ : Nat} (hJ : J = std Try.prog n₀) {fuel : Nat} {a0 : List AV} {a1 : List AV} {w6i : Int} {α : Type} {k : F92L0 → Option α} {r : α} {c : Code} {Q : Ex → St → Prop} {s : St}
    (H : bindR (f92_l0 J.o fuel a0 a1 fuel w6i) k = some r) (hn : n₀ ≤ 0) (hle : Le s ⟨[(13, .int .i64 w6i), (12, .int .i64 (J.o.len a0)), (1, .sl 2 a1 .no), (0, .sl 2 a0 .no)], [], 26⟩)
    (round : ∀ X, k X = some r → ∀ (n : Nat) (w6 : Int), f92_l0 J.o fuel a0 a1 (n + 1) w6 = some X → ∀ N : St → Prop,
      (∀ (env : List (Nat × AV)) (w6' : Int) (v : List Ent), f92_l0 J.o fuel a0 a1 n w6' = some X → wkEnv env [(13, .int .i64 w6'), (12, .int .i64 (J.o.len a0)), (1, .sl 2 a1 .no), (0, .sl 2 a0 .no)] → N ⟨env, [] ++ v, 26⟩) → awp J tab c (thenQ N Q) ⟨[(13, .int .i64 w6), (12, .int .i64 (J.o.len a0)), (1, .sl 2 a1 .no), (0, .sl 2 a0 .no)], [], 26⟩) : J.code (.loop c) Q s := by
  obtain ⟨X, hX, HX⟩ := bindR_go H
  refine loop_at (β := Nat × Int) hJ tab_ok (fun | (_, w6) => ⟨[(13, .int .i64 w6), (12, .int .i64 (J.o.len a0)), (1, .sl 2 a1 .no), (0, .sl 2 a0 .no)], [], 26⟩) (fun | (n, w6) => f92_l0 J.o fuel a0 a1 n w6 = some X) (fun | (n, _) => n) (fuel, w6i) hX hle (by rintro ⟨_, _⟩; exact hn) ?_
  rintro ⟨n, w6⟩ hb N hN
  rcases n with _ | n
  · exact none_go (show (none : Option F92L0) = some X from hb)
  exact round X HX n w6 hb N fun env w6' v h1 h2 => hN _ (n, w6') h1 (Nat.lt_succ_self n) ⟨h2, by cbv, rfl, rfl⟩

noncomputable def f92 (o : Ops) (fuel : Nat) (a0 : List AV) (a1 : List AV) : Option F92R :=
  ifB (o.bnot (o.cmp .eql (o.len a0) (o.len a1)))
  (some (.v0 false))
  (bindR (f92_l0 o fuel a0 a1 fuel 0) fun r => match r with
   | .x0  => some (.v0 false)
   | .x1  => some (.v0 true))
set_option maxHeartbeats 4000000 in
set_option maxRecDepth 100000 in
theorem f92_call (o : Ops) (ho : o = stdOps) (fuel : Nat) (a0 : List AV) (a1 : List AV) {R : F92R} (H : f92 o fuel a0 a1 = some R) (K : AV → List Ent → Prop) (E : AV → List Ent → Prop) (h : K R.av R.hp) : CallA Try.prog 92 [.sl 2 a0 .no, .sl 2 a1 .no] [] K E := by
  refine call_wk fun K' hK => ?_
  refine call_keep (n₀ := 0) tab_ok Try.func92 rfl rfl rfl rfl ?_
  intro J hJ
  obtain rfl : o = J.o := by rw [ho, hJ]; rfl
  unfold f92 at H
  cbv
  repeat' (first
    | ((with_reducible first | refine awp_go2 ?_ | refine aops_go2 ?_ | refine strip_go2 ?_ | refine draw_go2 ?_ | refine frames_go2 ?_); cbv)
    | with_reducible exact id
    | exact trivial
    | with_reducible exact rfl
    | with_reducible exact ⟨_, rfl⟩
    | exact none_go H
    | (cases H; replace H := HX0; clear HX0; dsimp only at H)
    | (refine KeepQ.mk [] (by decide) ?_; cbv; cases H; refine hK _ _ _ _ ?_ ?_ rfl h <;> cbv)
    | (refine hN0 _ _ _ H ?_; with_reducible refine wkEnv_go2 ?_; cbv)
    | (refine ifB_go H ?_ ?_ <;> clear H <;> intro hh H)
    | (refine ifB_og H ?_ ?_ <;> clear H <;> intro hh H)
    | (refine req_go H ?_; clear H; intro hh H)
    | (refine gg_t ho H ?_ ?_ <;> clear H <;> intro hh H)
    | (refine gg_f ho H ?_ ?_ <;> clear H <;> intro hh H)
    | (refine bit_go ho H ?_ ?_ <;> clear H <;> intro hh H; (all_goals cbv))
    | (refine nil_go H ?_; clear H; intro b H; cbv)
    | (refine tok_go ?_; cbv)
    | (refine sh74_get H ?_; clear H; intro _ _ he H; cbv)
    | (refine sh74_find H ?_ ?_ <;> clear H; (intro _ _ H; cbv); (intro H; cbv))
    | (refine getA_go (β := UInt8) H ?_; clear H; intro e H; cbv)
    | (refine f92_l0_go hJ H (by decide) ⟨?_, ?_, rfl, rfl⟩ ?_
       · cbv
         repeat' (first | exact trivial | exact rfl | apply And.intro)
       · cbv
         repeat' (first | exact trivial | exact rfl | apply And.intro)
       clear H
       intro X0 HX0 n _ H Nx0 hN0
       rw [f92_l0] at H
       cbv)
    | (refine lit_t ?_; cbv)
    | (refine lit_f ?_; cbv)
    | (refine known_t (by assumption) ?_)
    | (refine known_f (by assumption) ?_)
    | (refine known_x (by assumption) ?_)
    | (refine known_y (by assumption) ?_)
    | (refine known_get (by assumption) ?_; cbv)
    | (refine known_and (by assumption) ?_)
    | with_reducible refine And.intro ?_ ?_
    | (intro hh; exact hh)
    | (intro _; assumption)
    | (intro _; clear H h; (try clear hN0); (try clear HX0); simp only [ho, stdOps] at *; simp_all))

/-! pontoon/graph.Same$1 -/
inductive F91R where
  | v0 (y0 : Bool)
def F91R.av : F91R → AV
  | .v0 y0 => .bool y0
def F91R.hp : F91R → List Ent
  | .v0 _ => []
noncomputable def f91 (o : Ops) (fuel : Nat) (a0 : Int) (a1 : Int) (a2 : Int) (a3 : Int) (a4 : List AV) (a5 : Int) (a6 : Int) (a7 : Int) (a8 : Int) (a9 : List AV) : Option F91R :=
  ifB (o.pick (o.pick (o.pick (o.cmp .eql a0 a5) (o.cmp .eql a1 a6) false) (o.cmp .eql a2 a7) false) (o.cmp .eql a3 a8) false)
  (bindR (f92 o fuel a4 a9) fun r => match r with
   | .v0 r10 => some (.v0 r10))
  (some (.v0 false))
set_option maxHeartbeats 4000000 in
set_option maxRecDepth 100000 in
theorem f91_call (o : Ops) (ho : o = stdOps) (fuel : Nat) (a0 : Int) (a1 : Int) (a2 : Int) (a3 : Int) (a4 : List AV) (a5 : Int) (a6 : Int) (a7 : Int) (a8 : Int) (a9 : List AV) {R : F91R} (H : f91 o fuel a0 a1 a2 a3 a4 a5 a6 a7 a8 a9 = some R) (K : AV → List Ent → Prop) (E : AV → List Ent → Prop) (h : K R.av R.hp) : CallA Try.prog 91 [.agg [.int .i64 a0, .int .i64 a1, .int .i64 a2, .int .i64 a3, .sl 2 a4 .no], .agg [.int .i64 a5, .int .i64 a6, .int .i64 a7, .int .i64 a8, .sl 2 a9 .no]] [] K E := by
  refine call_wk fun K' hK => ?_
  refine call_keep (n₀ := 0) tab_ok Try.func91 rfl rfl rfl rfl ?_
  intro J hJ
  obtain rfl : o = J.o := by rw [ho, hJ]; rfl
  unfold f91 at H
  cbv
  repeat' (first
    | ((with_reducible first | refine awp_go2 ?_ | refine aops_go2 ?_ | refine strip_go2 ?_ | refine draw_go2 ?_ | refine frames_go2 ?_); cbv)
    | with_reducible exact id
    | exact trivial
    | with_reducible exact rfl
    | with_reducible exact ⟨_, rfl⟩
    | exact none_go H
    | (refine KeepQ.mk [] (by decide) ?_; cbv; cases H; refine hK _ _ _ _ ?_ ?_ rfl h <;> cbv)
    | (refine ifB_go H ?_ ?_ <;> clear H <;> intro hh H)
    | (refine ifB_og H ?_ ?_ <;> clear H <;> intro hh H)
    | (refine req_go H ?_; clear H; intro hh H)
    | (refine gg_t ho H ?_ ?_ <;> clear H <;> intro hh H)
    | (refine gg_f ho H ?_ ?_ <;> clear H <;> intro hh H)
    | (refine bit_go ho H ?_ ?_ <;> clear H <;> intro hh H; (all_goals cbv))
    | (refine nil_go H ?_; clear H; intro b H; cbv)
    | (refine tok_go ?_; cbv)
    | (refine getA_go (β := UInt8) H ?_; clear H; intro e H; cbv)
    | (obtain ⟨R, hR, H2⟩ := bindR_go H; refine call_in hJ [] (by decide) rfl rfl rfl (f92_call _ ho _ _ _ hR _ _ ?_); clear H hR; rcases R with ⟨_⟩; all_goals (replace H := H2; clear H2; dsimp only at H; cbv))
    | (refine lit_t ?_; cbv)
    | (refine lit_f ?_; cbv)
    | (refine known_t (by assumption) ?_)
    | (refine known_f (by assumption) ?_)
    | (refine known_x (by assumption) ?_)
    | (refine known_y (by assumption) ?_)
    | (refine known_get (by assumption) ?_; cbv)
    | (refine known_and (by assumption) ?_)
    | with_reducible refine And.intro ?_ ?_
    | (intro hh; exact hh)
    | (intro _; assumption)
    | (intro _; clear H h; simp only [ho, stdOps] at *; simp_all))

def sh62 {α : Type} (e : AV) (k : Int → Int → Int → Int → List AV → Option α) : Option α := match e with | .agg [.int .i64 x0, .int .i64 x1, .int .i64 x2, .int .i64 x3, .sl 2 x4 .no] => k x0 x1 x2 x3 x4 | _ => none
theorem sh62_go {α : Type} {e : AV} {k : Int → Int → Int → Int → List AV → Option α} {r : α} {G : AV → Prop} (H : sh62 e k = some r) (h : ∀ (x0 : Int) (x1 : Int) (x2 : Int) (x3 : Int) (x4 : List AV), k x0 x1 x2 x3 x4 = some r → G (.agg [.int .i64 x0, .int .i64 x1, .int .i64 x2, .int .i64 x3, .sl 2 x4 .no])) : G e := by
  unfold sh62 at H
  split at H
  · exact h _ _ _ _ _ H
  · exact nomatch H
theorem sh62_get {α : Type} {x : Option AV} {k : Int → Int → Int → Int → List AV → Option α} {r : α} {G : AV → Prop} (H : getA x (fun e => sh62 e k) = some r) (h : ∀ (x0 : Int) (x1 : Int) (x2 : Int) (x3 : Int) (x4 : List AV), x = some (.agg [.int .i64 x0, .int .i64 x1, .int .i64 x2, .int .i64 x3, .sl 2 x4 .no]) → k x0 x1 x2 x3 x4 = some r → G (.agg [.int .i64 x0, .int .i64 x1, .int .i64 x2, .int .i64 x3, .sl 2 x4 .no])) : ∀ e, x = some e → G e := fun e he => by
  have H2 : sh62 e k = some r := by rw [he] at H; exact H
  unfold sh62 at H2
  split at H2
  · exact h _ _ _ _ _ he H2
  · exact nomatch H2
theorem sh62_find {α : Type} {x : Option AV} {k : Int → Int → Int → Int → List AV → Option α} {z : Option α} {r : α} {G1 : AV → Prop} {G2 : Prop} (H : findA x (fun e => sh62 e k) z = some r) (h1 : ∀ (x0 : Int) (x1 : Int) (x2 : Int) (x3 : Int) (x4 : List AV), k x0 x1 x2 x3 x4 = some r → G1 (.agg [.int .i64 x0, .int .i64 x1, .int .i64 x2, .int .i64 x3, .sl 2 x4 .no])) (h2 : z = some r → G2) : (∀ e, x = some e → G1 e) ∧ (x = none → G2) :=
  findA_go H (fun _ He => sh62_go He h1) h2

/-! slices.EqualFunc[[]pontoon/api.Op,[]pontoon/api.Op,pontoon/api.Op,pontoon/api.Op] -/
inductive F90R where
  | v0 (y0 : Bool)
def F90R.av : F90R → AV
  | .v0 y0 => .bool y0
def F90R.hp : F90R → List Ent
  | .v0 _ => []
inductive F90L0 where
  | x0 
  | x1 
noncomputable def f90_l0 (o : Ops) (fuel : Nat) (a0 : List AV) (a1 : List AV) : Nat → Int → Option F90L0
  | 0, _ => none
  | n + 1, w13 =>
    ifB (o.cmp .lss w13 (o.len a0))
    (req (o.inb w13 (o.len a0)) <|
     getA (o.get a0 w13) fun e => sh62 e fun v14 v15 v16 v17 v18 =>
     req (o.inb w13 (o.len a1)) <|
     getA (o.get a1 w13) fun e => sh62 e fun v19 v20 v21 v22 v23 =>
     bindR (f91 o fuel v14 v15 v16 v17 v18 v19 v20 v21 v22 v23) fun r => match r with
     | .v0 r24 => ifB (o.bnot r24)
       (some (.x0 ))
       (f90_l0 o fuel a0 a1 n (o.ar .add .i64 w13 1)))
    (some (.x1 ))
theorem f90_l0_go {J : Jd} {n₀ : Nat} (hJ : J = std Try.prog n₀) {fuel : Nat} {a0 : List AV} {a1 : List AV} {w13i : Int} {α : Type} {k : F90L0 → Option α} {r : α} {c : Code} {Q : Ex → St → Prop} {s : St}
    (H : bindR (f90_l0 J.o fuel a0 a1 fuel w13i) k = some r) (hn : n₀ ≤ 0) (hle : Le s ⟨[(17, .int .i64 w13i), (16, .int .i64 (J.o.len a0)), (15, .sl 5 a0 .no), (2, .func 91 []), (1, .sl 5 a1 .no)], [], 32⟩)
    (round : ∀ X, k X = some r → ∀ (n : Nat) (w13 : Int), f90_l0 J.o fuel a0 a1 (n + 1) w13 = some X → ∀ N : St → Prop,
      (∀ (env : List (Nat × AV)) (w13' : Int) (v : List Ent), f90_l0 J.o fuel a0 a1 n w13' = some X → wkEnv env [(17, .int .i64 w13'), (16, .int .i64 (J.o.len a0)), (15, .sl 5 a0 .no), (2, .func 91 []), (1, .sl 5 a1 .no)] → N ⟨env, [] ++ v, 32⟩) → awp J tab c (thenQ N Q) ⟨[(17, .int .i64 w13), (16, .int .i64 (J.o.len a0)), (15, .sl 5 a0 .no), (2, .func 91 []), (1, .sl 5 a1 .no)], [], 32⟩) : J.code (.loop c) Q s := by
  obtain ⟨X, hX, HX⟩ := bindR_go H
  refine loop_at (β := Nat × Int) hJ tab_ok (fun | (_, w13) => ⟨[(17, .int .i64 w13), (16, .int .i64 (J.o.len a0)), (15, .sl 5 a0 .no), (2, .func 91 []), (1, .sl 5 a1 .no)], [], 32⟩) (fun | (n, w13) => f90_l0 J.o fuel a0 a1 n w13 = some X) (fun | (n, _) => n) (fuel, w13i) hX hle (by rintro ⟨_, _⟩; exact hn) ?_
  rintro ⟨n, w13⟩ hb N hN
  rcases n with _ | n
  · exact none_go (show (none : Option F90L0) = some X from hb)
  exact round X HX n w13 hb N fun env w13' v h1 h2 => hN _ (n, w13') h1 (Nat.lt_succ_self n) ⟨h2, by cbv, rfl, rfl⟩

noncomputable def f90 (o : Ops) (fuel : Nat) (a0 : List AV) (a1 : List AV) : Option F90R :=
  ifB (o.bnot (o.cmp .eql (o.len a0) (o.len a1)))
  (some (.v0 false))
  (bindR (f90_l0 o fuel a0 a1 fuel 0) fun r => match r with
   | .x0  => some (.v0 false)
   | .x1  => some (.v0 true))
set_option maxHeartbeats 4000000 in
set_option maxRecDepth 100000 in
theorem f90_call (o : Ops) (ho : o = stdOps) (fuel : Nat) (a0 : List AV) (a1 : List AV) {R : F90R} (H : f90 o fuel a0 a1 = some R) (K : AV → List Ent → Prop) (E : AV → List Ent → Prop) (h : K R.av R.hp) : CallA Try.prog 90 [.sl 5 a0 .no, .sl 5 a1 .no, .func 91 []] [] K E := by
  refine call_wk fun K' hK => ?_
  refine call_keep (n₀ := 0) tab_ok Try.func90 rfl rfl rfl rfl ?_
  intro J hJ
  obtain rfl : o = J.o := by rw [ho, hJ]; rfl
  unfold f90 at H
  cbv
  repeat' (first
    | ((with_reducible first | refine awp_go2 ?_ | refine aops_go2 ?_ | refine strip_go2 ?_ | refine draw_go2 ?_ | refine frames_go2 ?_); cbv)
    | with_reducible exact id
    | exact trivial
    | with_reducible exact rfl
    | with_reducible exact ⟨_, rfl⟩
    | exact none_go H
    | (cases H; replace H := HX0; clear HX0; dsimp only at H)
    | (refine KeepQ.mk [] (by decide) ?_; cbv; cases H; refine hK _ _ _ _ ?_ ?_ rfl h <;> cbv)
    | (refine hN0 _ _ _ H ?_; with_reducible refine wkEnv_go2 ?_; cbv)
    | (refine ifB_go H ?_ ?_ <;> clear H <;> intro hh H)
    | (refine ifB_og H ?_ ?_ <;> clear H <;> intro hh H)
    | (refine req_go H ?_; clear H; intro hh H)
    | (refine gg_t ho H ?_ ?_ <;> clear H <;> intro hh H)
    | (refine gg_f ho H ?_ ?_ <;> clear H <;> intro hh H)
    | (refine bit_go ho H ?_ ?_ <;> clear H <;> intro hh H; (all_goals cbv))
    | (refine nil_go H ?_; clear H; intro b H; cbv)
    | (refine tok_go ?_; cbv)
    | (refine sh62_get H ?_; clear H; intro _ _ _ _ _ he H; cbv)
    | (refine sh62_find H ?_ ?_ <;> clear H; (intro _ _ _ _ _ H; cbv); (intro H; cbv))
    | (refine getA_go (β := UInt8) H ?_; clear H; intro e H; cbv)
    | (obtain ⟨R, hR, H2⟩ := bindR_go H; refine call_in hJ [] (by decide) rfl rfl rfl (f91_call _ ho _ _ _ _ _ _ _ _ _ _ _ hR _ _ ?_); clear H hR; rcases R with ⟨_⟩; all_goals (replace H := H2; clear H2; dsimp only at H; cbv))
    | (refine f90_l0_go hJ H (by decide) ⟨?_, ?_, rfl, rfl⟩ ?_
       · cbv
         repeat' (first | exact trivial | exact rfl | apply And.intro)
       · cbv
         repeat' (first | exact trivial | exact rfl | apply And.intro)
       clear H
       intro X0 HX0 n _ H Nx0 hN0
       rw [f90_l0] at H
       cbv)
    | (refine lit_t ?_; cbv)
    | (refine lit_f ?_; cbv)
    | (refine known_t (by assumption) ?_)
    | (refine known_f (by assumption) ?_)
    | (refine known_x (by assumption) ?_)
    | (refine known_y (by assumption) ?_)
    | (refine known_get (by assumption) ?_; cbv)
    | (refine known_and (by assumption) ?_)
    | with_reducible refine And.intro ?_ ?_
    | (intro hh; exact hh)
    | (intro _; assumption)
    | (intro _; clear H h; (try clear hN0); (try clear HX0); simp only [ho, stdOps] at *; simp_all))

/-! pontoon/graph.Same -/
inductive F44R where
  | v0 (y0 : Bool)
def F44R.av : F44R → AV
  | .v0 y0 => .bool y0
def F44R.hp : F44R → List Ent
  | .v0 _ => []
noncomputable def f44 (o : Ops) (fuel : Nat) (a0 : Int) (a1 : List AV) (a2 : Int) (a3 : List AV) : Option F44R :=
  ifB (o.cmp .eql a0 a2)
  (bindR (f90 o fuel a1 a3) fun r => match r with
   | .v0 r4 => some (.v0 r4))
  (some (.v0 false))
set_option maxHeartbeats 4000000 in
set_option maxRecDepth 100000 in
theorem f44_call (o : Ops) (ho : o = stdOps) (fuel : Nat) (a0 : Int) (a1 : List AV) (a2 : Int) (a3 : List AV) {R : F44R} (H : f44 o fuel a0 a1 a2 a3 = some R) (K : AV → List Ent → Prop) (E : AV → List Ent → Prop) (h : K R.av R.hp) : CallA Try.prog 44 [.agg [.int .i64 a0, .sl 5 a1 .no], .agg [.int .i64 a2, .sl 5 a3 .no]] [] K E := by
  refine call_wk fun K' hK => ?_
  refine call_keep (n₀ := 0) tab_ok Try.func44 rfl rfl rfl rfl ?_
  intro J hJ
  obtain rfl : o = J.o := by rw [ho, hJ]; rfl
  unfold f44 at H
  cbv
  repeat' (first
    | ((with_reducible first | refine awp_go2 ?_ | refine aops_go2 ?_ | refine strip_go2 ?_ | refine draw_go2 ?_ | refine frames_go2 ?_); cbv)
    | with_reducible exact id
    | exact trivial
    | with_reducible exact rfl
    | with_reducible exact ⟨_, rfl⟩
    | exact none_go H
    | (refine KeepQ.mk [] (by decide) ?_; cbv; cases H; refine hK _ _ _ _ ?_ ?_ rfl h <;> cbv)
    | (refine ifB_go H ?_ ?_ <;> clear H <;> intro hh H)
    | (refine ifB_og H ?_ ?_ <;> clear H <;> intro hh H)
    | (refine req_go H ?_; clear H; intro hh H)
    | (refine gg_t ho H ?_ ?_ <;> clear H <;> intro hh H)
    | (refine gg_f ho H ?_ ?_ <;> clear H <;> intro hh H)
    | (refine bit_go ho H ?_ ?_ <;> clear H <;> intro hh H; (all_goals cbv))
    | (refine nil_go H ?_; clear H; intro b H; cbv)
    | (refine tok_go ?_; cbv)
    | (refine getA_go (β := UInt8) H ?_; clear H; intro e H; cbv)
    | (obtain ⟨R, hR, H2⟩ := bindR_go H; refine call_in hJ [] (by decide) rfl rfl rfl (f90_call _ ho _ _ _ hR _ _ ?_); clear H hR; rcases R with ⟨_⟩; all_goals (replace H := H2; clear H2; dsimp only at H; cbv))
    | (refine lit_t ?_; cbv)
    | (refine lit_f ?_; cbv)
    | (refine known_t (by assumption) ?_)
    | (refine known_f (by assumption) ?_)
    | (refine known_x (by assumption) ?_)
    | (refine known_y (by assumption) ?_)
    | (refine known_get (by assumption) ?_; cbv)
    | (refine known_and (by assumption) ?_)
    | with_reducible refine And.intro ?_ ?_
    | (intro hh; exact hh)
    | (intro _; assumption)
    | (intro _; clear H h; simp only [ho, stdOps] at *; simp_all))

/-! bytes.Equal -/
inductive F40R where
  | v0 (y0 : Bool)
def F40R.av : F40R → AV
  | .v0 y0 => .bool y0
def F40R.hp : F40R → List Ent
  | .v0 _ => []
noncomputable def f40 (o : Ops) (_fuel : Nat) (a0 : List AV) (a1 : List AV) : Option F40R :=
  req (o.isb a0) <|
  req (o.isb a1) <|
  some (.v0 (o.seq (o.ofb a0) (o.ofb a1)))
set_option maxHeartbeats 4000000 in
set_option maxRecDepth 100000 in
theorem f40_call (o : Ops) (ho : o = stdOps) (fuel : Nat) (a0 : List AV) (a1 : List AV) {R : F40R} (H : f40 o fuel a0 a1 = some R) (K : AV → List Ent → Prop) (E : AV → List Ent → Prop) (h : K R.av R.hp) : CallA Try.prog 40 [.sl 1 a0 .no, .sl 1 a1 .no] [] K E := by
  refine call_wk fun K' hK => ?_
  refine call_keep (n₀ := 0) tab_ok Try.func40 rfl rfl rfl rfl ?_
  intro J hJ
  obtain rfl : o = J.o := by rw [ho, hJ]; rfl
  unfold f40 at H
  cbv
  repeat' (first
    | ((with_reducible first | refine awp_go2 ?_ | refine aops_go2 ?_ | refine strip_go2 ?_ | refine draw_go2 ?_ | refine frames_go2 ?_); cbv)
    | with_reducible exact id
    | exact trivial
    | with_reducible exact rfl
    | with_reducible exact ⟨_, rfl⟩
    | exact none_go H
    | (refine KeepQ.mk [] (by decide) ?_; cbv; cases H; refine hK _ _ _ _ ?_ ?_ rfl h <;> cbv)
    | (refine ifB_go H ?_ ?_ <;> clear H <;> intro hh H)
    | (refine ifB_og H ?_ ?_ <;> clear H <;> intro hh H)
    | (refine req_go H ?_; clear H; intro hh H)
    | (refine gg_t ho H ?_ ?_ <;> clear H <;> intro hh H)
    | (refine gg_f ho H ?_ ?_ <;> clear H <;> intro hh H)
    | (refine bit_go ho H ?_ ?_ <;> clear H <;> intro hh H; (all_goals cbv))
    | (refine nil_go H ?_; clear H; intro b H; cbv)
    | (refine tok_go ?_; cbv)
    | (refine getA_go (β := UInt8) H ?_; clear H; intro e H; cbv)
    | (refine lit_t ?_; cbv)
    | (refine lit_f ?_; cbv)
    | (refine known_t (by assumption) ?_)
    | (refine known_f (by assumption) ?_)
    | (refine known_x (by assumption) ?_)
    | (refine known_y (by assumption) ?_)
    | (refine known_get (by assumption) ?_; cbv)
    | (refine known_and (by assumption) ?_)
    | with_reducible refine And.intro ?_ ?_
    | (intro hh; exact hh)
    | (intro _; assumption)
    | (intro _; clear H h; simp only [ho, stdOps] at *; simp_all))

end Go.Proofs.Ytilffanmaicakaa.A

/- Functions that the law GraphBytes reaches, as plain ones. Written by lift.py. -/
namespace Go.Proofs.Ytilffanmaicakaa.A
open Go Go.Pt

/-! pontoon/pontoonref01.natural -/
inductive F128R where
  | v0 (y0 : Int)
def F128R.av : F128R → AV
  | .v0 y0 => .int .u64 y0
def F128R.hp : F128R → List Ent
  | .v0 _ => []
noncomputable def f128 (o : Ops) (_fuel : Nat) (a0 : Int) : Option F128R :=
  ifB (o.cmp .geq a0 0)
  (some (.v0 (o.ar .mul .u64 2 (o.wrap .u64 a0))))
  (some (.v0 (o.ar .add .u64 (o.ar .mul .u64 2 (o.wrap .u64 (o.neg .i64 (o.ar .add .i64 a0 1)))) 1)))
set_option maxHeartbeats 4000000 in
set_option maxRecDepth 100000 in
theorem f128_call (o : Ops) (ho : o = stdOps) (fuel : Nat) (a0 : Int) {R : F128R} (H : f128 o fuel a0 = some R) (K : AV → List Ent → Prop) (E : AV → List Ent → Prop) (h : K R.av R.hp) : CallA Try.prog 128 [.int .i64 a0] [] K E := by
  refine call_wk fun K' hK => ?_
  refine call_keep (n₀ := 0) tab_ok Try.func128 rfl rfl rfl rfl ?_
  intro J hJ
  obtain rfl : o = J.o := by rw [ho, hJ]; rfl
  unfold f128 at H
  cbv
  repeat' (first
    | ((with_reducible first | refine awp_go2 ?_ | refine aops_go2 ?_ | refine strip_go2 ?_ | refine draw_go2 ?_ | refine frames_go2 ?_); cbv)
    | with_reducible exact id
    | exact trivial
    | with_reducible exact rfl
    | with_reducible exact ⟨_, rfl⟩
    | exact none_go H
    | (refine KeepQ.mk [] (by decide) ?_; cbv; cases H; refine hK _ _ _ _ ?_ ?_ rfl h <;> cbv)
    | (refine ifB_go H ?_ ?_ <;> clear H <;> intro hh H)
    | (refine ifB_og H ?_ ?_ <;> clear H <;> intro hh H)
    | (refine req_go H ?_; clear H; intro hh H)
    | (refine gg_t ho H ?_ ?_ <;> clear H <;> intro hh H)
    | (refine gg_f ho H ?_ ?_ <;> clear H <;> intro hh H)
    | (refine bit_go ho H ?_ ?_ <;> clear H <;> intro hh H; (all_goals cbv))
    | (refine nil_go H ?_; clear H; intro b H; cbv)
    | (refine tok_go ?_; cbv)
    | (refine getA_go (β := UInt8) H ?_; clear H; intro e H; cbv)
    | (refine lit_t ?_; cbv)
    | (refine lit_f ?_; cbv)
    | (refine known_t (by assumption) ?_)
    | (refine known_f (by assumption) ?_)
    | (refine known_x (by assumption) ?_)
    | (refine known_y (by assumption) ?_)
    | (refine known_get (by assumption) ?_; cbv)
    | (refine known_and (by assumption) ?_)
    | with_reducible refine And.intro ?_ ?_
    | (intro hh; exact hh)
    | (intro _; assumption)
    | (intro _; clear H h; simp only [ho, stdOps] at *; simp_all))

/-! pontoon/pontoonref01.form -/
inductive F125R where
  | v0 (y0 : List AV)
def F125R.av : F125R → AV
  | .v0 y0 => .sl 1 y0 .no
def F125R.hp : F125R → List Ent
  | .v0 _ => []
inductive F125L0 where
  | x0 (y0 : List AV)
noncomputable def f125_l0 (o : Ops) (fuel : Nat)  : Nat → Int → List AV → Option F125L0
  | 0, _, _ => none
  | n + 1, w2, w3 =>
    ifB (o.cmp .gtr w2 0)
    (req (o.nz 128) <|
     req (o.room [.int .u8 (o.ar .add .u8 (o.wrap .u8 (o.ar .rem .u64 w2 128)) 128)] w3 1) <|
     req (o.nz 128) <|
     f125_l0 o fuel  n (o.ar .quo .u64 w2 128) (o.apnd [.int .u8 (o.ar .add .u8 (o.wrap .u8 (o.ar .rem .u64 w2 128)) 128)] w3))
    (some (.x0 w3))
theorem f125_l0_go {J : Jd} {n₀ : Nat} (hJ : J = std Try.prog n₀) {fuel : Nat}  {w2i : Int} {w3i : List AV} {α : Type} {k : F125L0 → Option α} {r : α} {c : Code} {Q : Ex → St → Prop} {s : St}
    (H : bindR (f125_l0 J.o fuel  fuel w2i w3i) k = some r) (hn : n₀ ≤ 1) (hle : Turn n₀ s ⟨[(4, .sl 1 w3i .no), (3, .int .u64 w2i)], [.tip 0], 25⟩)
    (round : ∀ X, k X = some r → ∀ (n : Nat) (w2 : Int) (w3 : List AV), f125_l0 J.o fuel  (n + 1) w2 w3 = some X → ∀ N : St → Prop,
      (∀ (env : List (Nat × AV)) (w2' : Int) (w3' : List AV) (v : List Ent), f125_l0 J.o fuel  n w2' w3' = some X → wkEnv env [(4, .sl 1 w3' .no), (3, .int .u64 w2')] → N ⟨env, [.tip 0] ++ v, 25⟩) → awp J tab c (thenQ N Q) ⟨[(4, .sl 1 w3 .no), (3, .int .u64 w2)], [.tip 0], 25⟩) : J.code (.loop c) Q s := by
  obtain ⟨X, hX, HX⟩ := bindR_go H
  refine loop_turn_at (β := Nat × Int × List AV) hJ tab_ok (fun | (_, w2, w3) => ⟨[(4, .sl 1 w3 .no), (3, .int .u64 w2)], [.tip 0], 25⟩) (fun | (n, w2, w3) => f125_l0 J.o fuel  n w2 w3 = some X) (fun | (n, _, _) => n) (fuel, w2i, w3i) hX hle (by rintro ⟨_, _, _⟩; exact hn) ?_
  rintro ⟨n, w2, w3⟩ hb N hN
  rcases n with _ | n
  · exact none_go (show (none : Option F125L0) = some X from hb)
  exact round X HX n w2 w3 hb N fun env w2' w3' v h1 h2 => hN _ (n, w2', w3') h1 (Nat.lt_succ_self n) (Turn.le ⟨h2, by cbv; repeat' (first | exact trivial | exact rfl | apply And.intro), rfl, rfl⟩ (by simp; omega))

noncomputable def f125 (o : Ops) (fuel : Nat) (a0 : Int) : Option F125R :=
  bindR (f128 o fuel a0) fun r => match r with
  | .v0 r1 => req (o.nz 128) <|
    req (o.nz 128) <|
    bindR (f125_l0 o fuel  fuel (o.ar .quo .u64 r1 128) [.int .u8 (o.wrap .u8 (o.ar .rem .u64 r1 128))]) fun r => match r with
    | .x0 y4 => some (.v0 y4)
set_option maxHeartbeats 4000000 in
set_option maxRecDepth 100000 in
theorem f125_call (o : Ops) (ho : o = stdOps) (fuel : Nat) (a0 : Int) {R : F125R} (H : f125 o fuel a0 = some R) (K : AV → List Ent → Prop) (E : AV → List Ent → Prop) (h : K R.av R.hp) : CallA Try.prog 125 [.int .i64 a0] [] K E := by
  refine call_wk fun K' hK => ?_
  refine call_keep (n₀ := 0) tab_ok Try.func125 rfl rfl rfl rfl ?_
  intro J hJ
  obtain rfl : o = J.o := by rw [ho, hJ]; rfl
  unfold f125 at H
  cbv
  repeat' (first
    | ((with_reducible first | refine awp_go2 ?_ | refine aops_go2 ?_ | refine strip_go2 ?_ | refine draw_go2 ?_ | refine frames_go2 ?_); cbv)
    | with_reducible exact id
    | exact trivial
    | with_reducible exact rfl
    | with_reducible exact ⟨_, rfl⟩
    | exact none_go H
    | (cases H; replace H := HX0; clear HX0; dsimp only at H)
    | (refine KeepQ.mk [] (by decide) ?_; cbv; cases H; refine hK _ _ _ _ ?_ ?_ rfl h <;> cbv)
    | (refine hN0 _ _ _ _ H ?_; with_reducible refine wkEnv_go2 ?_; cbv)
    | (refine ifB_go H ?_ ?_ <;> clear H <;> intro hh H)
    | (refine ifB_og H ?_ ?_ <;> clear H <;> intro hh H)
    | (refine req_go H ?_; clear H; intro hh H)
    | (refine gg_t ho H ?_ ?_ <;> clear H <;> intro hh H)
    | (refine gg_f ho H ?_ ?_ <;> clear H <;> intro hh H)
    | (refine bit_go ho H ?_ ?_ <;> clear H <;> intro hh H; (all_goals cbv))
    | (refine nil_go H ?_; clear H; intro b H; cbv)
    | (refine tok_go ?_; cbv)
    | (refine getA_go (β := UInt8) H ?_; clear H; intro e H; cbv)
    | (obtain ⟨R, hR, H2⟩ := bindR_go H; refine call_in hJ [] (by decide) rfl rfl rfl (f128_call _ ho _ _ hR _ _ ?_); clear H hR; rcases R with ⟨_⟩; all_goals (replace H := H2; clear H2; dsimp only at H; cbv))
    | (refine f125_l0_go hJ H (by decide) (Turn.trans (turn_tipe 4 1 _ rfl (Nat.le_of_ble_eq_true rfl)) (Turn.le ⟨?_, ?_, rfl, rfl⟩ (Nat.le_of_ble_eq_true rfl))) ?_
       · cbv
         repeat' (first | exact trivial | exact rfl | apply And.intro)
       · cbv
         repeat' (first | exact trivial | exact rfl | apply And.intro)
       clear H
       intro X0 HX0 n _ _ H Nx0 hN0
       rw [f125_l0] at H
       cbv)
    | (refine lit_t ?_; cbv)
    | (refine lit_f ?_; cbv)
    | (refine known_t (by assumption) ?_)
    | (refine known_f (by assumption) ?_)
    | (refine known_x (by assumption) ?_)
    | (refine known_y (by assumption) ?_)
    | (refine known_get (by assumption) ?_; cbv)
    | (refine known_and (by assumption) ?_)
    | with_reducible refine And.intro ?_ ?_
    | (intro hh; exact hh)
    | (intro _; assumption)
    | (intro _; clear H h; (try clear hN0); (try clear HX0); simp only [ho, stdOps] at *; simp_all))

def sh2 {α : Type} (e : AV) (k : Int → Option α) : Option α := match e with | .int .i64 x0 => k x0 | _ => none
theorem sh2_go {α : Type} {e : AV} {k : Int → Option α} {r : α} {G : AV → Prop} (H : sh2 e k = some r) (h : ∀ (x0 : Int), k x0 = some r → G (.int .i64 x0)) : G e := by
  unfold sh2 at H
  split at H
  · exact h _ H
  · exact nomatch H
theorem sh2_get {α : Type} {x : Option AV} {k : Int → Option α} {r : α} {G : AV → Prop} (H : getA x (fun e => sh2 e k) = some r) (h : ∀ (x0 : Int), x = some (.int .i64 x0) → k x0 = some r → G (.int .i64 x0)) : ∀ e, x = some e → G e := fun e he => by
  have H2 : sh2 e k = some r := by rw [he] at H; exact H
  unfold sh2 at H2
  split at H2
  · exact h _ he H2
  · exact nomatch H2
theorem sh2_find {α : Type} {x : Option AV} {k : Int → Option α} {z : Option α} {r : α} {G1 : AV → Prop} {G2 : Prop} (H : findA x (fun e => sh2 e k) z = some r) (h1 : ∀ (x0 : Int), k x0 = some r → G1 (.int .i64 x0)) (h2 : z = some r → G2) : (∀ e, x = some e → G1 e) ∧ (x = none → G2) :=
  findA_go H (fun _ He => sh2_go He h1) h2

/-! pontoon/pontoonref01.Int -/
inductive F112R where
  | v0 (y0 : List AV)
def F112R.av : F112R → AV
  | .v0 y0 => .sl 1 y0 .no
def F112R.hp : F112R → List Ent
  | .v0 _ => []
inductive F112L0 where
  | x0 (y0 : List AV) (y1 : Nat)
noncomputable def f112_l0 (o : Ops) (fuel : Nat) (a1 : List AV) : Nat → Nat → List AV → Int → Option F112L0
  | 0, _, _, _ => none
  | n + 1, w4, w5, w6 =>
    ifB (o.cmp .lss w6 (o.len a1))
    (req (o.inb w6 (o.len a1)) <|
     getA (o.get a1 w6) fun e => sh2 e fun v7 =>
     bindR (f125 o fuel v7) fun r => match r with
     | .v0 r8 => req (o.room w5 r8 1) <|
       f112_l0 o fuel a1 n (o.padd w4 r8) (o.apnd w5 r8) (o.ar .add .i64 w6 1))
    (some (.x0 w5 w4))
theorem f112_l0_go {J : Jd} {n₀ : Nat} (hJ : J = std Try.prog n₀) {fuel : Nat} {a1 : List AV} {w4i : Nat} {w5i : List AV} {w6i : Int} {α : Type} {k : F112L0 → Option α} {r : α} {c : Code} {Q : Ex → St → Prop} {s : St}
    (H : bindR (f112_l0 J.o fuel a1 fuel w4i w5i w6i) k = some r) (hn : n₀ ≤ 1) (hle : Le s ⟨[(6, .int .i64 w6i), (5, .sl 1 w5i (.tip 0 w4i)), (1, .sl 1 a1 .no)], [.tip w4i], 24⟩)
    (round : ∀ X, k X = some r → ∀ (n : Nat) (w4 : Nat) (w5 : List AV) (w6 : Int), f112_l0 J.o fuel a1 (n + 1) w4 w5 w6 = some X → ∀ N : St → Prop,
      (∀ (env : List (Nat × AV)) (w4' : Nat) (w5' : List AV) (w6' : Int) (v : List Ent), f112_l0 J.o fuel a1 n w4' w5' w6' = some X → wkEnv env [(6, .int .i64 w6'), (5, .sl 1 w5' (.tip 0 w4')), (1, .sl 1 a1 .no)] → N ⟨env, [.tip w4'] ++ v, 24⟩) → awp J tab c (thenQ N Q) ⟨[(6, .int .i64 w6), (5, .sl 1 w5 (.tip 0 w4)), (1, .sl 1 a1 .no)], [.tip w4], 24⟩) : J.code (.loop c) Q s := by
  obtain ⟨X, hX, HX⟩ := bindR_go H
  refine loop_at (β := Nat × Nat × List AV × Int) hJ tab_ok (fun | (_, w4, w5, w6) => ⟨[(6, .int .i64 w6), (5, .sl 1 w5 (.tip 0 w4)), (1, .sl 1 a1 .no)], [.tip w4], 24⟩) (fun | (n, w4, w5, w6) => f112_l0 J.o fuel a1 n w4 w5 w6 = some X) (fun | (n, _, _, _) => n) (fuel, w4i, w5i, w6i) hX hle (by rintro ⟨_, _, _, _⟩; exact hn) ?_
  rintro ⟨n, w4, w5, w6⟩ hb N hN
  rcases n with _ | n
  · exact none_go (show (none : Option F112L0) = some X from hb)
  exact round X HX n w4 w5 w6 hb N fun env w4' w5' w6' v h1 h2 => hN _ (n, w4', w5', w6') h1 (Nat.lt_succ_self n) ⟨h2, by cbv, rfl, rfl⟩

noncomputable def f112 (o : Ops) (fuel : Nat) (a0 : List AV) (a1 : List AV) : Option F112R :=
  req (o.room [] a0 1) <|
  bindR (f112_l0 o fuel a1 fuel (o.pos [] a0) (o.apnd [] a0) 0) fun r => match r with
  | .x0 y9 _ => some (.v0 y9)
set_option maxHeartbeats 4000000 in
set_option maxRecDepth 100000 in
theorem f112_call (o : Ops) (ho : o = stdOps) (fuel : Nat) (a0 : List AV) (a1 : List AV) {R : F112R} (H : f112 o fuel a0 a1 = some R) (K : AV → List Ent → Prop) (E : AV → List Ent → Prop) (h : K R.av R.hp) : CallA Try.prog 112 [.sl 1 a0 .no, .sl 1 a1 .no] [] K E := by
  refine call_wk fun K' hK => ?_
  refine call_keep (n₀ := 0) tab_ok Try.func112 rfl rfl rfl rfl ?_
  intro J hJ
  obtain rfl : o = J.o := by rw [ho, hJ]; rfl
  unfold f112 at H
  cbv
  repeat' (first
    | ((with_reducible first | refine awp_go2 ?_ | refine aops_go2 ?_ | refine strip_go2 ?_ | refine draw_go2 ?_ | refine frames_go2 ?_); cbv)
    | with_reducible exact id
    | exact trivial
    | with_reducible exact rfl
    | with_reducible exact ⟨_, rfl⟩
    | exact none_go H
    | (cases H; replace H := HX0; clear HX0; dsimp only at H)
    | (refine KeepQ.mk [] (by decide) ?_; cbv; cases H; refine hK _ _ _ _ ?_ ?_ rfl h <;> cbv)
    | (refine hN0 _ _ _ _ _ H ?_; with_reducible refine wkEnv_go2 ?_; cbv)
    | (refine ifB_go H ?_ ?_ <;> clear H <;> intro hh H)
    | (refine ifB_og H ?_ ?_ <;> clear H <;> intro hh H)
    | (refine req_go H ?_; clear H; intro hh H)
    | (refine gg_t ho H ?_ ?_ <;> clear H <;> intro hh H)
    | (refine gg_f ho H ?_ ?_ <;> clear H <;> intro hh H)
    | (refine bit_go ho H ?_ ?_ <;> clear H <;> intro hh H; (all_goals cbv))
    | (refine nil_go H ?_; clear H; intro b H; cbv)
    | (refine tok_go ?_; cbv)
    | (refine sh2_get H ?_; clear H; intro _ he H; cbv)
    | (refine sh2_find H ?_ ?_ <;> clear H; (intro _ H; cbv); (intro H; cbv))
    | (refine getA_go (β := UInt8) H ?_; clear H; intro e H; cbv)
    | (obtain ⟨R, hR, H2⟩ := bindR_go H; refine call_in hJ [] (by decide) rfl rfl rfl (f125_call _ ho _ _ hR _ _ ?_); clear H hR; rcases R with ⟨_⟩; all_goals (replace H := H2; clear H2; dsimp only at H; cbv))
    | (refine f112_l0_go hJ H (by decide) ⟨?_, ?_, rfl, rfl⟩ ?_
       · cbv
         repeat' (first | exact trivial | exact rfl | apply And.intro)
       · cbv
         repeat' (first | exact trivial | exact rfl | apply And.intro)
       clear H
       intro X0 HX0 n _ _ _ H Nx0 hN0
       rw [f112_l0] at H
       cbv)
    | (refine lit_t ?_; cbv)
    | (refine lit_f ?_; cbv)
    | (refine known_t (by assumption) ?_)
    | (refine known_f (by assumption) ?_)
    | (refine known_x (by assumption) ?_)
    | (refine known_y (by assumption) ?_)
    | (refine known_get (by assumption) ?_; cbv)
    | (refine known_and (by assumption) ?_)
    | with_reducible refine And.intro ?_ ?_
    | (intro hh; exact hh)
    | (intro _; assumption)
    | (intro _; clear H h; (try clear hN0); (try clear HX0); simp only [ho, stdOps] at *; simp_all))

/-! pontoon/pontoonref01.One -/
inductive F85R where
  | v0 (y0 : List AV)
def F85R.av : F85R → AV
  | .v0 y0 => .sl 1 y0 .no
def F85R.hp : F85R → List Ent
  | .v0 _ => []
noncomputable def f85 (o : Ops) (fuel : Nat) (a0 : List AV) (a1 : Int) : Option F85R :=
  bindR (f112 o fuel a0 [.int .i64 a1]) fun r => match r with
  | .v0 r2 => some (.v0 r2)
set_option maxHeartbeats 4000000 in
set_option maxRecDepth 100000 in
theorem f85_call (o : Ops) (ho : o = stdOps) (fuel : Nat) (a0 : List AV) (a1 : Int) {R : F85R} (H : f85 o fuel a0 a1 = some R) (K : AV → List Ent → Prop) (E : AV → List Ent → Prop) (h : K R.av R.hp) : CallA Try.prog 85 [.sl 1 a0 .no, .int .i64 a1] [] K E := by
  refine call_wk fun K' hK => ?_
  refine call_keep (n₀ := 0) tab_ok Try.func85 rfl rfl rfl rfl ?_
  intro J hJ
  obtain rfl : o = J.o := by rw [ho, hJ]; rfl
  unfold f85 at H
  cbv
  repeat' (first
    | ((with_reducible first | refine awp_go2 ?_ | refine aops_go2 ?_ | refine strip_go2 ?_ | refine draw_go2 ?_ | refine frames_go2 ?_); cbv)
    | with_reducible exact id
    | exact trivial
    | with_reducible exact rfl
    | with_reducible exact ⟨_, rfl⟩
    | exact none_go H
    | (refine KeepQ.mk [] (by decide) ?_; cbv; cases H; refine hK _ _ _ _ ?_ ?_ rfl h <;> cbv)
    | (refine ifB_go H ?_ ?_ <;> clear H <;> intro hh H)
    | (refine ifB_og H ?_ ?_ <;> clear H <;> intro hh H)
    | (refine req_go H ?_; clear H; intro hh H)
    | (refine gg_t ho H ?_ ?_ <;> clear H <;> intro hh H)
    | (refine gg_f ho H ?_ ?_ <;> clear H <;> intro hh H)
    | (refine bit_go ho H ?_ ?_ <;> clear H <;> intro hh H; (all_goals cbv))
    | (refine nil_go H ?_; clear H; intro b H; cbv)
    | (refine tok_go ?_; cbv)
    | (refine getA_go (β := UInt8) H ?_; clear H; intro e H; cbv)
    | (obtain ⟨R, hR, H2⟩ := bindR_go H; refine call_weakF hJ [.sl 1 [] .no, .sl 1 [] .no] ?_; cbv; refine call_in hJ [] (by decide) rfl rfl rfl (f112_call _ ho _ _ _ hR _ _ ?_); clear H hR; rcases R with ⟨_⟩; all_goals (replace H := H2; clear H2; dsimp only at H; cbv))
    | (refine lit_t ?_; cbv)
    | (refine lit_f ?_; cbv)
    | (refine known_t (by assumption) ?_)
    | (refine known_f (by assumption) ?_)
    | (refine known_x (by assumption) ?_)
    | (refine known_y (by assumption) ?_)
    | (refine known_get (by assumption) ?_; cbv)
    | (refine known_and (by assumption) ?_)
    | with_reducible refine And.intro ?_ ?_
    | (intro hh; exact hh)
    | (intro _; assumption)
    | (intro _; clear H h; simp only [ho, stdOps] at *; simp_all))

def sh3 {α : Type} (e : AV) (k : Int → Option α) : Option α := match e with | .int .i64 x0 => k x0 | _ => none
theorem sh3_go {α : Type} {e : AV} {k : Int → Option α} {r : α} {G : AV → Prop} (H : sh3 e k = some r) (h : ∀ (x0 : Int), k x0 = some r → G (.int .i64 x0)) : G e := by
  unfold sh3 at H
  split at H
  · exact h _ H
  · exact nomatch H
theorem sh3_get {α : Type} {x : Option AV} {k : Int → Option α} {r : α} {G : AV → Prop} (H : getA x (fun e => sh3 e k) = some r) (h : ∀ (x0 : Int), x = some (.int .i64 x0) → k x0 = some r → G (.int .i64 x0)) : ∀ e, x = some e → G e := fun e he => by
  have H2 : sh3 e k = some r := by rw [he] at H; exact H
  unfold sh3 at H2
  split at H2
  · exact h _ he H2
  · exact nomatch H2
theorem sh3_find {α : Type} {x : Option AV} {k : Int → Option α} {z : Option α} {r : α} {G1 : AV → Prop} {G2 : Prop} (H : findA x (fun e => sh3 e k) z = some r) (h1 : ∀ (x0 : Int), k x0 = some r → G1 (.int .i64 x0)) (h2 : z = some r → G2) : (∀ e, x = some e → G1 e) ∧ (x = none → G2) :=
  findA_go H (fun _ He => sh3_go He h1) h2

/-! pontoon/pontoonref05.ints -/
inductive F84R where
  | v0 (y0 : List AV)
def F84R.av : F84R → AV
  | .v0 y0 => .sl 1 y0 .no
def F84R.hp : F84R → List Ent
  | .v0 _ => []
inductive F84L0 where
  | x0 (y0 : List AV)
noncomputable def f84_l0 (o : Ops) (fuel : Nat) (a1 : List AV) : Nat → List AV → Int → Option F84L0
  | 0, _, _ => none
  | n + 1, w4, w5 =>
    ifB (o.cmp .lss w5 (o.len a1))
    (req (o.inb w5 (o.len a1)) <|
     getA (o.get a1 w5) fun e => sh3 e fun v6 =>
     bindR (f85 o fuel w4 v6) fun r => match r with
     | .v0 r7 => f84_l0 o fuel a1 n r7 (o.ar .add .i64 w5 1))
    (some (.x0 w4))
theorem f84_l0_go {J : Jd} {n₀ : Nat} (hJ : J = std Try.prog n₀) {fuel : Nat} {a1 : List AV} {w4i : List AV} {w5i : Int} {α : Type} {k : F84L0 → Option α} {r : α} {c : Code} {Q : Ex → St → Prop} {s : St}
    (H : bindR (f84_l0 J.o fuel a1 fuel w4i w5i) k = some r) (hn : n₀ ≤ 0) (hle : Le s ⟨[(5, .int .i64 w5i), (1, .sl 1 a1 .no), (0, .sl 1 w4i .no)], [], 19⟩)
    (round : ∀ X, k X = some r → ∀ (n : Nat) (w4 : List AV) (w5 : Int), f84_l0 J.o fuel a1 (n + 1) w4 w5 = some X → ∀ N : St → Prop,
      (∀ (env : List (Nat × AV)) (w4' : List AV) (w5' : Int) (v : List Ent), f84_l0 J.o fuel a1 n w4' w5' = some X → wkEnv env [(5, .int .i64 w5'), (1, .sl 1 a1 .no), (0, .sl 1 w4' .no)] → N ⟨env, [] ++ v, 19⟩) → awp J tab c (thenQ N Q) ⟨[(5, .int .i64 w5), (1, .sl 1 a1 .no), (0, .sl 1 w4 .no)], [], 19⟩) : J.code (.loop c) Q s := by
  obtain ⟨X, hX, HX⟩ := bindR_go H
  refine loop_at (β := Nat × List AV × Int) hJ tab_ok (fun | (_, w4, w5) => ⟨[(5, .int .i64 w5), (1, .sl 1 a1 .no), (0, .sl 1 w4 .no)], [], 19⟩) (fun | (n, w4, w5) => f84_l0 J.o fuel a1 n w4 w5 = some X) (fun | (n, _, _) => n) (fuel, w4i, w5i) hX hle (by rintro ⟨_, _, _⟩; exact hn) ?_
  rintro ⟨n, w4, w5⟩ hb N hN
  rcases n with _ | n
  · exact none_go (show (none : Option F84L0) = some X from hb)
  exact round X HX n w4 w5 hb N fun env w4' w5' v h1 h2 => hN _ (n, w4', w5') h1 (Nat.lt_succ_self n) ⟨h2, by cbv, rfl, rfl⟩

noncomputable def f84 (o : Ops) (fuel : Nat) (a0 : List AV) (a1 : List AV) : Option F84R :=
  bindR (f84_l0 o fuel a1 fuel a0 0) fun r => match r with
  | .x0 y8 => some (.v0 y8)
set_option maxHeartbeats 4000000 in
set_option maxRecDepth 100000 in
theorem f84_call (o : Ops) (ho : o = stdOps) (fuel : Nat) (a0 : List AV) (a1 : List AV) {R : F84R} (H : f84 o fuel a0 a1 = some R) (K : AV → List Ent → Prop) (E : AV → List Ent → Prop) (h : K R.av R.hp) : CallA Try.prog 84 [.sl 1 a0 .no, .sl 1 a1 .no] [] K E := by
  refine call_wk fun K' hK => ?_
  refine call_keep (n₀ := 0) tab_ok Try.func84 rfl rfl rfl rfl ?_
  intro J hJ
  obtain rfl : o = J.o := by rw [ho, hJ]; rfl
  unfold f84 at H
  cbv
  repeat' (first
    | ((with_reducible first | refine awp_go2 ?_ | refine aops_go2 ?_ | refine strip_go2 ?_ | refine draw_go2 ?_ | refine frames_go2 ?_); cbv)
    | with_reducible exact id
    | exact trivial
    | with_reducible exact rfl
    | with_reducible exact ⟨_, rfl⟩
    | exact none_go H
    | (cases H; replace H := HX0; clear HX0; dsimp only at H)
    | (refine KeepQ.mk [] (by decide) ?_; cbv; cases H; refine hK _ _ _ _ ?_ ?_ rfl h <;> cbv)
    | (refine hN0 _ _ _ _ H ?_; with_reducible refine wkEnv_go2 ?_; cbv)
    | (refine ifB_go H ?_ ?_ <;> clear H <;> intro hh H)
    | (refine ifB_og H ?_ ?_ <;> clear H <;> intro hh H)
    | (refine req_go H ?_; clear H; intro hh H)
    | (refine gg_t ho H ?_ ?_ <;> clear H <;> intro hh H)
    | (refine gg_f ho H ?_ ?_ <;> clear H <;> intro hh H)
    | (refine bit_go ho H ?_ ?_ <;> clear H <;> intro hh H; (all_goals cbv))
    | (refine nil_go H ?_; clear H; intro b H; cbv)
    | (refine tok_go ?_; cbv)
    | (refine sh3_get H ?_; clear H; intro _ he H; cbv)
    | (refine sh3_find H ?_ ?_ <;> clear H; (intro _ H; cbv); (intro H; cbv))
    | (refine getA_go (β := UInt8) H ?_; clear H; intro e H; cbv)
    | (obtain ⟨R, hR, H2⟩ := bindR_go H; refine call_in hJ [] (by decide) rfl rfl rfl (f85_call _ ho _ _ _ hR _ _ ?_); clear H hR; rcases R with ⟨_⟩; all_goals (replace H := H2; clear H2; dsimp only at H; cbv))
    | (refine f84_l0_go hJ H (by decide) ⟨?_, ?_, rfl, rfl⟩ ?_
       · cbv
         repeat' (first | exact trivial | exact rfl | apply And.intro)
       · cbv
         repeat' (first | exact trivial | exact rfl | apply And.intro)
       clear H
       intro X0 HX0 n _ _ H Nx0 hN0
       rw [f84_l0] at H
       cbv)
    | (refine lit_t ?_; cbv)
    | (refine lit_f ?_; cbv)
    | (refine known_t (by assumption) ?_)
    | (refine known_f (by assumption) ?_)
    | (refine known_x (by assumption) ?_)
    | (refine known_y (by assumption) ?_)
    | (refine known_get (by assumption) ?_; cbv)
    | (refine known_and (by assumption) ?_)
    | with_reducible refine And.intro ?_ ?_
    | (intro hh; exact hh)
    | (intro _; assumption)
    | (intro _; clear H h; (try clear hN0); (try clear HX0); simp only [ho, stdOps] at *; simp_all))

/-! pontoon/pontoonref05.Bytes -/
inductive F42R where
  | v0 (y0 : List AV) (y1 : Int)
def F42R.av : F42R → AV
  | .v0 y0 y1 => .tup [.sl 1 y0 .no, .int .i64 y1]
def F42R.hp : F42R → List Ent
  | .v0 _ _ => []
inductive F42L1 where
  | x0 (y0 : List AV)
noncomputable def f42_l1 (o : Ops) (fuel : Nat) (v32 : List AV) (w27 : Int) (a0 : Int) (a1 : List AV) (v28 : Int) (v29 : Int) (v30 : Int) (v31 : Int) : Nat → List AV → Int → Option F42L1
  | 0, _, _ => none
  | n + 1, w41, w42 =>
    ifB (o.cmp .lss w42 (o.len v32))
    (req (o.inb w42 (o.len v32)) <|
     getA (o.get v32 w42) fun e => sh74 e fun v43 _ =>
     req (o.inb w42 (o.len v32)) <|
     getA (o.get v32 w42) fun e => sh74 e fun _ v46 =>
     bindR (f84 o fuel w41 [.int .i64 v43, .int .i64 v46]) fun r => match r with
     | .v0 r47 => f42_l1 o fuel v32 w27 a0 a1 v28 v29 v30 v31 n r47 (o.ar .add .i64 w42 1))
    (some (.x0 w41))
theorem f42_l1_go {J : Jd} {n₀ : Nat} (hJ : J = std Try.prog n₀) {fuel : Nat} {v32 : List AV} {w27 : Int} {a0 : Int} {a1 : List AV} {v28 : Int} {v29 : Int} {v30 : Int} {v31 : Int} {w41i : List AV} {w42i : Int} {α : Type} {k : F42L1 → Option α} {r : α} {c : Code} {Q : Ex → St → Prop} {s : St}
    (H : bindR (f42_l1 J.o fuel v32 w27 a0 a1 v28 v29 v30 v31 fuel w41i w42i) k = some r) (hn : n₀ ≤ 2) (hle : Le s ⟨[(9, .int .i64 w42i), (8, .ptr 1 0), (7, .int .i64 w27), (6, .sl 1 w41i .no), (1, .ptr 0 0)], [.var [.int .i64 a0, .sl 5 a1 .no], .var [.int .i64 v28, .int .i64 v29, .int .i64 v30, .int .i64 v31, .sl 2 v32 .no]], 78⟩)
    (round : ∀ X, k X = some r → ∀ (n : Nat) (w41 : List AV) (w42 : Int), f42_l1 J.o fuel v32 w27 a0 a1 v28 v29 v30 v31 (n + 1) w41 w42 = some X → ∀ N : St → Prop,
      (∀ (env : List (Nat × AV)) (w41' : List AV) (w42' : Int) (v : List Ent), f42_l1 J.o fuel v32 w27 a0 a1 v28 v29 v30 v31 n w41' w42' = some X → wkEnv env [(9, .int .i64 w42'), (8, .ptr 1 0), (7, .int .i64 w27), (6, .sl 1 w41' .no), (1, .ptr 0 0)] → N ⟨env, [.var [.int .i64 a0, .sl 5 a1 .no], .var [.int .i64 v28, .int .i64 v29, .int .i64 v30, .int .i64 v31, .sl 2 v32 .no]] ++ v, 78⟩) → awp J tab c (thenQ N Q) ⟨[(9, .int .i64 w42), (8, .ptr 1 0), (7, .int .i64 w27), (6, .sl 1 w41 .no), (1, .ptr 0 0)], [.var [.int .i64 a0, .sl 5 a1 .no], .var [.int .i64 v28, .int .i64 v29, .int .i64 v30, .int .i64 v31, .sl 2 v32 .no]], 78⟩) : J.code (.loop c) Q s := by
  obtain ⟨X, hX, HX⟩ := bindR_go H
  refine loop_at (β := Nat × List AV × Int) hJ tab_ok (fun | (_, w41, w42) => ⟨[(9, .int .i64 w42), (8, .ptr 1 0), (7, .int .i64 w27), (6, .sl 1 w41 .no), (1, .ptr 0 0)], [.var [.int .i64 a0, .sl 5 a1 .no], .var [.int .i64 v28, .int .i64 v29, .int .i64 v30, .int .i64 v31, .sl 2 v32 .no]], 78⟩) (fun | (n, w41, w42) => f42_l1 J.o fuel v32 w27 a0 a1 v28 v29 v30 v31 n w41 w42 = some X) (fun | (n, _, _) => n) (fuel, w41i, w42i) hX hle (by rintro ⟨_, _, _⟩; exact hn) ?_
  rintro ⟨n, w41, w42⟩ hb N hN
  rcases n with _ | n
  · exact none_go (show (none : Option F42L1) = some X from hb)
  exact round X HX n w41 w42 hb N fun env w41' w42' v h1 h2 => hN _ (n, w41', w42') h1 (Nat.lt_succ_self n) ⟨h2, by cbv, rfl, rfl⟩

inductive F42L0 where
  | x0 (y0 : List AV)
noncomputable def f42_l0 (o : Ops) (fuel : Nat) (a1 : List AV) (a0 : Int) : Nat → List AV → Int → Option F42L0
  | 0, _, _ => none
  | n + 1, w26, w27 =>
    ifB (o.cmp .lss w27 (o.len a1))
    (req (o.inb w27 (o.len a1)) <|
     getA (o.get a1 w27) fun e => sh62 e fun v28 v29 v30 v31 v32 =>
     bindR (f84 o fuel w26 [.int .i64 v28, .int .i64 v29, .int .i64 v30]) fun r => match r with
     | .v0 r33 => bindR (f85 o fuel r33 v31) fun r => match r with
       | .v0 r34 => bindR (f84 o fuel r34 [.int .i64 (o.len v32)]) fun r => match r with
         | .v0 r35 => bindR (f42_l1 o fuel v32 w27 a0 a1 v28 v29 v30 v31 fuel r35 0) fun r => match r with
           | .x0 y48 => f42_l0 o fuel a1 a0 n y48 (o.ar .add .i64 w27 1))
    (some (.x0 w26))
theorem f42_l0_go {J : Jd} {n₀ : Nat} (hJ : J = std Try.prog n₀) {fuel : Nat} {a1 : List AV} {a0 : Int} {w26i : List AV} {w27i : Int} {α : Type} {k : F42L0 → Option α} {r : α} {c : Code} {Q : Ex → St → Prop} {s : St}
    (H : bindR (f42_l0 J.o fuel a1 a0 fuel w26i w27i) k = some r) (hn : n₀ ≤ 1) (hle : Le s ⟨[(7, .int .i64 w27i), (6, .sl 1 w26i .no), (1, .ptr 0 0)], [.var [.int .i64 a0, .sl 5 a1 .no]], 78⟩)
    (round : ∀ X, k X = some r → ∀ (n : Nat) (w26 : List AV) (w27 : Int), f42_l0 J.o fuel a1 a0 (n + 1) w26 w27 = some X → ∀ N : St → Prop,
      (∀ (env : List (Nat × AV)) (w26' : List AV) (w27' : Int) (v : List Ent), f42_l0 J.o fuel a1 a0 n w26' w27' = some X → wkEnv env [(7, .int .i64 w27'), (6, .sl 1 w26' .no), (1, .ptr 0 0)] → N ⟨env, [.var [.int .i64 a0, .sl 5 a1 .no]] ++ v, 78⟩) → awp J tab c (thenQ N Q) ⟨[(7, .int .i64 w27), (6, .sl 1 w26 .no), (1, .ptr 0 0)], [.var [.int .i64 a0, .sl 5 a1 .no]], 78⟩) : J.code (.loop c) Q s := by
  obtain ⟨X, hX, HX⟩ := bindR_go H
  refine loop_at (β := Nat × List AV × Int) hJ tab_ok (fun | (_, w26, w27) => ⟨[(7, .int .i64 w27), (6, .sl 1 w26 .no), (1, .ptr 0 0)], [.var [.int .i64 a0, .sl 5 a1 .no]], 78⟩) (fun | (n, w26, w27) => f42_l0 J.o fuel a1 a0 n w26 w27 = some X) (fun | (n, _, _) => n) (fuel, w26i, w27i) hX hle (by rintro ⟨_, _, _⟩; exact hn) ?_
  rintro ⟨n, w26, w27⟩ hb N hN
  rcases n with _ | n
  · exact none_go (show (none : Option F42L0) = some X from hb)
  exact round X HX n w26 w27 hb N fun env w26' w27' v h1 h2 => hN _ (n, w26', w27') h1 (Nat.lt_succ_self n) ⟨h2, by cbv, rfl, rfl⟩

noncomputable def f42 (o : Ops) (fuel : Nat) (a0 : Int) (a1 : List AV) : Option F42R :=
  bindR (f27 o fuel a0 a1) fun r => match r with
  | .v0 _ r3 => ifB (o.bnot (o.cmp .eql r3 0))
    (some (.v0 [] r3))
    (bindR (f84 o fuel [] [.int .i64 a0, .int .i64 (o.len a1)]) fun r => match r with
     | .v0 r4 => bindR (f42_l0 o fuel a1 a0 fuel r4 0) fun r => match r with
       | .x0 y49 => some (.v0 y49 0))
set_option maxHeartbeats 4000000 in
set_option maxRecDepth 100000 in
theorem f42_call (o : Ops) (ho : o = stdOps) (fuel : Nat) (a0 : Int) (a1 : List AV) {R : F42R} (H : f42 o fuel a0 a1 = some R) (K : AV → List Ent → Prop) (E : AV → List Ent → Prop) (h : K R.av R.hp) : CallA Try.prog 42 [.agg [.int .i64 a0, .sl 5 a1 .no]] [] K E := by
  refine call_wk fun K' hK => ?_
  refine call_keep (n₀ := 0) tab_ok Try.func42 rfl rfl rfl rfl ?_
  intro J hJ
  obtain rfl : o = J.o := by rw [ho, hJ]; rfl
  unfold f42 at H
  cbv
  repeat' (first
    | ((with_reducible first | refine awp_go2 ?_ | refine aops_go2 ?_ | refine strip_go2 ?_ | refine draw_go2 ?_ | refine frames_go2 ?_); cbv)
    | with_reducible exact id
    | exact trivial
    | with_reducible exact rfl
    | with_reducible exact ⟨_, rfl⟩
    | exact none_go H
    | (cases H; replace H := HX1; clear HX1; dsimp only at H)
    | (cases H; replace H := HX0; clear HX0; dsimp only at H)
    | (refine KeepQ.mk [] (by decide) ?_; cbv; cases H; refine hK _ _ _ _ ?_ ?_ rfl h <;> cbv)
    | (refine hN0 _ _ _ _ H ?_; with_reducible refine wkEnv_go2 ?_; cbv)
    | (refine hN1 _ _ _ _ H ?_; with_reducible refine wkEnv_go2 ?_; cbv)
    | (refine ifB_go H ?_ ?_ <;> clear H <;> intro hh H)
    | (refine ifB_og H ?_ ?_ <;> clear H <;> intro hh H)
    | (refine req_go H ?_; clear H; intro hh H)
    | (refine gg_t ho H ?_ ?_ <;> clear H <;> intro hh H)
    | (refine gg_f ho H ?_ ?_ <;> clear H <;> intro hh H)
    | (refine bit_go ho H ?_ ?_ <;> clear H <;> intro hh H; (all_goals cbv))
    | (refine nil_go H ?_; clear H; intro b H; cbv)
    | (refine tok_go ?_; cbv)
    | (refine sh62_get H ?_; clear H; intro _ _ _ _ _ he H; cbv)
    | (refine sh62_find H ?_ ?_ <;> clear H; (intro _ _ _ _ _ H; cbv); (intro H; cbv))
    | (refine sh74_get H ?_; clear H; intro _ _ he H; cbv)
    | (refine sh74_find H ?_ ?_ <;> clear H; (intro _ _ H; cbv); (intro H; cbv))
    | (refine getA_go (β := UInt8) H ?_; clear H; intro e H; cbv)
    | (obtain ⟨R, hR, H2⟩ := bindR_go H; refine call_weakF hJ [.sl 1 [] .no, .sl 1 [] .no] ?_; cbv; refine call_in hJ [] (by decide) rfl rfl rfl (f84_call _ ho _ _ _ hR _ _ ?_); clear H hR; rcases R with ⟨_⟩; all_goals (replace H := H2; clear H2; dsimp only at H; cbv))
    | (obtain ⟨R, hR, H2⟩ := bindR_go H; refine call_in hJ [] (by decide) rfl rfl rfl (f85_call _ ho _ _ _ hR _ _ ?_); clear H hR; rcases R with ⟨_⟩; all_goals (replace H := H2; clear H2; dsimp only at H; cbv))
    | (obtain ⟨R, hR, H2⟩ := bindR_go H; refine call_in hJ [] (by decide) rfl rfl rfl (f27_call _ ho _ _ _ hR _ _ ?_); clear H hR; rcases R with ⟨_, _⟩; all_goals (replace H := H2; clear H2; dsimp only at H; cbv))
    | (refine f42_l0_go hJ H (by decide) ⟨?_, ?_, rfl, rfl⟩ ?_
       · cbv
         repeat' (first | exact trivial | exact rfl | apply And.intro)
       · cbv
         repeat' (first | exact trivial | exact rfl | apply And.intro)
       clear H
       intro X0 HX0 n _ _ H Nx0 hN0
       rw [f42_l0] at H
       cbv)
    | (refine f42_l1_go hJ H (by decide) ⟨?_, ?_, rfl, rfl⟩ ?_
       · cbv
         repeat' (first | exact trivial | exact rfl | apply And.intro)
       · cbv
         repeat' (first | exact trivial | exact rfl | apply And.intro)
       clear H
       intro X1 HX1 n _ _ H Nx1 hN1
       rw [f42_l1] at H
       cbv)
    | (refine lit_t ?_; cbv)
    | (refine lit_f ?_; cbv)
    | (refine known_t (by assumption) ?_)
    | (refine known_f (by assumption) ?_)
    | (refine known_x (by assumption) ?_)
    | (refine known_y (by assumption) ?_)
    | (refine known_get (by assumption) ?_; cbv)
    | (refine known_and (by assumption) ?_)
    | with_reducible refine And.intro ?_ ?_
    | (intro hh; exact hh)
    | (intro _; assumption)
    | (intro _; clear H h; (try clear hN0); (try clear HX0); (try clear hN1); (try clear HX1); simp only [ho, stdOps] at *; simp_all))

/-! slices.Clip[[]byte,byte] -/
inductive F105R where
  | v0 (y0 : List AV)
def F105R.av : F105R → AV
  | .v0 y0 => .sl 1 y0 .full
def F105R.hp : F105R → List Ent
  | .v0 _ => []
noncomputable def f105 (o : Ops) (_fuel : Nat) (a0 : List AV) : Option F105R :=
  req (o.le 0 (o.len a0)) <|
  req (o.le (o.len a0) (o.len a0)) <|
  req (o.le (o.len a0) (o.len a0)) <|
  some (.v0 (o.sub a0 0 (o.len a0)))
set_option maxHeartbeats 4000000 in
set_option maxRecDepth 100000 in
theorem f105_call (o : Ops) (ho : o = stdOps) (fuel : Nat) (a0 : List AV) {R : F105R} (H : f105 o fuel a0 = some R) (K : AV → List Ent → Prop) (E : AV → List Ent → Prop) (h : K R.av R.hp) : CallA Try.prog 105 [.sl 1 a0 .no] [] K E := by
  refine call_wk fun K' hK => ?_
  refine call_keep (n₀ := 0) tab_ok Try.func105 rfl rfl rfl rfl ?_
  intro J hJ
  obtain rfl : o = J.o := by rw [ho, hJ]; rfl
  unfold f105 at H
  cbv
  repeat' (first
    | ((with_reducible first | refine awp_go2 ?_ | refine aops_go2 ?_ | refine strip_go2 ?_ | refine draw_go2 ?_ | refine frames_go2 ?_); cbv)
    | with_reducible exact id
    | exact trivial
    | with_reducible exact rfl
    | with_reducible exact ⟨_, rfl⟩
    | exact none_go H
    | (refine KeepQ.mk [] (by decide) ?_; cbv; cases H; refine hK _ _ _ _ ?_ ?_ rfl h <;> cbv)
    | (refine ifB_go H ?_ ?_ <;> clear H <;> intro hh H)
    | (refine ifB_og H ?_ ?_ <;> clear H <;> intro hh H)
    | (refine req_go H ?_; clear H; intro hh H)
    | (refine gg_t ho H ?_ ?_ <;> clear H <;> intro hh H)
    | (refine gg_f ho H ?_ ?_ <;> clear H <;> intro hh H)
    | (refine bit_go ho H ?_ ?_ <;> clear H <;> intro hh H; (all_goals cbv))
    | (refine nil_go H ?_; clear H; intro b H; cbv)
    | (refine tok_go ?_; cbv)
    | (refine getA_go (β := UInt8) H ?_; clear H; intro e H; cbv)
    | (refine lit_t ?_; cbv)
    | (refine lit_f ?_; cbv)
    | (refine known_t (by assumption) ?_)
    | (refine known_f (by assumption) ?_)
    | (refine known_x (by assumption) ?_)
    | (refine known_y (by assumption) ?_)
    | (refine known_get (by assumption) ?_; cbv)
    | (refine known_and (by assumption) ?_)
    | with_reducible refine And.intro ?_ ?_
    | (intro hh; exact hh)
    | (intro _; assumption)
    | (intro _; clear H h; simp only [ho, stdOps] at *; simp_all))

/-! pontoon/pack.natural -/
inductive F106R where
  | v0 (y0 : Int)
def F106R.av : F106R → AV
  | .v0 y0 => .int .u64 y0
def F106R.hp : F106R → List Ent
  | .v0 _ => []
noncomputable def f106 (o : Ops) (_fuel : Nat) (a0 : Int) : Option F106R :=
  req (o.nn 1) <|
  req (o.nn 63) <|
  some (.v0 (o.ar .xor .u64 (o.sh .shl .u64 (o.wrap .u64 a0) 1) (o.wrap .u64 (o.sh .shr .i64 a0 63))))
set_option maxHeartbeats 4000000 in
set_option maxRecDepth 100000 in
theorem f106_call (o : Ops) (ho : o = stdOps) (fuel : Nat) (a0 : Int) {R : F106R} (H : f106 o fuel a0 = some R) (K : AV → List Ent → Prop) (E : AV → List Ent → Prop) (h : K R.av R.hp) : CallA Try.prog 106 [.int .i64 a0] [] K E := by
  refine call_wk fun K' hK => ?_
  refine call_keep (n₀ := 0) tab_ok Try.func106 rfl rfl rfl rfl ?_
  intro J hJ
  obtain rfl : o = J.o := by rw [ho, hJ]; rfl
  unfold f106 at H
  cbv
  repeat' (first
    | ((with_reducible first | refine awp_go2 ?_ | refine aops_go2 ?_ | refine strip_go2 ?_ | refine draw_go2 ?_ | refine frames_go2 ?_); cbv)
    | with_reducible exact id
    | exact trivial
    | with_reducible exact rfl
    | with_reducible exact ⟨_, rfl⟩
    | exact none_go H
    | (refine KeepQ.mk [] (by decide) ?_; cbv; cases H; refine hK _ _ _ _ ?_ ?_ rfl h <;> cbv)
    | (refine ifB_go H ?_ ?_ <;> clear H <;> intro hh H)
    | (refine ifB_og H ?_ ?_ <;> clear H <;> intro hh H)
    | (refine req_go H ?_; clear H; intro hh H)
    | (refine gg_t ho H ?_ ?_ <;> clear H <;> intro hh H)
    | (refine gg_f ho H ?_ ?_ <;> clear H <;> intro hh H)
    | (refine bit_go ho H ?_ ?_ <;> clear H <;> intro hh H; (all_goals cbv))
    | (refine nil_go H ?_; clear H; intro b H; cbv)
    | (refine tok_go ?_; cbv)
    | (refine getA_go (β := UInt8) H ?_; clear H; intro e H; cbv)
    | (refine lit_t ?_; cbv)
    | (refine lit_f ?_; cbv)
    | (refine known_t (by assumption) ?_)
    | (refine known_f (by assumption) ?_)
    | (refine known_x (by assumption) ?_)
    | (refine known_y (by assumption) ?_)
    | (refine known_get (by assumption) ?_; cbv)
    | (refine known_and (by assumption) ?_)
    | with_reducible refine And.intro ?_ ?_
    | (intro hh; exact hh)
    | (intro _; assumption)
    | (intro _; clear H h; simp only [ho, stdOps] at *; simp_all))

/-! pontoon/pack.Size -/
inductive F107R where
  | v0 (y0 : Int)
def F107R.av : F107R → AV
  | .v0 y0 => .int .i64 y0
def F107R.hp : F107R → List Ent
  | .v0 _ => []
inductive F107L0 where
  | x0 (y0 : Int)
noncomputable def f107_l0 (o : Ops) (fuel : Nat)  : Nat → Int → Int → Option F107L0
  | 0, _, _ => none
  | n + 1, w2, w3 =>
    ifB (o.cmp .gtr w3 127)
    (req (o.nn 7) <|
     f107_l0 o fuel  n (o.ar .add .i64 w2 1) (o.sh .shr .u64 w3 7))
    (some (.x0 w2))
theorem f107_l0_go {J : Jd} {n₀ : Nat} (hJ : J = std Try.prog n₀) {fuel : Nat}  {w2i : Int} {w3i : Int} {α : Type} {k : F107L0 → Option α} {r : α} {c : Code} {Q : Ex → St → Prop} {s : St}
    (H : bindR (f107_l0 J.o fuel  fuel w2i w3i) k = some r) (hn : n₀ ≤ 0) (hle : Le s ⟨[(4, .int .u64 w3i), (3, .int .i64 w2i)], [], 14⟩)
    (round : ∀ X, k X = some r → ∀ (n : Nat) (w2 : Int) (w3 : Int), f107_l0 J.o fuel  (n + 1) w2 w3 = some X → ∀ N : St → Prop,
      (∀ (env : List (Nat × AV)) (w2' : Int) (w3' : Int) (v : List Ent), f107_l0 J.o fuel  n w2' w3' = some X → wkEnv env [(4, .int .u64 w3'), (3, .int .i64 w2')] → N ⟨env, [] ++ v, 14⟩) → awp J tab c (thenQ N Q) ⟨[(4, .int .u64 w3), (3, .int .i64 w2)], [], 14⟩) : J.code (.loop c) Q s := by
  obtain ⟨X, hX, HX⟩ := bindR_go H
  refine loop_at (β := Nat × Int × Int) hJ tab_ok (fun | (_, w2, w3) => ⟨[(4, .int .u64 w3), (3, .int .i64 w2)], [], 14⟩) (fun | (n, w2, w3) => f107_l0 J.o fuel  n w2 w3 = some X) (fun | (n, _, _) => n) (fuel, w2i, w3i) hX hle (by rintro ⟨_, _, _⟩; exact hn) ?_
  rintro ⟨n, w2, w3⟩ hb N hN
  rcases n with _ | n
  · exact none_go (show (none : Option F107L0) = some X from hb)
  exact round X HX n w2 w3 hb N fun env w2' w3' v h1 h2 => hN _ (n, w2', w3') h1 (Nat.lt_succ_self n) ⟨h2, by cbv, rfl, rfl⟩

noncomputable def f107 (o : Ops) (fuel : Nat) (a0 : Int) : Option F107R :=
  bindR (f106 o fuel a0) fun r => match r with
  | .v0 r1 => bindR (f107_l0 o fuel  fuel 1 r1) fun r => match r with
    | .x0 y4 => some (.v0 y4)
set_option maxHeartbeats 4000000 in
set_option maxRecDepth 100000 in
theorem f107_call (o : Ops) (ho : o = stdOps) (fuel : Nat) (a0 : Int) {R : F107R} (H : f107 o fuel a0 = some R) (K : AV → List Ent → Prop) (E : AV → List Ent → Prop) (h : K R.av R.hp) : CallA Try.prog 107 [.int .i64 a0] [] K E := by
  refine call_wk fun K' hK => ?_
  refine call_keep (n₀ := 0) tab_ok Try.func107 rfl rfl rfl rfl ?_
  intro J hJ
  obtain rfl : o = J.o := by rw [ho, hJ]; rfl
  unfold f107 at H
  cbv
  repeat' (first
    | ((with_reducible first | refine awp_go2 ?_ | refine aops_go2 ?_ | refine strip_go2 ?_ | refine draw_go2 ?_ | refine frames_go2 ?_); cbv)
    | with_reducible exact id
    | exact trivial
    | with_reducible exact rfl
    | with_reducible exact ⟨_, rfl⟩
    | exact none_go H
    | (cases H; replace H := HX0; clear HX0; dsimp only at H)
    | (refine KeepQ.mk [] (by decide) ?_; cbv; cases H; refine hK _ _ _ _ ?_ ?_ rfl h <;> cbv)
    | (refine hN0 _ _ _ _ H ?_; with_reducible refine wkEnv_go2 ?_; cbv)
    | (refine ifB_go H ?_ ?_ <;> clear H <;> intro hh H)
    | (refine ifB_og H ?_ ?_ <;> clear H <;> intro hh H)
    | (refine req_go H ?_; clear H; intro hh H)
    | (refine gg_t ho H ?_ ?_ <;> clear H <;> intro hh H)
    | (refine gg_f ho H ?_ ?_ <;> clear H <;> intro hh H)
    | (refine bit_go ho H ?_ ?_ <;> clear H <;> intro hh H; (all_goals cbv))
    | (refine nil_go H ?_; clear H; intro b H; cbv)
    | (refine tok_go ?_; cbv)
    | (refine getA_go (β := UInt8) H ?_; clear H; intro e H; cbv)
    | (obtain ⟨R, hR, H2⟩ := bindR_go H; refine call_in hJ [] (by decide) rfl rfl rfl (f106_call _ ho _ _ hR _ _ ?_); clear H hR; rcases R with ⟨_⟩; all_goals (replace H := H2; clear H2; dsimp only at H; cbv))
    | (refine f107_l0_go hJ H (by decide) ⟨?_, ?_, rfl, rfl⟩ ?_
       · cbv
         repeat' (first | exact trivial | exact rfl | apply And.intro)
       · cbv
         repeat' (first | exact trivial | exact rfl | apply And.intro)
       clear H
       intro X0 HX0 n _ _ H Nx0 hN0
       rw [f107_l0] at H
       cbv)
    | (refine lit_t ?_; cbv)
    | (refine lit_f ?_; cbv)
    | (refine known_t (by assumption) ?_)
    | (refine known_f (by assumption) ?_)
    | (refine known_x (by assumption) ?_)
    | (refine known_y (by assumption) ?_)
    | (refine known_get (by assumption) ?_; cbv)
    | (refine known_and (by assumption) ?_)
    | with_reducible refine And.intro ?_ ?_
    | (intro hh; exact hh)
    | (intro _; assumption)
    | (intro _; clear H h; (try clear hN0); (try clear HX0); simp only [ho, stdOps] at *; simp_all))

/-! pontoon/pack.Int -/
inductive F76R where
  | v0 (y0 : List AV)
def F76R.av : F76R → AV
  | .v0 y0 => .sl 1 y0 .no
def F76R.hp : F76R → List Ent
  | .v0 _ => []
inductive F76L1 where
  | x0 (y0 : List AV) (y1 : Nat)
noncomputable def f76_l1 (o : Ops) (fuel : Nat) (r23 : Int) (a1 : List AV) (w21 : Int) : Nat → Nat → List AV → Int → Option F76L1
  | 0, _, _, _ => none
  | n + 1, w25, w26, w27 =>
    ifB (o.cmp .gtr w27 0)
    (req (o.nn (o.ar .mul .i64 7 w27)) <|
     req (o.room w26 [.int .u8 (o.ar .or .u8 (o.wrap .u8 (o.sh .shr .u64 r23 (o.ar .mul .i64 7 w27))) 128)] 1) <|
     f76_l1 o fuel r23 a1 w21 n (o.padd w25 [.int .u8 (o.ar .or .u8 (o.wrap .u8 (o.sh .shr .u64 r23 (o.ar .mul .i64 7 w27))) 128)]) (o.apnd w26 [.int .u8 (o.ar .or .u8 (o.wrap .u8 (o.sh .shr .u64 r23 (o.ar .mul .i64 7 w27))) 128)]) (o.ar .sub .i64 w27 1))
    (some (.x0 w26 w25))
theorem f76_l1_go {J : Jd} {n₀ : Nat} (hJ : J = std Try.prog n₀) {fuel : Nat} {r23 : Int} {a1 : List AV} {w21 : Int} {w25i : Nat} {w26i : List AV} {w27i : Int} {α : Type} {k : F76L1 → Option α} {r : α} {c : Code} {Q : Ex → St → Prop} {s : St}
    (H : bindR (f76_l1 J.o fuel r23 a1 w21 fuel w25i w26i w27i) k = some r) (hn : n₀ ≤ 1) (hle : Le s ⟨[(14, .int .i64 w21), (13, .int .i64 (J.o.len a1)), (12, .sl 1 a1 .no), (9, .int .i64 w27i), (8, .int .u64 r23), (5, .sl 1 w26i (.tip 0 w25i))], [.tip w25i], 44⟩)
    (round : ∀ X, k X = some r → ∀ (n : Nat) (w25 : Nat) (w26 : List AV) (w27 : Int), f76_l1 J.o fuel r23 a1 w21 (n + 1) w25 w26 w27 = some X → ∀ N : St → Prop,
      (∀ (env : List (Nat × AV)) (w25' : Nat) (w26' : List AV) (w27' : Int) (v : List Ent), f76_l1 J.o fuel r23 a1 w21 n w25' w26' w27' = some X → wkEnv env [(14, .int .i64 w21), (13, .int .i64 (J.o.len a1)), (12, .sl 1 a1 .no), (9, .int .i64 w27'), (8, .int .u64 r23), (5, .sl 1 w26' (.tip 0 w25'))] → N ⟨env, [.tip w25'] ++ v, 44⟩) → awp J tab c (thenQ N Q) ⟨[(14, .int .i64 w21), (13, .int .i64 (J.o.len a1)), (12, .sl 1 a1 .no), (9, .int .i64 w27), (8, .int .u64 r23), (5, .sl 1 w26 (.tip 0 w25))], [.tip w25], 44⟩) : J.code (.loop c) Q s := by
  obtain ⟨X, hX, HX⟩ := bindR_go H
  refine loop_at (β := Nat × Nat × List AV × Int) hJ tab_ok (fun | (_, w25, w26, w27) => ⟨[(14, .int .i64 w21), (13, .int .i64 (J.o.len a1)), (12, .sl 1 a1 .no), (9, .int .i64 w27), (8, .int .u64 r23), (5, .sl 1 w26 (.tip 0 w25))], [.tip w25], 44⟩) (fun | (n, w25, w26, w27) => f76_l1 J.o fuel r23 a1 w21 n w25 w26 w27 = some X) (fun | (n, _, _, _) => n) (fuel, w25i, w26i, w27i) hX hle (by rintro ⟨_, _, _, _⟩; exact hn) ?_
  rintro ⟨n, w25, w26, w27⟩ hb N hN
  rcases n with _ | n
  · exact none_go (show (none : Option F76L1) = some X from hb)
  exact round X HX n w25 w26 w27 hb N fun env w25' w26' w27' v h1 h2 => hN _ (n, w25', w26', w27') h1 (Nat.lt_succ_self n) ⟨h2, by cbv, rfl, rfl⟩

inductive F76L0 where
  | x0 (y0 : List AV) (y1 : Nat)
noncomputable def f76_l0 (o : Ops) (fuel : Nat) (a1 : List AV) : Nat → Nat → List AV → Int → Option F76L0
  | 0, _, _, _ => none
  | n + 1, w19, w20, w21 =>
    ifB (o.cmp .lss w21 (o.len a1))
    (req (o.inb w21 (o.len a1)) <|
     getA (o.get a1 w21) fun e => sh2 e fun v22 =>
     bindR (f106 o fuel v22) fun r => match r with
     | .v0 r23 => bindR (f107 o fuel v22) fun r => match r with
       | .v0 r24 => bindR (f76_l1 o fuel r23 a1 w21 fuel w19 w20 (o.ar .sub .i64 r24 1)) fun r => match r with
         | .x0 y28 y29 => req (o.room y28 [.int .u8 (o.ar .and .u8 (o.wrap .u8 r23) 127)] 1) <|
           f76_l0 o fuel a1 n (o.padd y29 [.int .u8 (o.ar .and .u8 (o.wrap .u8 r23) 127)]) (o.apnd y28 [.int .u8 (o.ar .and .u8 (o.wrap .u8 r23) 127)]) (o.ar .add .i64 w21 1))
    (some (.x0 w20 w19))
theorem f76_l0_go {J : Jd} {n₀ : Nat} (hJ : J = std Try.prog n₀) {fuel : Nat} {a1 : List AV} {w19i : Nat} {w20i : List AV} {w21i : Int} {α : Type} {k : F76L0 → Option α} {r : α} {c : Code} {Q : Ex → St → Prop} {s : St}
    (H : bindR (f76_l0 J.o fuel a1 fuel w19i w20i w21i) k = some r) (hn : n₀ ≤ 1) (hle : Turn n₀ s ⟨[(14, .int .i64 w21i), (13, .int .i64 (J.o.len a1)), (12, .sl 1 a1 .no), (5, .sl 1 w20i (.tip 0 w19i))], [.tip w19i], 44⟩)
    (round : ∀ X, k X = some r → ∀ (n : Nat) (w19 : Nat) (w20 : List AV) (w21 : Int), f76_l0 J.o fuel a1 (n + 1) w19 w20 w21 = some X → ∀ N : St → Prop,
      (∀ (env : List (Nat × AV)) (w19' : Nat) (w20' : List AV) (w21' : Int) (v : List Ent), f76_l0 J.o fuel a1 n w19' w20' w21' = some X → wkEnv env [(14, .int .i64 w21'), (13, .int .i64 (J.o.len a1)), (12, .sl 1 a1 .no), (5, .sl 1 w20' (.tip 0 w19'))] → N ⟨env, [.tip w19'] ++ v, 44⟩) → awp J tab c (thenQ N Q) ⟨[(14, .int .i64 w21), (13, .int .i64 (J.o.len a1)), (12, .sl 1 a1 .no), (5, .sl 1 w20 (.tip 0 w19))], [.tip w19], 44⟩) : J.code (.loop c) Q s := by
  obtain ⟨X, hX, HX⟩ := bindR_go H
  refine loop_turn_at (β := Nat × Nat × List AV × Int) hJ tab_ok (fun | (_, w19, w20, w21) => ⟨[(14, .int .i64 w21), (13, .int .i64 (J.o.len a1)), (12, .sl 1 a1 .no), (5, .sl 1 w20 (.tip 0 w19))], [.tip w19], 44⟩) (fun | (n, w19, w20, w21) => f76_l0 J.o fuel a1 n w19 w20 w21 = some X) (fun | (n, _, _, _) => n) (fuel, w19i, w20i, w21i) hX hle (by rintro ⟨_, _, _, _⟩; exact hn) ?_
  rintro ⟨n, w19, w20, w21⟩ hb N hN
  rcases n with _ | n
  · exact none_go (show (none : Option F76L0) = some X from hb)
  exact round X HX n w19 w20 w21 hb N fun env w19' w20' w21' v h1 h2 => hN _ (n, w19', w20', w21') h1 (Nat.lt_succ_self n) (Turn.le ⟨h2, by cbv; repeat' (first | exact trivial | exact rfl | apply And.intro), rfl, rfl⟩ (by simp; omega))

noncomputable def f76 (o : Ops) (fuel : Nat) (a0 : List AV) (a1 : List AV) : Option F76R :=
  bindR (f105 o fuel a0) fun r => match r with
  | .v0 r2 => bindR (f76_l0 o fuel a1 fuel 0 r2 0) fun r => match r with
    | .x0 y30 _ => some (.v0 y30)
set_option maxHeartbeats 4000000 in
set_option maxRecDepth 100000 in
theorem f76_call (o : Ops) (ho : o = stdOps) (fuel : Nat) (a0 : List AV) (a1 : List AV) {R : F76R} (H : f76 o fuel a0 a1 = some R) (K : AV → List Ent → Prop) (E : AV → List Ent → Prop) (h : K R.av R.hp) : CallA Try.prog 76 [.sl 1 a0 .no, .sl 1 a1 .no] [] K E := by
  refine call_wk fun K' hK => ?_
  refine call_keep (n₀ := 0) tab_ok Try.func76 rfl rfl rfl rfl ?_
  intro J hJ
  obtain rfl : o = J.o := by rw [ho, hJ]; rfl
  unfold f76 at H
  cbv
  repeat' (first
    | ((with_reducible first | refine awp_go2 ?_ | refine aops_go2 ?_ | refine strip_go2 ?_ | refine draw_go2 ?_ | refine frames_go2 ?_); cbv)
    | with_reducible exact id
    | exact trivial
    | with_reducible exact rfl
    | with_reducible exact ⟨_, rfl⟩
    | exact none_go H
    | (cases H; replace H := HX1; clear HX1; dsimp only at H)
    | (cases H; replace H := HX0; clear HX0; dsimp only at H)
    | (refine KeepQ.mk [] (by decide) ?_; cbv; cases H; refine hK _ _ _ _ ?_ ?_ rfl h <;> cbv)
    | (refine hN0 _ _ _ _ _ H ?_; with_reducible refine wkEnv_go2 ?_; cbv)
    | (refine hN1 _ _ _ _ _ H ?_; with_reducible refine wkEnv_go2 ?_; cbv)
    | (refine ifB_go H ?_ ?_ <;> clear H <;> intro hh H)
    | (refine ifB_og H ?_ ?_ <;> clear H <;> intro hh H)
    | (refine req_go H ?_; clear H; intro hh H)
    | (refine gg_t ho H ?_ ?_ <;> clear H <;> intro hh H)
    | (refine gg_f ho H ?_ ?_ <;> clear H <;> intro hh H)
    | (refine bit_go ho H ?_ ?_ <;> clear H <;> intro hh H; (all_goals cbv))
    | (refine nil_go H ?_; clear H; intro b H; cbv)
    | (refine tok_go ?_; cbv)
    | (refine sh2_get H ?_; clear H; intro _ he H; cbv)
    | (refine sh2_find H ?_ ?_ <;> clear H; (intro _ H; cbv); (intro H; cbv))
    | (refine getA_go (β := UInt8) H ?_; clear H; intro e H; cbv)
    | (obtain ⟨R, hR, H2⟩ := bindR_go H; refine call_in hJ [] (by decide) rfl rfl rfl (f107_call _ ho _ _ hR _ _ ?_); clear H hR; rcases R with ⟨_⟩; all_goals (replace H := H2; clear H2; dsimp only at H; cbv))
    | (obtain ⟨R, hR, H2⟩ := bindR_go H; refine call_in hJ [] (by decide) rfl rfl rfl (f106_call _ ho _ _ hR _ _ ?_); clear H hR; rcases R with ⟨_⟩; all_goals (replace H := H2; clear H2; dsimp only at H; cbv))
    | (obtain ⟨R, hR, H2⟩ := bindR_go H; refine call_in hJ [] (by decide) rfl rfl rfl (f105_call _ ho _ _ hR _ _ ?_); clear H hR; rcases R with ⟨_⟩; all_goals (replace H := H2; clear H2; dsimp only at H; cbv))
    | (refine f76_l0_go hJ H (by decide) (Turn.trans (turn_tipe 5 1 _ rfl (Nat.le_of_ble_eq_true rfl)) (Turn.le ⟨?_, ?_, rfl, rfl⟩ (Nat.le_of_ble_eq_true rfl))) ?_
       · cbv
         repeat' (first | exact trivial | exact rfl | apply And.intro)
       · cbv
         repeat' (first | exact trivial | exact rfl | apply And.intro)
       clear H
       intro X0 HX0 n _ _ _ H Nx0 hN0
       rw [f76_l0] at H
       cbv)
    | (refine f76_l1_go hJ H (by decide) ⟨?_, ?_, rfl, rfl⟩ ?_
       · cbv
         repeat' (first | exact trivial | exact rfl | apply And.intro)
       · cbv
         repeat' (first | exact trivial | exact rfl | apply And.intro)
       clear H
       intro X1 HX1 n _ _ _ H Nx1 hN1
       rw [f76_l1] at H
       cbv)
    | (refine lit_t ?_; cbv)
    | (refine lit_f ?_; cbv)
    | (refine known_t (by assumption) ?_)
    | (refine known_f (by assumption) ?_)
    | (refine known_x (by assumption) ?_)
    | (refine known_y (by assumption) ?_)
    | (refine known_get (by assumption) ?_; cbv)
    | (refine known_and (by assumption) ?_)
    | with_reducible refine And.intro ?_ ?_
    | (intro hh; exact hh)
    | (intro _; assumption)
    | (intro _; clear H h; (try clear hN0); (try clear HX0); (try clear hN1); (try clear HX1); simp only [ho, stdOps] at *; simp_all))

/-! pontoon/graph.Bytes -/
inductive F37R where
  | v0 (y0 : List AV) (y1 : Int)
def F37R.av : F37R → AV
  | .v0 y0 y1 => .tup [.sl 1 y0 .no, .int .i64 y1]
def F37R.hp : F37R → List Ent
  | .v0 _ _ => []
inductive F37L1 where
  | x0 (y0 : List AV)
noncomputable def f37_l1 (o : Ops) (fuel : Nat) (v26 : List AV) (a1 : List AV) (w21 : Int) : Nat → List AV → Int → Option F37L1
  | 0, _, _ => none
  | n + 1, w31, w32 =>
    ifB (o.cmp .lss w32 (o.len v26))
    (req (o.inb w32 (o.len v26)) <|
     getA (o.get v26 w32) fun e => sh74 e fun v33 v34 =>
     bindR (f76 o fuel w31 [.int .i64 v33, .int .i64 v34]) fun r => match r with
     | .v0 r35 => f37_l1 o fuel v26 a1 w21 n r35 (o.ar .add .i64 w32 1))
    (some (.x0 w31))
theorem f37_l1_go {J : Jd} {n₀ : Nat} (hJ : J = std Try.prog n₀) {fuel : Nat} {v26 : List AV} {a1 : List AV} {w21 : Int} {w31i : List AV} {w32i : Int} {α : Type} {k : F37L1 → Option α} {r : α} {c : Code} {Q : Ex → St → Prop} {s : St}
    (H : bindR (f37_l1 J.o fuel v26 a1 w21 fuel w31i w32i) k = some r) (hn : n₀ ≤ 2) (hle : Le s ⟨[(50, .int .i64 w32i), (49, .int .i64 (J.o.len v26)), (48, .sl 2 v26 .no), (29, .int .i64 w21), (28, .int .i64 (J.o.len a1)), (27, .sl 5 a1 .no), (6, .sl 1 w31i .no)], [.dead, .dead], 64⟩)
    (round : ∀ X, k X = some r → ∀ (n : Nat) (w31 : List AV) (w32 : Int), f37_l1 J.o fuel v26 a1 w21 (n + 1) w31 w32 = some X → ∀ N : St → Prop,
      (∀ (env : List (Nat × AV)) (w31' : List AV) (w32' : Int) (v : List Ent), f37_l1 J.o fuel v26 a1 w21 n w31' w32' = some X → wkEnv env [(50, .int .i64 w32'), (49, .int .i64 (J.o.len v26)), (48, .sl 2 v26 .no), (29, .int .i64 w21), (28, .int .i64 (J.o.len a1)), (27, .sl 5 a1 .no), (6, .sl 1 w31' .no)] → N ⟨env, [.dead, .dead] ++ v, 64⟩) → awp J tab c (thenQ N Q) ⟨[(50, .int .i64 w32), (49, .int .i64 (J.o.len v26)), (48, .sl 2 v26 .no), (29, .int .i64 w21), (28, .int .i64 (J.o.len a1)), (27, .sl 5 a1 .no), (6, .sl 1 w31 .no)], [.dead, .dead], 64⟩) : J.code (.loop c) Q s := by
  obtain ⟨X, hX, HX⟩ := bindR_go H
  refine loop_at (β := Nat × List AV × Int) hJ tab_ok (fun | (_, w31, w32) => ⟨[(50, .int .i64 w32), (49, .int .i64 (J.o.len v26)), (48, .sl 2 v26 .no), (29, .int .i64 w21), (28, .int .i64 (J.o.len a1)), (27, .sl 5 a1 .no), (6, .sl 1 w31 .no)], [.dead, .dead], 64⟩) (fun | (n, w31, w32) => f37_l1 J.o fuel v26 a1 w21 n w31 w32 = some X) (fun | (n, _, _) => n) (fuel, w31i, w32i) hX hle (by rintro ⟨_, _, _⟩; exact hn) ?_
  rintro ⟨n, w31, w32⟩ hb N hN
  rcases n with _ | n
  · exact none_go (show (none : Option F37L1) = some X from hb)
  exact round X HX n w31 w32 hb N fun env w31' w32' v h1 h2 => hN _ (n, w31', w32') h1 (Nat.lt_succ_self n) ⟨h2, by cbv, rfl, rfl⟩

inductive F37L0 where
  | x0 (y0 : List AV)
noncomputable def f37_l0 (o : Ops) (fuel : Nat) (a1 : List AV) : Nat → List AV → Int → Option F37L0
  | 0, _, _ => none
  | n + 1, w20, w21 =>
    ifB (o.cmp .lss w21 (o.len a1))
    (req (o.inb w21 (o.len a1)) <|
     getA (o.get a1 w21) fun e => sh62 e fun v22 v23 v24 v25 v26 =>
     bindR (f76 o fuel w20 [.int .i64 v22, .int .i64 v23, .int .i64 v24, .int .i64 v25, .int .i64 (o.len v26)]) fun r => match r with
     | .v0 r27 => bindR (f37_l1 o fuel v26 a1 w21 fuel r27 0) fun r => match r with
       | .x0 y36 => f37_l0 o fuel a1 n y36 (o.ar .add .i64 w21 1))
    (some (.x0 w20))
theorem f37_l0_go {J : Jd} {n₀ : Nat} (hJ : J = std Try.prog n₀) {fuel : Nat} {a1 : List AV} {w20i : List AV} {w21i : Int} {α : Type} {k : F37L0 → Option α} {r : α} {c : Code} {Q : Ex → St → Prop} {s : St}
    (H : bindR (f37_l0 J.o fuel a1 fuel w20i w21i) k = some r) (hn : n₀ ≤ 1) (hle : Le s ⟨[(29, .int .i64 w21i), (28, .int .i64 (J.o.len a1)), (27, .sl 5 a1 .no), (6, .sl 1 w20i .no)], [.dead], 64⟩)
    (round : ∀ X, k X = some r → ∀ (n : Nat) (w20 : List AV) (w21 : Int), f37_l0 J.o fuel a1 (n + 1) w20 w21 = some X → ∀ N : St → Prop,
      (∀ (env : List (Nat × AV)) (w20' : List AV) (w21' : Int) (v : List Ent), f37_l0 J.o fuel a1 n w20' w21' = some X → wkEnv env [(29, .int .i64 w21'), (28, .int .i64 (J.o.len a1)), (27, .sl 5 a1 .no), (6, .sl 1 w20' .no)] → N ⟨env, [.dead] ++ v, 64⟩) → awp J tab c (thenQ N Q) ⟨[(29, .int .i64 w21), (28, .int .i64 (J.o.len a1)), (27, .sl 5 a1 .no), (6, .sl 1 w20 .no)], [.dead], 64⟩) : J.code (.loop c) Q s := by
  obtain ⟨X, hX, HX⟩ := bindR_go H
  refine loop_at (β := Nat × List AV × Int) hJ tab_ok (fun | (_, w20, w21) => ⟨[(29, .int .i64 w21), (28, .int .i64 (J.o.len a1)), (27, .sl 5 a1 .no), (6, .sl 1 w20 .no)], [.dead], 64⟩) (fun | (n, w20, w21) => f37_l0 J.o fuel a1 n w20 w21 = some X) (fun | (n, _, _) => n) (fuel, w20i, w21i) hX hle (by rintro ⟨_, _, _⟩; exact hn) ?_
  rintro ⟨n, w20, w21⟩ hb N hN
  rcases n with _ | n
  · exact none_go (show (none : Option F37L0) = some X from hb)
  exact round X HX n w20 w21 hb N fun env w20' w21' v h1 h2 => hN _ (n, w20', w21') h1 (Nat.lt_succ_self n) ⟨h2, by cbv, rfl, rfl⟩

noncomputable def f37 (o : Ops) (fuel : Nat) (a0 : Int) (a1 : List AV) : Option F37R :=
  bindR (f26 o fuel a0 a1) fun r => match r with
  | .v0 _ r3 => ifB (o.bnot (o.cmp .eql r3 0))
    (some (.v0 [] r3))
    (bindR (f76 o fuel [] [.int .i64 a0, .int .i64 (o.len a1)]) fun r => match r with
     | .v0 r4 => bindR (f37_l0 o fuel a1 fuel r4 0) fun r => match r with
       | .x0 y37 => some (.v0 y37 0))
set_option maxHeartbeats 4000000 in
set_option maxRecDepth 100000 in
theorem f37_call (o : Ops) (ho : o = stdOps) (fuel : Nat) (a0 : Int) (a1 : List AV) {R : F37R} (H : f37 o fuel a0 a1 = some R) (K : AV → List Ent → Prop) (E : AV → List Ent → Prop) (h : K R.av R.hp) : CallA Try.prog 37 [.agg [.int .i64 a0, .sl 5 a1 .no]] [] K E := by
  refine call_wk fun K' hK => ?_
  refine call_keep (n₀ := 0) tab_ok Try.func37 rfl rfl rfl rfl ?_
  intro J hJ
  obtain rfl : o = J.o := by rw [ho, hJ]; rfl
  unfold f37 at H
  cbv
  repeat' (first
    | ((with_reducible first | refine awp_go2 ?_ | refine aops_go2 ?_ | refine strip_go2 ?_ | refine draw_go2 ?_ | refine frames_go2 ?_); cbv)
    | with_reducible exact id
    | exact trivial
    | with_reducible exact rfl
    | with_reducible exact ⟨_, rfl⟩
    | exact none_go H
    | (cases H; replace H := HX1; clear HX1; dsimp only at H)
    | (cases H; replace H := HX0; clear HX0; dsimp only at H)
    | (refine KeepQ.mk [] (by decide) ?_; cbv; cases H; refine hK _ _ _ _ ?_ ?_ rfl h <;> cbv)
    | (refine hN0 _ _ _ _ H ?_; with_reducible refine wkEnv_go2 ?_; cbv)
    | (refine hN1 _ _ _ _ H ?_; with_reducible refine wkEnv_go2 ?_; cbv)
    | (refine ifB_go H ?_ ?_ <;> clear H <;> intro hh H)
    | (refine ifB_og H ?_ ?_ <;> clear H <;> intro hh H)
    | (refine req_go H ?_; clear H; intro hh H)
    | (refine gg_t ho H ?_ ?_ <;> clear H <;> intro hh H)
    | (refine gg_f ho H ?_ ?_ <;> clear H <;> intro hh H)
    | (refine bit_go ho H ?_ ?_ <;> clear H <;> intro hh H; (all_goals cbv))
    | (refine nil_go H ?_; clear H; intro b H; cbv)
    | (refine tok_go ?_; cbv)
    | (refine sh62_get H ?_; clear H; intro _ _ _ _ _ he H; cbv)
    | (refine sh62_find H ?_ ?_ <;> clear H; (intro _ _ _ _ _ H; cbv); (intro H; cbv))
    | (refine sh74_get H ?_; clear H; intro _ _ he H; cbv)
    | (refine sh74_find H ?_ ?_ <;> clear H; (intro _ _ H; cbv); (intro H; cbv))
    | (refine getA_go (β := UInt8) H ?_; clear H; intro e H; cbv)
    | (obtain ⟨R, hR, H2⟩ := bindR_go H; refine call_weakF hJ [.sl 1 [] .no, .sl 1 [] .no] ?_; cbv; refine call_in hJ [] (by decide) rfl rfl rfl (f76_call _ ho _ _ _ hR _ _ ?_); clear H hR; rcases R with ⟨_⟩; all_goals (replace H := H2; clear H2; dsimp only at H; cbv))
    | (obtain ⟨R, hR, H2⟩ := bindR_go H; refine call_in hJ [] (by decide) rfl rfl rfl (f26_call _ ho _ _ _ hR _ _ ?_); clear H hR; rcases R with ⟨_, _⟩; all_goals (replace H := H2; clear H2; dsimp only at H; cbv))
    | (refine f37_l0_go hJ H (by decide) ⟨?_, ?_, rfl, rfl⟩ ?_
       · cbv
         repeat' (first | exact trivial | exact rfl | apply And.intro)
       · cbv
         repeat' (first | exact trivial | exact rfl | apply And.intro)
       clear H
       intro X0 HX0 n _ _ H Nx0 hN0
       rw [f37_l0] at H
       cbv)
    | (refine f37_l1_go hJ H (by decide) ⟨?_, ?_, rfl, rfl⟩ ?_
       · cbv
         repeat' (first | exact trivial | exact rfl | apply And.intro)
       · cbv
         repeat' (first | exact trivial | exact rfl | apply And.intro)
       clear H
       intro X1 HX1 n _ _ H Nx1 hN1
       rw [f37_l1] at H
       cbv)
    | (refine lit_t ?_; cbv)
    | (refine lit_f ?_; cbv)
    | (refine known_t (by assumption) ?_)
    | (refine known_f (by assumption) ?_)
    | (refine known_x (by assumption) ?_)
    | (refine known_y (by assumption) ?_)
    | (refine known_get (by assumption) ?_; cbv)
    | (refine known_and (by assumption) ?_)
    | with_reducible refine And.intro ?_ ?_
    | (intro hh; exact hh)
    | (intro _; assumption)
    | (intro _; clear H h; (try clear hN0); (try clear HX0); (try clear hN1); (try clear HX1); simp only [ho, stdOps] at *; simp_all))

end Go.Proofs.Ytilffanmaicakaa.A
