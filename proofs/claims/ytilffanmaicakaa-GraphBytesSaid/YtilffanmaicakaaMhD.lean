/- A clone of a graph is the graph, told by a row that is filled anew. -/
import Derived.Test.YtilffanmaicakaaMbT
import Derived.Test.YtilffanmaicakaaMgA
import Derived.Test.YtilffanmaicakaaMaD
import Derived.Test.YtilffanmaicakaaMhC

namespace Go.Proofs.Ytilffanmaicakaa.A
open Go Go.Pt Go.Gr

/-! slices.Clone[[]pontoon/api.Edge,pontoon/api.Edge] -/
inductive F83R where
  | v0 (y0 : List AV)
def F83R.av : F83R → AV
  | .v0 y0 => .sl 2 y0 .no
def F83R.hp : F83R → List Ent
  | .v0 _ => []
noncomputable def f83 (o : Ops) (_fuel : Nat) (a0 : List AV) : Option F83R :=
  isNil a0 false fun b1 =>
  ifB b1
  (some (.v0 []))
  (req (o.room [] a0 16) <|
   some (.v0 (o.apnd [] a0)))
set_option maxHeartbeats 4000000 in
set_option maxRecDepth 100000 in
theorem f83_call (o : Ops) (ho : o = stdOps) (fuel : Nat) (a0 : List AV) {R : F83R} (H : f83 o fuel a0 = some R) (K : AV → List Ent → Prop) (E : AV → List Ent → Prop) (h : K R.av R.hp) : CallA Try.prog 83 [.sl 2 a0 .no] [] K E := by
  refine call_wk fun K' hK => ?_
  refine call_keep (n₀ := 0) tab_ok Try.func83 rfl rfl rfl rfl ?_
  intro J hJ
  obtain rfl : o = J.o := by rw [ho, hJ]; rfl
  unfold f83 at H
  cbv
  repeat' (first
    | ((with_reducible first | refine awp_go2 ?_ | refine aops_go2 ?_ | refine strip_go2 ?_ | refine draw_go2 ?_ | refine frames_go2 ?_); cbv)
    | with_reducible exact id
    | exact trivial
    | with_reducible exact rfl
    | with_reducible exact ⟨_, rfl⟩
    | exact none_go H
    | (refine KeepQ.mk [] (by decide) ?_; cbv; cases H; refine hK _ _ _ _ ?_ ?_ rfl h <;> cbv)
    | (refine ifB_go H ?_ ?_ <;> clear H <;> intro hh H)
    | (refine ifB_og H ?_ ?_ <;> clear H <;> intro hh H)
    | (refine req_go H ?_; clear H; intro hh H)
    | (refine gg_t ho H ?_ ?_ <;> clear H <;> intro hh H)
    | (refine gg_f ho H ?_ ?_ <;> clear H <;> intro hh H)
    | (refine bit_go ho H ?_ ?_ <;> clear H <;> intro hh H; (all_goals cbv))
    | (refine nil_go H ?_; clear H; intro b H; cbv)
    | (refine tok_go ?_; cbv)
    | (refine getA_go (β := UInt8) H ?_; clear H; intro e H; cbv)
    | (refine lit_t ?_; cbv)
    | (refine lit_f ?_; cbv)
    | (refine known_t (by assumption) ?_)
    | (refine known_f (by assumption) ?_)
    | (refine known_x (by assumption) ?_)
    | (refine known_y (by assumption) ?_)
    | (refine known_get (by assumption) ?_; cbv)
    | (refine known_and (by assumption) ?_)
    | with_reducible refine And.intro ?_ ?_
    | (intro hh; exact hh)
    | (intro _; assumption)
    | (intro _; clear H h; simp only [ho, stdOps] at *; simp_all))



theorem isNil_e {α : Type} {n : Bool} {k : Bool → Option α} (h : k true = k false) : isNil [] n k = k true := by
  unfold isNil; rw [if_pos rfl, if_pos h]
theorem isNil_m {α : Type} {l : List AV} {n : Bool} {k : Bool → Option α} (h : l ≠ []) : isNil l n k = k n := by
  unfold isNil; rw [if_neg h]
theorem f83_eq (fuel : Nat) {xs : List AV} (h : (xs.length : Int) * 16 ≤ 2 ^ 47) : f83 stdOps fuel xs = some (.v0 xs) := by
  have hr : stdOps.room [] xs 16 := by
    show (([] : List AV).length + xs.length) * 16 ≤ 2 ^ 47
    simp only [List.length_nil]; omega
  unfold f83
  by_cases hx : xs = []
  · subst hx
    refine (isNil_e ?_).trans rfl
    show some (F83R.v0 []) = req (stdOps.room [] [] 16) (some (.v0 (stdOps.apnd [] [])))
    rw [req_eq _ hr]; rfl
  · refine (isNil_m hx).trans ?_
    show req (stdOps.room [] xs 16) (some (F83R.v0 (stdOps.apnd [] xs))) = _
    rw [req_eq _ hr]; rfl

def tabR (t : Nat) : Ty := match Nat.beq t 55 with | true => { tab t with md := 1 } | false => tab t
theorem tabR_ok : TabOk Try.prog tabR := TabOk.md tab_ok 55 1 rfl

theorem told_vnil {z : Nat} {τ : List Ent} {K : AV → List Ent → Prop} (hk : K (.vs (lenN τ) z 0 0 0) (snoc τ (.vec z []))) : Go.Pt.Told .nils τ K := by
  intro ρ w v hr hv
  rw [lenN_eq, snoc_eq] at hk
  have h1 := rel_new hr (s := z) (xs := []) (l := ⟨0, 0, 0, 0⟩) (w' := w) rfl (by simp) rfl rfl rfl (fun _ _ h => h) (Nat.le_refl _) (fun h => absurd h (Nat.lt_irrefl 0)) (fun k x hx => by simp at hx)
  refine ⟨_, _, _, h1.1, h1.2, hk, ?_⟩
  have := val_nils hv; subst this
  exact ⟨1, by simp, none, 0, 0, rfl, rfl, Nat.le_refl _, fun h => absurd h (Nat.lt_irrefl 0), 0, rfl, by simp, fun _ h => absurd h (Nat.lt_irrefl 0)⟩

theorem told_self {r : AV} {τ : List Ent} {K : AV → List Ent → Prop} (hk : K r τ) : Go.Pt.Told r τ K := fun ρ w v hr hv => ⟨ρ, τ, r, Stp.refl _ _ _, hr, hk, hv⟩

theorem told_graph {id s : Nat} {k : IntKind} {m lo n N : Int} {xs : List AV} {τ : List Ent} {K : AV → List Ent → Prop} (hid : nth τ id = some (.vec s xs)) (h0 : 0 ≤ lo) (hn : lo + n ≤ xs.length)
    (hk : K (.agg [.int k m, .sl s ((xs.take (lo + n).toNat).drop lo.toNat) .no]) (setN τ id .dead)) : Go.Pt.Told (.agg [.int k m, .vs id s lo n N]) τ K := by
  intro ρ w v hr hv
  obtain ⟨τ0, hτ⟩ : ∃ τ0, setN τ id .dead = τ0 := ⟨_, rfl⟩
  rw [hτ] at hk
  obtain ⟨vs, rfl, h⟩ := val_agg hv
  match vs, h with
  | [v1, v2], ⟨h1, h2, _⟩ =>
    obtain ⟨ρ', τ', r', g1, g2, g3, g4⟩ := told_sl (K := fun r τ => r = .sl s ((xs.take (lo + n).toNat).drop lo.toNat) .no ∧ τ = τ0) hid h0 hn ⟨rfl, hτ⟩ ρ w v2 hr h2
    obtain ⟨rfl, rfl⟩ := g3
    refine ⟨ρ', _, _, g1, g2, hk, ?_⟩
    have e1 := val_int h1
    subst e1
    obtain ⟨d, g4⟩ := g4
    exact ⟨d + 1, [.int k m, v2], rfl, by cases d with | zero => exact g4.elim | succ d => exact rfl, g4, trivial⟩

set_option maxHeartbeats 4000000 in
set_option maxRecDepth 100000 in
theorem clone_row (xs : List AV) (m : Int) (hm : (xs.length : Int) = m) (hx : m * 56 ≤ 2 ^ 47) (K E) (h : K (.vs 0 5 0 m m) [.vec 5 xs]) : CallA Try.prog 82 [.sl 5 xs .no] [] K E := by
  refine call_told (K' := fun r τ => (r = .nils ∧ τ = [] ∧ xs = []) ∨ (r = .vs 0 5 0 m m ∧ τ = [.vec 5 xs])) ?_ ?_
  · refine call_keep (n₀ := 0) tabR_ok Try.func82 rfl rfl rfl rfl ?_
    intro J hJ
    have hemp : ∀ l : List AV, l = [] → J.o.emp l := fun l h => by subst hJ; exact h
    have hroom : J.o.room [] xs 56 := by
      subst hJ
      show (([] : List AV).length + xs.length) * 56 ≤ 2 ^ 47
      simp only [List.length_nil]; omega
    have hlen : J.o.len xs = m := by subst hJ; exact hm
    have happ : J.o.apnd [] xs = xs := by subst hJ; rfl
    cbv
    refine ⟨⟨_, rfl⟩, fun b hb => ?_⟩
    cbv
    refine ⟨fun hh => ?_, fun hh => ?_⟩
    · have hx0 : xs = [] := Classical.byContradiction fun hne => by rw [hb hne] at hh; exact nomatch hh
      refine KeepQ.mk [] (by decide) ?_
      exact .inl ⟨rfl, rfl, hx0⟩
    · refine ⟨trivial, hemp _ rfl, hroom, ?_⟩
      rw [hlen]
      refine KeepQ.mk [0] (by decide) ?_
      exact .inr ⟨rfl, rfl⟩
  · rintro r τ (⟨rfl, rfl, rfl⟩ | ⟨rfl, rfl⟩)
    · obtain rfl : 0 = m := hm
      exact told_vnil h
    · exact told_self h

set_option maxHeartbeats 4000000 in
set_option maxRecDepth 100000 in
theorem clone_call (n : Int) (l : List Gr.Op) (hl : (l.length : Int) * 56 ≤ 2 ^ 47) (hin : ∀ o ∈ l, (o.i.length : Int) * 16 ≤ 2 ^ 47) (os : List AV) (hos : os = l.map Gr.Op.av) (K E) (h : K (.agg [.int .i64 n, .sl 5 os .no]) [.dead]) :
    CallA Try.prog 41 [.agg [.int .i64 n, .sl 5 os .no]] [] K E := by
  obtain ⟨m, hm⟩ : ∃ m : Int, (os.length : Int) = m := ⟨_, rfl⟩
  have hml : m = l.length := by rw [← hm, hos]; simp
  refine call_told (K' := fun r τ => r = .agg [.int .i64 n, .vs 0 5 0 m m] ∧ τ = [.vec 5 os]) ?_ ?_
  case refine_2 =>
    rintro r τ ⟨rfl, rfl⟩
    refine told_graph (id := 0) (xs := os) rfl (Int.le_refl _) (by omega) ?_
    rw [show ((os.take (0 + m).toNat).drop (0 : Int).toNat) = os by rw [show (0 + m).toNat = os.length by omega]; simp]
    exact h
  have hm0 : 0 ≤ m := by omega
  refine call_keep (n₀ := 0) tabR_ok Try.func41 rfl rfl rfl rfl ?_
  intro J hJ
  cbv
  refine call_in hJ [] (by decide) rfl rfl rfl (clone_row os m hm (by omega) _ _ ?_)
  cbv
  refine loop_at (β := Int) hJ tabR_ok (fun i => ⟨[(11, .int .i64 i), (10, .int .i64 m), (2, .ptr 1 0), (1, .ptr 0 0)], [.var [.int .i64 n, .vs 2 5 0 m m], .var [.int .i64 0, .nils], .vec 5 os], 28⟩) (fun i => 0 ≤ i ∧ i ≤ m) (fun i => (m + 1 - i).toNat) 0 ?_ ?_ ?_ ?_
  · exact ⟨Int.le_refl _, hm0⟩
  · refine ⟨?_, ?_, rfl, rfl⟩
    · cbv; repeat' (first | exact trivial | exact rfl | apply And.intro)
    · cbv; repeat' (first | exact trivial | exact rfl | apply And.intro)
  · intro b; exact Nat.zero_le _
  rintro i ⟨hi0, him⟩ Nx hNx
  replace hi0 : 0 ≤ i := hi0
  replace him : i ≤ m := him
  obtain ⟨i1, hi1⟩ : ∃ i1 : Int, i1 = i + 1 := ⟨_, rfl⟩
  have hN' : ∀ env os', i < m → os' = os → wkEnv env [(11, .int .i64 i1), (10, .int .i64 m), (2, .ptr 1 0), (1, .ptr 0 0)] → Nx ⟨env, [.var [.int .i64 n, .vs 2 5 0 m m], .var [.int .i64 0, .nils], .vec 5 os'], 28⟩ := by
    rintro env os' h1 rfl h4
    exact hNx _ i1 ⟨by omega, by omega⟩ (by omega) ⟨h4, by cbv; repeat' (first | exact trivial | exact rfl | apply And.intro), rfl, rfl⟩
  clear hNx
  have hadd : i < m → J.o.ar .add .i64 i 1 = i1 := fun h => by
    subst hJ hi1
    exact wr_i64 (by omega) (by omega)
  have hlss : ∀ {b}, J.o.cmp .lss i m = b → (b = true → i < m) := fun h e => by subst hJ; subst e; exact of_decide_eq_true h
  have hlen : J.o.len os = m := by subst hJ; exact hm
  cbv
  refine ⟨fun hh => ?_, fun hh => ?_⟩
  · have hlt := hlss hh rfl
    have hsum : J.o.sum 0 i = i := by subst hJ; exact Int.zero_add i
    have hin2 : ∀ x, x = m → J.o.inb i x := fun x hx => by subst hJ hx; exact ⟨hi0, hlt⟩
    have hinb : J.o.inb (J.o.sum 0 i) (J.o.len os) := by rw [hsum, hlen]; exact hin2 _ rfl
    cbv
    refine ⟨hin2 _ rfl, hinb, ?_⟩
    refine op_in hJ hos ?_
    intro ok op of oa oes oil hoes hop
    have hupd : J.o.upd os (J.o.sum 0 i) (.agg [.int .i64 ok, .int .i64 op, .int .i64 of, .int .i64 oa, .sl 2 oes .no]) = os := by
      subst hJ
      refine set_same ?_
      rw [hos, List.getElem?_map, hop, hoes]; rfl
    have hol : (oes.length : Int) * 16 ≤ 2 ^ 47 := by
      rw [hoes]
      have := hin _ (List.mem_of_getElem? hop)
      simpa using this
    cbv
    refine call_in hJ [] (by decide) rfl rfl rfl (f83_call _ rfl 0 oes (f83_eq 0 hol) _ _ ?_)
    cbv
    refine ⟨hin2 _ rfl, hinb, ?_⟩
    refine op_is hJ hos hop hoes ?_
    cbv
    refine hN' _ _ hlt hupd ⟨?_, rfl, rfl, rfl, trivial⟩
    exact congrArg (AV.int .i64) (hadd hlt)
  · cbv
    refine KeepQ.mk [2] (by decide) ?_
    exact ⟨rfl, rfl⟩

inductive F41R where
  | v0 (y0 : Int) (y1 : List AV)
def F41R.av : F41R → AV
  | .v0 y0 y1 => .agg [.int .i64 y0, .sl 5 y1 .no]
def F41R.hp : F41R → List Ent
  | .v0 _ _ => [.dead]
noncomputable def f41 (_o : Ops) (_fuel : Nat) (a0 : Int) (a1 : List AV) : Option F41R :=
  req (∃ l : List Gr.Op, a1 = l.map Gr.Op.av ∧ (l.length : Int) * 56 ≤ 2 ^ 47 ∧ ∀ o ∈ l, (o.i.length : Int) * 16 ≤ 2 ^ 47) (some (.v0 a0 a1))
theorem f41_call (o : Ops) (_ho : o = stdOps) (fuel : Nat) (a0 : Int) (a1 : List AV) {R : F41R} (H : f41 o fuel a0 a1 = some R) (K : AV → List Ent → Prop) (E : AV → List Ent → Prop) (h : K R.av R.hp) : CallA Try.prog 41 [.agg [.int .i64 a0, .sl 5 a1 .no]] [] K E := by
  unfold f41 req at H
  split at H
  · rename_i hc
    obtain ⟨l, hl, h1, h2⟩ := hc
    obtain rfl := Option.some.inj H
    exact clone_call a0 l h1 h2 a1 hl K E h
  · exact nomatch H
end Go.Proofs.Ytilffanmaicakaa.A

/- Functions that the law GraphBytes reaches, as plain ones. Written by lift.py. -/
namespace Go.Proofs.Ytilffanmaicakaa.A
open Go Go.Pt

/-! pontoon/pontoonlaw05.GraphBytes -/
inductive F10R where
  | v0 (y0 : Bool)
def F10R.av : F10R → AV
  | .v0 y0 => .bool y0
def F10R.hp : F10R → List Ent
  | .v0 _ => []
noncomputable def f10 (o : Ops) (fuel : Nat) (a0 : Int) (a1 : List AV) (a2 : Int) (a3 : List AV) (a4 : List AV) : Option F10R :=
  bindR (f25 o fuel ) fun r => match r with
  | .v0 r5 => ifB (o.bnot r5)
    (some (.v0 false))
    (bindR (f37 o fuel a0 a1) fun r => match r with
     | .v0 r6 r7 => bindR (f42 o fuel a0 a1) fun r => match r with
       | .v0 r8 r9 => bindR (f38 o fuel a4) fun r => match r with
         | .v0 r10 r11 r12 => bindR (f43 o fuel a4) fun r => match r with
           | .v0 r13 r14 r15 => bindR (f40 o fuel r6 r8) fun r => match r with
             | .v0 r16 => ifB (o.pick r16 (o.cmp .eql r7 r9) false)
               (bindR (f39 o fuel r10 r11 r13 r14) fun r => match r with
                | .v0 r17 => ifB (o.pick (o.pick (o.pick r16 (o.cmp .eql r7 r9) false) r17 false) (o.cmp .eql r12 r15) false)
                  (bindR (f44 o fuel a0 a1 a2 a3) fun r => match r with
                   | .v0 r18 => ifB (o.pick (o.pick (o.pick r16 (o.cmp .eql r7 r9) false) r17 false) (o.cmp .eql r12 r15) false)
                     (bindR (f39 o fuel a0 a1 a2 a3) fun r => match r with
                      | .v0 r19 => ifB (o.pick (o.pick (o.pick (o.pick r16 (o.cmp .eql r7 r9) false) r17 false) (o.cmp .eql r12 r15) false) (o.same r18 r19) false)
                        (bindR (f44 o fuel a0 a1 a0 a1) fun r => match r with
                         | .v0 r20 => ifB (o.pick (o.pick (o.pick (o.pick (o.pick r16 (o.cmp .eql r7 r9) false) r17 false) (o.cmp .eql r12 r15) false) (o.same r18 r19) false) r20 false)
                           (bindR (f41 o fuel a0 a1) fun r => match r with
                            | .v0 r21 r22 => ifB (o.pick (o.pick (o.pick (o.pick (o.pick r16 (o.cmp .eql r7 r9) false) r17 false) (o.cmp .eql r12 r15) false) (o.same r18 r19) false) r20 false)
                              (bindR (f39 o fuel r21 r22 a0 a1) fun r => match r with
                               | .v0 r23 => some (.v0 (o.pick (o.pick (o.pick (o.pick (o.pick (o.pick r16 (o.cmp .eql r7 r9) false) r17 false) (o.cmp .eql r12 r15) false) (o.same r18 r19) false) r20 false) r23 false)))
                              (some (.v0 (o.pick (o.pick (o.pick (o.pick (o.pick (o.pick r16 (o.cmp .eql r7 r9) false) r17 false) (o.cmp .eql r12 r15) false) (o.same r18 r19) false) r20 false) false false))))
                           (ifB (o.pick (o.pick (o.pick (o.pick (o.pick r16 (o.cmp .eql r7 r9) false) r17 false) (o.cmp .eql r12 r15) false) (o.same r18 r19) false) r20 false)
                            (bindR (f39 o fuel 0 [] a0 a1) fun r => match r with
                             | .v0 r24 => some (.v0 (o.pick (o.pick (o.pick (o.pick (o.pick (o.pick r16 (o.cmp .eql r7 r9) false) r17 false) (o.cmp .eql r12 r15) false) (o.same r18 r19) false) r20 false) r24 false)))
                            (some (.v0 (o.pick (o.pick (o.pick (o.pick (o.pick (o.pick r16 (o.cmp .eql r7 r9) false) r17 false) (o.cmp .eql r12 r15) false) (o.same r18 r19) false) r20 false) false false)))))
                        (ifB (o.pick (o.pick (o.pick (o.pick (o.pick r16 (o.cmp .eql r7 r9) false) r17 false) (o.cmp .eql r12 r15) false) (o.same r18 r19) false) false false)
                         (bindR (f41 o fuel a0 a1) fun r => match r with
                          | .v0 r25 r26 => ifB (o.pick (o.pick (o.pick (o.pick (o.pick r16 (o.cmp .eql r7 r9) false) r17 false) (o.cmp .eql r12 r15) false) (o.same r18 r19) false) false false)
                            (bindR (f39 o fuel r25 r26 a0 a1) fun r => match r with
                             | .v0 r27 => some (.v0 (o.pick (o.pick (o.pick (o.pick (o.pick (o.pick r16 (o.cmp .eql r7 r9) false) r17 false) (o.cmp .eql r12 r15) false) (o.same r18 r19) false) false false) r27 false)))
                            (some (.v0 (o.pick (o.pick (o.pick (o.pick (o.pick (o.pick r16 (o.cmp .eql r7 r9) false) r17 false) (o.cmp .eql r12 r15) false) (o.same r18 r19) false) false false) false false))))
                         (ifB (o.pick (o.pick (o.pick (o.pick (o.pick r16 (o.cmp .eql r7 r9) false) r17 false) (o.cmp .eql r12 r15) false) (o.same r18 r19) false) false false)
                          (bindR (f39 o fuel 0 [] a0 a1) fun r => match r with
                           | .v0 r28 => some (.v0 (o.pick (o.pick (o.pick (o.pick (o.pick (o.pick r16 (o.cmp .eql r7 r9) false) r17 false) (o.cmp .eql r12 r15) false) (o.same r18 r19) false) false false) r28 false)))
                          (some (.v0 (o.pick (o.pick (o.pick (o.pick (o.pick (o.pick r16 (o.cmp .eql r7 r9) false) r17 false) (o.cmp .eql r12 r15) false) (o.same r18 r19) false) false false) false false))))))
                     (ifB (o.pick (o.pick (o.pick (o.pick r16 (o.cmp .eql r7 r9) false) r17 false) (o.cmp .eql r12 r15) false) (o.same r18 false) false)
                      (bindR (f44 o fuel a0 a1 a0 a1) fun r => match r with
                       | .v0 r29 => ifB (o.pick (o.pick (o.pick (o.pick (o.pick r16 (o.cmp .eql r7 r9) false) r17 false) (o.cmp .eql r12 r15) false) (o.same r18 false) false) r29 false)
                         (bindR (f41 o fuel a0 a1) fun r => match r with
                          | .v0 r30 r31 => ifB (o.pick (o.pick (o.pick (o.pick (o.pick r16 (o.cmp .eql r7 r9) false) r17 false) (o.cmp .eql r12 r15) false) (o.same r18 false) false) r29 false)
                            (bindR (f39 o fuel r30 r31 a0 a1) fun r => match r with
                             | .v0 r32 => some (.v0 (o.pick (o.pick (o.pick (o.pick (o.pick (o.pick r16 (o.cmp .eql r7 r9) false) r17 false) (o.cmp .eql r12 r15) false) (o.same r18 false) false) r29 false) r32 false)))
                            (some (.v0 (o.pick (o.pick (o.pick (o.pick (o.pick (o.pick r16 (o.cmp .eql r7 r9) false) r17 false) (o.cmp .eql r12 r15) false) (o.same r18 false) false) r29 false) false false))))
                         (ifB (o.pick (o.pick (o.pick (o.pick (o.pick r16 (o.cmp .eql r7 r9) false) r17 false) (o.cmp .eql r12 r15) false) (o.same r18 false) false) r29 false)
                          (bindR (f39 o fuel 0 [] a0 a1) fun r => match r with
                           | .v0 r33 => some (.v0 (o.pick (o.pick (o.pick (o.pick (o.pick (o.pick r16 (o.cmp .eql r7 r9) false) r17 false) (o.cmp .eql r12 r15) false) (o.same r18 false) false) r29 false) r33 false)))
                          (some (.v0 (o.pick (o.pick (o.pick (o.pick (o.pick (o.pick r16 (o.cmp .eql r7 r9) false) r17 false) (o.cmp .eql r12 r15) false) (o.same r18 false) false) r29 false) false false)))))
                      (ifB (o.pick (o.pick (o.pick (o.pick (o.pick r16 (o.cmp .eql r7 r9) false) r17 false) (o.cmp .eql r12 r15) false) (o.same r18 false) false) false false)
                       (bindR (f41 o fuel a0 a1) fun r => match r with
                        | .v0 r34 r35 => ifB (o.pick (o.pick (o.pick (o.pick (o.pick r16 (o.cmp .eql r7 r9) false) r17 false) (o.cmp .eql r12 r15) false) (o.same r18 false) false) false false)
                          (bindR (f39 o fuel r34 r35 a0 a1) fun r => match r with
                           | .v0 r36 => some (.v0 (o.pick (o.pick (o.pick (o.pick (o.pick (o.pick r16 (o.cmp .eql r7 r9) false) r17 false) (o.cmp .eql r12 r15) false) (o.same r18 false) false) false false) r36 false)))
                          (some (.v0 (o.pick (o.pick (o.pick (o.pick (o.pick (o.pick r16 (o.cmp .eql r7 r9) false) r17 false) (o.cmp .eql r12 r15) false) (o.same r18 false) false) false false) false false))))
                       (ifB (o.pick (o.pick (o.pick (o.pick (o.pick r16 (o.cmp .eql r7 r9) false) r17 false) (o.cmp .eql r12 r15) false) (o.same r18 false) false) false false)
                        (bindR (f39 o fuel 0 [] a0 a1) fun r => match r with
                         | .v0 r37 => some (.v0 (o.pick (o.pick (o.pick (o.pick (o.pick (o.pick r16 (o.cmp .eql r7 r9) false) r17 false) (o.cmp .eql r12 r15) false) (o.same r18 false) false) false false) r37 false)))
                        (some (.v0 (o.pick (o.pick (o.pick (o.pick (o.pick (o.pick r16 (o.cmp .eql r7 r9) false) r17 false) (o.cmp .eql r12 r15) false) (o.same r18 false) false) false false) false false)))))))
                  (ifB (o.pick (o.pick (o.pick r16 (o.cmp .eql r7 r9) false) r17 false) (o.cmp .eql r12 r15) false)
                   (bindR (f39 o fuel a0 a1 a2 a3) fun r => match r with
                    | .v0 r38 => ifB (o.pick (o.pick (o.pick (o.pick r16 (o.cmp .eql r7 r9) false) r17 false) (o.cmp .eql r12 r15) false) (o.same false r38) false)
                      (bindR (f44 o fuel a0 a1 a0 a1) fun r => match r with
                       | .v0 r39 => ifB (o.pick (o.pick (o.pick (o.pick (o.pick r16 (o.cmp .eql r7 r9) false) r17 false) (o.cmp .eql r12 r15) false) (o.same false r38) false) r39 false)
                         (bindR (f41 o fuel a0 a1) fun r => match r with
                          | .v0 r40 r41 => ifB (o.pick (o.pick (o.pick (o.pick (o.pick r16 (o.cmp .eql r7 r9) false) r17 false) (o.cmp .eql r12 r15) false) (o.same false r38) false) r39 false)
                            (bindR (f39 o fuel r40 r41 a0 a1) fun r => match r with
                             | .v0 r42 => some (.v0 (o.pick (o.pick (o.pick (o.pick (o.pick (o.pick r16 (o.cmp .eql r7 r9) false) r17 false) (o.cmp .eql r12 r15) false) (o.same false r38) false) r39 false) r42 false)))
                            (some (.v0 (o.pick (o.pick (o.pick (o.pick (o.pick (o.pick r16 (o.cmp .eql r7 r9) false) r17 false) (o.cmp .eql r12 r15) false) (o.same false r38) false) r39 false) false false))))
                         (ifB (o.pick (o.pick (o.pick (o.pick (o.pick r16 (o.cmp .eql r7 r9) false) r17 false) (o.cmp .eql r12 r15) false) (o.same false r38) false) r39 false)
                          (bindR (f39 o fuel 0 [] a0 a1) fun r => match r with
                           | .v0 r43 => some (.v0 (o.pick (o.pick (o.pick (o.pick (o.pick (o.pick r16 (o.cmp .eql r7 r9) false) r17 false) (o.cmp .eql r12 r15) false) (o.same false r38) false) r39 false) r43 false)))
                          (some (.v0 (o.pick (o.pick (o.pick (o.pick (o.pick (o.pick r16 (o.cmp .eql r7 r9) false) r17 false) (o.cmp .eql r12 r15) false) (o.same false r38) false) r39 false) false false)))))
                      (ifB (o.pick (o.pick (o.pick (o.pick (o.pick r16 (o.cmp .eql r7 r9) false) r17 false) (o.cmp .eql r12 r15) false) (o.same false r38) false) false false)
                       (bindR (f41 o fuel a0 a1) fun r => match r with
                        | .v0 r44 r45 => ifB (o.pick (o.pick (o.pick (o.pick (o.pick r16 (o.cmp .eql r7 r9) false) r17 false) (o.cmp .eql r12 r15) false) (o.same false r38) false) false false)
                          (bindR (f39 o fuel r44 r45 a0 a1) fun r => match r with
                           | .v0 r46 => some (.v0 (o.pick (o.pick (o.pick (o.pick (o.pick (o.pick r16 (o.cmp .eql r7 r9) false) r17 false) (o.cmp .eql r12 r15) false) (o.same false r38) false) false false) r46 false)))
                          (some (.v0 (o.pick (o.pick (o.pick (o.pick (o.pick (o.pick r16 (o.cmp .eql r7 r9) false) r17 false) (o.cmp .eql r12 r15) false) (o.same false r38) false) false false) false false))))
                       (ifB (o.pick (o.pick (o.pick (o.pick (o.pick r16 (o.cmp .eql r7 r9) false) r17 false) (o.cmp .eql r12 r15) false) (o.same false r38) false) false false)
                        (bindR (f39 o fuel 0 [] a0 a1) fun r => match r with
                         | .v0 r47 => some (.v0 (o.pick (o.pick (o.pick (o.pick (o.pick (o.pick r16 (o.cmp .eql r7 r9) false) r17 false) (o.cmp .eql r12 r15) false) (o.same false r38) false) false false) r47 false)))
                        (some (.v0 (o.pick (o.pick (o.pick (o.pick (o.pick (o.pick r16 (o.cmp .eql r7 r9) false) r17 false) (o.cmp .eql r12 r15) false) (o.same false r38) false) false false) false false))))))
                   (ifB (o.pick (o.pick (o.pick (o.pick r16 (o.cmp .eql r7 r9) false) r17 false) (o.cmp .eql r12 r15) false) (o.same false false) false)
                    (bindR (f44 o fuel a0 a1 a0 a1) fun r => match r with
                     | .v0 r48 => ifB (o.pick (o.pick (o.pick (o.pick (o.pick r16 (o.cmp .eql r7 r9) false) r17 false) (o.cmp .eql r12 r15) false) (o.same false false) false) r48 false)
                       (bindR (f41 o fuel a0 a1) fun r => match r with
                        | .v0 r49 r50 => ifB (o.pick (o.pick (o.pick (o.pick (o.pick r16 (o.cmp .eql r7 r9) false) r17 false) (o.cmp .eql r12 r15) false) (o.same false false) false) r48 false)
                          (bindR (f39 o fuel r49 r50 a0 a1) fun r => match r with
                           | .v0 r51 => some (.v0 (o.pick (o.pick (o.pick (o.pick (o.pick (o.pick r16 (o.cmp .eql r7 r9) false) r17 false) (o.cmp .eql r12 r15) false) (o.same false false) false) r48 false) r51 false)))
                          (some (.v0 (o.pick (o.pick (o.pick (o.pick (o.pick (o.pick r16 (o.cmp .eql r7 r9) false) r17 false) (o.cmp .eql r12 r15) false) (o.same false false) false) r48 false) false false))))
                       (ifB (o.pick (o.pick (o.pick (o.pick (o.pick r16 (o.cmp .eql r7 r9) false) r17 false) (o.cmp .eql r12 r15) false) (o.same false false) false) r48 false)
                        (bindR (f39 o fuel 0 [] a0 a1) fun r => match r with
                         | .v0 r52 => some (.v0 (o.pick (o.pick (o.pick (o.pick (o.pick (o.pick r16 (o.cmp .eql r7 r9) false) r17 false) (o.cmp .eql r12 r15) false) (o.same false false) false) r48 false) r52 false)))
                        (some (.v0 (o.pick (o.pick (o.pick (o.pick (o.pick (o.pick r16 (o.cmp .eql r7 r9) false) r17 false) (o.cmp .eql r12 r15) false) (o.same false false) false) r48 false) false false)))))
                    (ifB (o.pick (o.pick (o.pick (o.pick (o.pick r16 (o.cmp .eql r7 r9) false) r17 false) (o.cmp .eql r12 r15) false) (o.same false false) false) false false)
                     (bindR (f41 o fuel a0 a1) fun r => match r with
                      | .v0 r53 r54 => ifB (o.pick (o.pick (o.pick (o.pick (o.pick r16 (o.cmp .eql r7 r9) false) r17 false) (o.cmp .eql r12 r15) false) (o.same false false) false) false false)
                        (bindR (f39 o fuel r53 r54 a0 a1) fun r => match r with
                         | .v0 r55 => some (.v0 (o.pick (o.pick (o.pick (o.pick (o.pick (o.pick r16 (o.cmp .eql r7 r9) false) r17 false) (o.cmp .eql r12 r15) false) (o.same false false) false) false false) r55 false)))
                        (some (.v0 (o.pick (o.pick (o.pick (o.pick (o.pick (o.pick r16 (o.cmp .eql r7 r9) false) r17 false) (o.cmp .eql r12 r15) false) (o.same false false) false) false false) false false))))
                     (ifB (o.pick (o.pick (o.pick (o.pick (o.pick r16 (o.cmp .eql r7 r9) false) r17 false) (o.cmp .eql r12 r15) false) (o.same false false) false) false false)
                      (bindR (f39 o fuel 0 [] a0 a1) fun r => match r with
                       | .v0 r56 => some (.v0 (o.pick (o.pick (o.pick (o.pick (o.pick (o.pick r16 (o.cmp .eql r7 r9) false) r17 false) (o.cmp .eql r12 r15) false) (o.same false false) false) false false) r56 false)))
                      (some (.v0 (o.pick (o.pick (o.pick (o.pick (o.pick (o.pick r16 (o.cmp .eql r7 r9) false) r17 false) (o.cmp .eql r12 r15) false) (o.same false false) false) false false) false false))))))))
               (ifB (o.pick (o.pick (o.pick r16 (o.cmp .eql r7 r9) false) false false) (o.cmp .eql r12 r15) false)
                (bindR (f44 o fuel a0 a1 a2 a3) fun r => match r with
                 | .v0 r57 => ifB (o.pick (o.pick (o.pick r16 (o.cmp .eql r7 r9) false) false false) (o.cmp .eql r12 r15) false)
                   (bindR (f39 o fuel a0 a1 a2 a3) fun r => match r with
                    | .v0 r58 => ifB (o.pick (o.pick (o.pick (o.pick r16 (o.cmp .eql r7 r9) false) false false) (o.cmp .eql r12 r15) false) (o.same r57 r58) false)
                      (bindR (f44 o fuel a0 a1 a0 a1) fun r => match r with
                       | .v0 r59 => ifB (o.pick (o.pick (o.pick (o.pick (o.pick r16 (o.cmp .eql r7 r9) false) false false) (o.cmp .eql r12 r15) false) (o.same r57 r58) false) r59 false)
                         (bindR (f41 o fuel a0 a1) fun r => match r with
                          | .v0 r60 r61 => ifB (o.pick (o.pick (o.pick (o.pick (o.pick r16 (o.cmp .eql r7 r9) false) false false) (o.cmp .eql r12 r15) false) (o.same r57 r58) false) r59 false)
                            (bindR (f39 o fuel r60 r61 a0 a1) fun r => match r with
                             | .v0 r62 => some (.v0 (o.pick (o.pick (o.pick (o.pick (o.pick (o.pick r16 (o.cmp .eql r7 r9) false) false false) (o.cmp .eql r12 r15) false) (o.same r57 r58) false) r59 false) r62 false)))
                            (some (.v0 (o.pick (o.pick (o.pick (o.pick (o.pick (o.pick r16 (o.cmp .eql r7 r9) false) false false) (o.cmp .eql r12 r15) false) (o.same r57 r58) false) r59 false) false false))))
                         (ifB (o.pick (o.pick (o.pick (o.pick (o.pick r16 (o.cmp .eql r7 r9) false) false false) (o.cmp .eql r12 r15) false) (o.same r57 r58) false) r59 false)
                          (bindR (f39 o fuel 0 [] a0 a1) fun r => match r with
                           | .v0 r63 => some (.v0 (o.pick (o.pick (o.pick (o.pick (o.pick (o.pick r16 (o.cmp .eql r7 r9) false) false false) (o.cmp .eql r12 r15) false) (o.same r57 r58) false) r59 false) r63 false)))
                          (some (.v0 (o.pick (o.pick (o.pick (o.pick (o.pick (o.pick r16 (o.cmp .eql r7 r9) false) false false) (o.cmp .eql r12 r15) false) (o.same r57 r58) false) r59 false) false false)))))
                      (ifB (o.pick (o.pick (o.pick (o.pick (o.pick r16 (o.cmp .eql r7 r9) false) false false) (o.cmp .eql r12 r15) false) (o.same r57 r58) false) false false)
                       (bindR (f41 o fuel a0 a1) fun r => match r with
                        | .v0 r64 r65 => ifB (o.pick (o.pick (o.pick (o.pick (o.pick r16 (o.cmp .eql r7 r9) false) false false) (o.cmp .eql r12 r15) false) (o.same r57 r58) false) false false)
                          (bindR (f39 o fuel r64 r65 a0 a1) fun r => match r with
                           | .v0 r66 => some (.v0 (o.pick (o.pick (o.pick (o.pick (o.pick (o.pick r16 (o.cmp .eql r7 r9) false) false false) (o.cmp .eql r12 r15) false) (o.same r57 r58) false) false false) r66 false)))
                          (some (.v0 (o.pick (o.pick (o.pick (o.pick (o.pick (o.pick r16 (o.cmp .eql r7 r9) false) false false) (o.cmp .eql r12 r15) false) (o.same r57 r58) false) false false) false false))))
                       (ifB (o.pick (o.pick (o.pick (o.pick (o.pick r16 (o.cmp .eql r7 r9) false) false false) (o.cmp .eql r12 r15) false) (o.same r57 r58) false) false false)
                        (bindR (f39 o fuel 0 [] a0 a1) fun r => match r with
                         | .v0 r67 => some (.v0 (o.pick (o.pick (o.pick (o.pick (o.pick (o.pick r16 (o.cmp .eql r7 r9) false) false false) (o.cmp .eql r12 r15) false) (o.same r57 r58) false) false false) r67 false)))
                        (some (.v0 (o.pick (o.pick (o.pick (o.pick (o.pick (o.pick r16 (o.cmp .eql r7 r9) false) false false) (o.cmp .eql r12 r15) false) (o.same r57 r58) false) false false) false false))))))
                   (ifB (o.pick (o.pick (o.pick (o.pick r16 (o.cmp .eql r7 r9) false) false false) (o.cmp .eql r12 r15) false) (o.same r57 false) false)
                    (bindR (f44 o fuel a0 a1 a0 a1) fun r => match r with
                     | .v0 r68 => ifB (o.pick (o.pick (o.pick (o.pick (o.pick r16 (o.cmp .eql r7 r9) false) false false) (o.cmp .eql r12 r15) false) (o.same r57 false) false) r68 false)
                       (bindR (f41 o fuel a0 a1) fun r => match r with
                        | .v0 r69 r70 => ifB (o.pick (o.pick (o.pick (o.pick (o.pick r16 (o.cmp .eql r7 r9) false) false false) (o.cmp .eql r12 r15) false) (o.same r57 false) false) r68 false)
                          (bindR (f39 o fuel r69 r70 a0 a1) fun r => match r with
                           | .v0 r71 => some (.v0 (o.pick (o.pick (o.pick (o.pick (o.pick (o.pick r16 (o.cmp .eql r7 r9) false) false false) (o.cmp .eql r12 r15) false) (o.same r57 false) false) r68 false) r71 false)))
                          (some (.v0 (o.pick (o.pick (o.pick (o.pick (o.pick (o.pick r16 (o.cmp .eql r7 r9) false) false false) (o.cmp .eql r12 r15) false) (o.same r57 false) false) r68 false) false false))))
                       (ifB (o.pick (o.pick (o.pick (o.pick (o.pick r16 (o.cmp .eql r7 r9) false) false false) (o.cmp .eql r12 r15) false) (o.same r57 false) false) r68 false)
                        (bindR (f39 o fuel 0 [] a0 a1) fun r => match r with
                         | .v0 r72 => some (.v0 (o.pick (o.pick (o.pick (o.pick (o.pick (o.pick r16 (o.cmp .eql r7 r9) false) false false) (o.cmp .eql r12 r15) false) (o.same r57 false) false) r68 false) r72 false)))
                        (some (.v0 (o.pick (o.pick (o.pick (o.pick (o.pick (o.pick r16 (o.cmp .eql r7 r9) false) false false) (o.cmp .eql r12 r15) false) (o.same r57 false) false) r68 false) false false)))))
                    (ifB (o.pick (o.pick (o.pick (o.pick (o.pick r16 (o.cmp .eql r7 r9) false) false false) (o.cmp .eql r12 r15) false) (o.same r57 false) false) false false)
                     (bindR (f41 o fuel a0 a1) fun r => match r with
                      | .v0 r73 r74 => ifB (o.pick (o.pick (o.pick (o.pick (o.pick r16 (o.cmp .eql r7 r9) false) false false) (o.cmp .eql r12 r15) false) (o.same r57 false) false) false false)
                        (bindR (f39 o fuel r73 r74 a0 a1) fun r => match r with
                         | .v0 r75 => some (.v0 (o.pick (o.pick (o.pick (o.pick (o.pick (o.pick r16 (o.cmp .eql r7 r9) false) false false) (o.cmp .eql r12 r15) false) (o.same r57 false) false) false false) r75 false)))
                        (some (.v0 (o.pick (o.pick (o.pick (o.pick (o.pick (o.pick r16 (o.cmp .eql r7 r9) false) false false) (o.cmp .eql r12 r15) false) (o.same r57 false) false) false false) false false))))
                     (ifB (o.pick (o.pick (o.pick (o.pick (o.pick r16 (o.cmp .eql r7 r9) false) false false) (o.cmp .eql r12 r15) false) (o.same r57 false) false) false false)
                      (bindR (f39 o fuel 0 [] a0 a1) fun r => match r with
                       | .v0 r76 => some (.v0 (o.pick (o.pick (o.pick (o.pick (o.pick (o.pick r16 (o.cmp .eql r7 r9) false) false false) (o.cmp .eql r12 r15) false) (o.same r57 false) false) false false) r76 false)))
                      (some (.v0 (o.pick (o.pick (o.pick (o.pick (o.pick (o.pick r16 (o.cmp .eql r7 r9) false) false false) (o.cmp .eql r12 r15) false) (o.same r57 false) false) false false) false false)))))))
                (ifB (o.pick (o.pick (o.pick r16 (o.cmp .eql r7 r9) false) false false) (o.cmp .eql r12 r15) false)
                 (bindR (f39 o fuel a0 a1 a2 a3) fun r => match r with
                  | .v0 r77 => ifB (o.pick (o.pick (o.pick (o.pick r16 (o.cmp .eql r7 r9) false) false false) (o.cmp .eql r12 r15) false) (o.same false r77) false)
                    (bindR (f44 o fuel a0 a1 a0 a1) fun r => match r with
                     | .v0 r78 => ifB (o.pick (o.pick (o.pick (o.pick (o.pick r16 (o.cmp .eql r7 r9) false) false false) (o.cmp .eql r12 r15) false) (o.same false r77) false) r78 false)
                       (bindR (f41 o fuel a0 a1) fun r => match r with
                        | .v0 r79 r80 => ifB (o.pick (o.pick (o.pick (o.pick (o.pick r16 (o.cmp .eql r7 r9) false) false false) (o.cmp .eql r12 r15) false) (o.same false r77) false) r78 false)
                          (bindR (f39 o fuel r79 r80 a0 a1) fun r => match r with
                           | .v0 r81 => some (.v0 (o.pick (o.pick (o.pick (o.pick (o.pick (o.pick r16 (o.cmp .eql r7 r9) false) false false) (o.cmp .eql r12 r15) false) (o.same false r77) false) r78 false) r81 false)))
                          (some (.v0 (o.pick (o.pick (o.pick (o.pick (o.pick (o.pick r16 (o.cmp .eql r7 r9) false) false false) (o.cmp .eql r12 r15) false) (o.same false r77) false) r78 false) false false))))
                       (ifB (o.pick (o.pick (o.pick (o.pick (o.pick r16 (o.cmp .eql r7 r9) false) false false) (o.cmp .eql r12 r15) false) (o.same false r77) false) r78 false)
                        (bindR (f39 o fuel 0 [] a0 a1) fun r => match r with
                         | .v0 r82 => some (.v0 (o.pick (o.pick (o.pick (o.pick (o.pick (o.pick r16 (o.cmp .eql r7 r9) false) false false) (o.cmp .eql r12 r15) false) (o.same false r77) false) r78 false) r82 false)))
                        (some (.v0 (o.pick (o.pick (o.pick (o.pick (o.pick (o.pick r16 (o.cmp .eql r7 r9) false) false false) (o.cmp .eql r12 r15) false) (o.same false r77) false) r78 false) false false)))))
                    (ifB (o.pick (o.pick (o.pick (o.pick (o.pick r16 (o.cmp .eql r7 r9) false) false false) (o.cmp .eql r12 r15) false) (o.same false r77) false) false false)
                     (bindR (f41 o fuel a0 a1) fun r => match r with
                      | .v0 r83 r84 => ifB (o.pick (o.pick (o.pick (o.pick (o.pick r16 (o.cmp .eql r7 r9) false) false false) (o.cmp .eql r12 r15) false) (o.same false r77) false) false false)
                        (bindR (f39 o fuel r83 r84 a0 a1) fun r => match r with
                         | .v0 r85 => some (.v0 (o.pick (o.pick (o.pick (o.pick (o.pick (o.pick r16 (o.cmp .eql r7 r9) false) false false) (o.cmp .eql r12 r15) false) (o.same false r77) false) false false) r85 false)))
                        (some (.v0 (o.pick (o.pick (o.pick (o.pick (o.pick (o.pick r16 (o.cmp .eql r7 r9) false) false false) (o.cmp .eql r12 r15) false) (o.same false r77) false) false false) false false))))
                     (ifB (o.pick (o.pick (o.pick (o.pick (o.pick r16 (o.cmp .eql r7 r9) false) false false) (o.cmp .eql r12 r15) false) (o.same false r77) false) false false)
                      (bindR (f39 o fuel 0 [] a0 a1) fun r => match r with
                       | .v0 r86 => some (.v0 (o.pick (o.pick (o.pick (o.pick (o.pick (o.pick r16 (o.cmp .eql r7 r9) false) false false) (o.cmp .eql r12 r15) false) (o.same false r77) false) false false) r86 false)))
                      (some (.v0 (o.pick (o.pick (o.pick (o.pick (o.pick (o.pick r16 (o.cmp .eql r7 r9) false) false false) (o.cmp .eql r12 r15) false) (o.same false r77) false) false false) false false))))))
                 (ifB (o.pick (o.pick (o.pick (o.pick r16 (o.cmp .eql r7 r9) false) false false) (o.cmp .eql r12 r15) false) (o.same false false) false)
                  (bindR (f44 o fuel a0 a1 a0 a1) fun r => match r with
                   | .v0 r87 => ifB (o.pick (o.pick (o.pick (o.pick (o.pick r16 (o.cmp .eql r7 r9) false) false false) (o.cmp .eql r12 r15) false) (o.same false false) false) r87 false)
                     (bindR (f41 o fuel a0 a1) fun r => match r with
                      | .v0 r88 r89 => ifB (o.pick (o.pick (o.pick (o.pick (o.pick r16 (o.cmp .eql r7 r9) false) false false) (o.cmp .eql r12 r15) false) (o.same false false) false) r87 false)
                        (bindR (f39 o fuel r88 r89 a0 a1) fun r => match r with
                         | .v0 r90 => some (.v0 (o.pick (o.pick (o.pick (o.pick (o.pick (o.pick r16 (o.cmp .eql r7 r9) false) false false) (o.cmp .eql r12 r15) false) (o.same false false) false) r87 false) r90 false)))
                        (some (.v0 (o.pick (o.pick (o.pick (o.pick (o.pick (o.pick r16 (o.cmp .eql r7 r9) false) false false) (o.cmp .eql r12 r15) false) (o.same false false) false) r87 false) false false))))
                     (ifB (o.pick (o.pick (o.pick (o.pick (o.pick r16 (o.cmp .eql r7 r9) false) false false) (o.cmp .eql r12 r15) false) (o.same false false) false) r87 false)
                      (bindR (f39 o fuel 0 [] a0 a1) fun r => match r with
                       | .v0 r91 => some (.v0 (o.pick (o.pick (o.pick (o.pick (o.pick (o.pick r16 (o.cmp .eql r7 r9) false) false false) (o.cmp .eql r12 r15) false) (o.same false false) false) r87 false) r91 false)))
                      (some (.v0 (o.pick (o.pick (o.pick (o.pick (o.pick (o.pick r16 (o.cmp .eql r7 r9) false) false false) (o.cmp .eql r12 r15) false) (o.same false false) false) r87 false) false false)))))
                  (ifB (o.pick (o.pick (o.pick (o.pick (o.pick r16 (o.cmp .eql r7 r9) false) false false) (o.cmp .eql r12 r15) false) (o.same false false) false) false false)
                   (bindR (f41 o fuel a0 a1) fun r => match r with
                    | .v0 r92 r93 => ifB (o.pick (o.pick (o.pick (o.pick (o.pick r16 (o.cmp .eql r7 r9) false) false false) (o.cmp .eql r12 r15) false) (o.same false false) false) false false)
                      (bindR (f39 o fuel r92 r93 a0 a1) fun r => match r with
                       | .v0 r94 => some (.v0 (o.pick (o.pick (o.pick (o.pick (o.pick (o.pick r16 (o.cmp .eql r7 r9) false) false false) (o.cmp .eql r12 r15) false) (o.same false false) false) false false) r94 false)))
                      (some (.v0 (o.pick (o.pick (o.pick (o.pick (o.pick (o.pick r16 (o.cmp .eql r7 r9) false) false false) (o.cmp .eql r12 r15) false) (o.same false false) false) false false) false false))))
                   (ifB (o.pick (o.pick (o.pick (o.pick (o.pick r16 (o.cmp .eql r7 r9) false) false false) (o.cmp .eql r12 r15) false) (o.same false false) false) false false)
                    (bindR (f39 o fuel 0 [] a0 a1) fun r => match r with
                     | .v0 r95 => some (.v0 (o.pick (o.pick (o.pick (o.pick (o.pick (o.pick r16 (o.cmp .eql r7 r9) false) false false) (o.cmp .eql r12 r15) false) (o.same false false) false) false false) r95 false)))
                    (some (.v0 (o.pick (o.pick (o.pick (o.pick (o.pick (o.pick r16 (o.cmp .eql r7 r9) false) false false) (o.cmp .eql r12 r15) false) (o.same false false) false) false false) false false)))))))))
set_option maxHeartbeats 4000000 in
set_option maxRecDepth 100000 in
theorem f10_call (o : Ops) (ho : o = stdOps) (fuel : Nat) (a0 : Int) (a1 : List AV) (a2 : Int) (a3 : List AV) (a4 : List AV) {R : F10R} (H : f10 o fuel a0 a1 a2 a3 a4 = some R) (K : AV → List Ent → Prop) (E : AV → List Ent → Prop) (h : K R.av R.hp) : CallA Try.prog 10 [.agg [.int .i64 a0, .sl 5 a1 .no], .agg [.int .i64 a2, .sl 5 a3 .no], .sl 1 a4 .no] [] K E := by
  refine call_wk fun K' hK => ?_
  refine call_keep (n₀ := 0) tab_ok Try.func10 rfl rfl rfl rfl ?_
  intro J hJ
  obtain rfl : o = J.o := by rw [ho, hJ]; rfl
  unfold f10 at H
  cbv
  repeat' (first
    | ((with_reducible first | refine awp_go2 ?_ | refine aops_go2 ?_ | refine strip_go2 ?_ | refine draw_go2 ?_ | refine frames_go2 ?_); cbv)
    | with_reducible exact id
    | exact trivial
    | with_reducible exact rfl
    | with_reducible exact ⟨_, rfl⟩
    | exact none_go H
    | (refine KeepQ.mk [] (by decide) ?_; cbv; cases H; refine hK _ _ _ _ ?_ ?_ rfl h <;> cbv)
    | (refine ifB_go H ?_ ?_ <;> clear H <;> intro hh H)
    | (refine ifB_og H ?_ ?_ <;> clear H <;> intro hh H)
    | (refine req_go H ?_; clear H; intro hh H)
    | (refine gg_t ho H ?_ ?_ <;> clear H <;> intro hh H)
    | (refine gg_f ho H ?_ ?_ <;> clear H <;> intro hh H)
    | (refine bit_go ho H ?_ ?_ <;> clear H <;> intro hh H; (all_goals cbv))
    | (refine nil_go H ?_; clear H; intro b H; cbv)
    | (refine tok_go ?_; cbv)
    | (refine getA_go (β := UInt8) H ?_; clear H; intro e H; cbv)
    | (obtain ⟨R, hR, H2⟩ := bindR_go H; refine call_in hJ [] (by decide) rfl rfl rfl (f39_call _ ho _ _ _ _ _ hR _ _ ?_); clear H hR; rcases R with ⟨_⟩; all_goals (replace H := H2; clear H2; dsimp only at H; cbv))
    | (obtain ⟨R, hR, H2⟩ := bindR_go H; refine call_in hJ [] (by decide) rfl rfl rfl (f41_call _ ho _ _ _ hR _ _ ?_); clear H hR; rcases R with ⟨_, _⟩; all_goals (replace H := H2; clear H2; dsimp only at H; cbv))
    | (obtain ⟨R, hR, H2⟩ := bindR_go H; refine call_weakF hJ [.agg [.junk, .sl 5 [] .no], .agg [.junk, .sl 5 [] .no]] ?_; cbv; refine call_in hJ [] (by decide) rfl rfl rfl (f39_call _ ho _ _ _ _ _ hR _ _ ?_); clear H hR; rcases R with ⟨_⟩; all_goals (replace H := H2; clear H2; dsimp only at H; cbv))
    | (obtain ⟨R, hR, H2⟩ := bindR_go H; refine call_in hJ [] (by decide) rfl rfl rfl (f44_call _ ho _ _ _ _ _ hR _ _ ?_); clear H hR; rcases R with ⟨_⟩; all_goals (replace H := H2; clear H2; dsimp only at H; cbv))
    | (obtain ⟨R, hR, H2⟩ := bindR_go H; refine call_in hJ [] (by decide) rfl rfl rfl (f40_call _ ho _ _ _ hR _ _ ?_); clear H hR; rcases R with ⟨_⟩; all_goals (replace H := H2; clear H2; dsimp only at H; cbv))
    | (obtain ⟨R, hR, H2⟩ := bindR_go H; refine call_in hJ [] (by decide) rfl rfl rfl (f43_call _ ho _ _ hR _ _ ?_); clear H hR; rcases R with ⟨_, _, _⟩; all_goals (replace H := H2; clear H2; dsimp only at H; cbv))
    | (obtain ⟨R, hR, H2⟩ := bindR_go H; refine call_in hJ [] (by decide) rfl rfl rfl (f38_call _ ho _ _ hR _ _ ?_); clear H hR; rcases R with ⟨_, _, _⟩; all_goals (replace H := H2; clear H2; dsimp only at H; cbv))
    | (obtain ⟨R, hR, H2⟩ := bindR_go H; refine call_in hJ [] (by decide) rfl rfl rfl (f42_call _ ho _ _ _ hR _ _ ?_); clear H hR; rcases R with ⟨_, _⟩; all_goals (replace H := H2; clear H2; dsimp only at H; cbv))
    | (obtain ⟨R, hR, H2⟩ := bindR_go H; refine call_in hJ [] (by decide) rfl rfl rfl (f37_call _ ho _ _ _ hR _ _ ?_); clear H hR; rcases R with ⟨_, _⟩; all_goals (replace H := H2; clear H2; dsimp only at H; cbv))
    | (obtain ⟨R, hR, H2⟩ := bindR_go H; refine call_in hJ [] (by decide) rfl rfl rfl (f25_call _ ho _  hR _ _ ?_); clear H hR; rcases R with ⟨_⟩; all_goals (replace H := H2; clear H2; dsimp only at H; cbv))
    | (refine lit_t ?_; cbv)
    | (refine lit_f ?_; cbv)
    | (refine known_t (by assumption) ?_)
    | (refine known_f (by assumption) ?_)
    | (refine known_x (by assumption) ?_)
    | (refine known_y (by assumption) ?_)
    | (refine known_get (by assumption) ?_; cbv)
    | (refine known_and (by assumption) ?_)
    | with_reducible refine And.intro ?_ ?_
    | (intro hh; exact hh)
    | (intro _; assumption)
    | (intro _; clear H h; simp only [ho, stdOps] at *; simp_all))

end Go.Proofs.Ytilffanmaicakaa.A
