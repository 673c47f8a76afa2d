/- Going through all inputs. -/
import Derived.Test.YtilffanmaicakaaGrSpecN
import Derived.Test.YtilffanmaicakaaAmRange
import Derived.Test.YtilffanmaicakaaAmWeak
namespace Go.Proofs.Ytilffanmaicakaa.A
open Go Go.Pt Go.Gr

/-- A loop over a function: the record's texts are variables. -/
theorem range_vars {P : Program} {n₀ : Nat} {J : Jd} (hJ : J = std P n₀) {g : Operand} {ps : Array Tmp} {asg body : Code} {Q : Ex → St → Prop} {s : St} {f : FuncId} {caps : List AV} (hg : s.ev g = .func f caps)
    (h : ∀ p a b e, p = ps.toList → a = asg → b = body → e = s.env → CallA P f (.yld (lenN s.hp) :: caps) (snoc s.hp (.lp p a b e s.n .ready none)) (rangeQ Q s (lenN s.hp)) (fun _ _ => False)) : J.code (.rangeFunc g ps asg body) Q s :=
  range_at hJ hg (h _ _ _ _ rfl rfl rfl rfl)
theorem yield_vars {P : Program} {n₀ : Nat} {tab : Nat → Ty} {σ : List Ent} {J : Jd} (hJ : J = std P n₀) (ht : TabOk P tab) {i : Nat} {args : List AV} {K : AV → List Ent → Prop} {ps ps' : List Nat} {asg asg' body body' : Code} {env env' : List (Nat × AV)} {n : Nat} {pe : Option Code}
    (hi : nth σ i = some (.lp ps asg body env n .ready pe)) (h1 : ps = ps') (h2 : asg = asg') (h3 : body = body') (h4 : env = env') (hl : Nat.beq (lenN ps') (lenN args) = true) (hp : allLt ps' n = true)
    (h : ∀ J, J = std P (lenN σ) → awp J tab asg' (asgQ J tab i body' K) ⟨zipEnv ps' args env', σ, n⟩) : J.yld i args σ K := by
  subst h1 h2 h3 h4
  exact yield_at hJ ht hi hl hp h
/-- The operators' numbers, once for each input. -/
def ats (l : List Gr.Op) : Nat → List Int
  | 0 => []
  | n + 1 => ats l n ++ (match l[n]? with | some o => List.replicate o.i.length (n : Int) | none => [])
/-- The inputs ahead of an operator. -/
def EdsIs (l : List Gr.Op) (q : Int) (xs ys : List AV) : Prop := xs = (ats l q.toNat).map (AV.int .i64) ∧ ys = (flat l q.toNat).map Ed.av
/-- There are not too many inputs. -/
def Tot (l : List Gr.Op) (L : Int) : Prop := (flat l L.toNat).length < 2 ^ 40
theorem edsIs_zero {l : List Gr.Op} : EdsIs l 0 [] [] := ⟨rfl, by simp [flat]⟩
theorem flat_none {l : List Gr.Op} {n : Nat} (h : l[n]? = none) : flat l (n + 1) = flat l n := by
  have := List.getElem?_eq_none_iff.1 h
  unfold flat; rw [List.take_of_length_le (by omega), List.take_of_length_le (by omega)]
theorem ats_len {l : List Gr.Op} : ∀ n, (ats l n).length = (flat l n).length
  | 0 => by simp [ats, flat]
  | n + 1 => by
    cases h : l[n]? with
    | none => rw [flat_none h]; simp [ats, h, ats_len n]
    | some o => obtain ⟨k, p, f, a, il⟩ := o; rw [flat_succ h]; simp [ats, h, ats_len n]
theorem eds_room {l : List Gr.Op} {L q j k p f a : Int} {il : List Ed} {xs ys xs2 ys2 : List AV} (hT : Tot l L) (q0 : 0 ≤ q) (hq : q < L) (ho : l[q.toNat]? = some ⟨k, p, f, a, il⟩) (hE : EdsIs l q xs ys) (j0 : 0 ≤ j) (hj : j ≤ il.length)
    (hx : xs2 = xs ++ List.replicate j.toNat (.int .i64 q)) (hy : ys2 = ys ++ (il.take j.toNat).map Ed.av) : xs2.length < 2 ^ 40 ∧ ys2.length < 2 ^ 40 := by
  have h2 := flat_le l (n := q.toNat + 1) (m := L.toNat) (by omega)
  rw [flat_succ ho] at h2
  obtain ⟨rfl, rfl⟩ := hE
  unfold Tot at hT
  have := ats_len (l := l) q.toNat
  simp only [List.length_append] at h2
  subst hx hy
  simp only [List.length_append, List.length_map, List.length_replicate, List.length_take]
  omega
theorem eds_more {oil : List Ed} {q j j1 xf xp : Int} {xs ys xs2 ys2 : List AV} (hj1 : j1 = j + 1) (j0 : 0 ≤ j) (hed : oil[j.toNat]? = some ⟨xf, xp⟩)
    (hx : xs2 = xs ++ List.replicate j.toNat (.int .i64 q)) (hy : ys2 = ys ++ (oil.take j.toNat).map Ed.av) :
    j1 ≤ oil.length ∧ xs2 ++ [.int .i64 q] = xs ++ List.replicate j1.toNat (.int .i64 q) ∧ ys2 ++ [.agg [.int .i64 xf, .int .i64 xp]] = ys ++ (oil.take j1.toNat).map Ed.av := by
  have := lt_of_get hed
  have e : j1.toNat = j.toNat + 1 := by omega
  refine ⟨by omega, ?_, ?_⟩
  · rw [hx, e, List.replicate_succ', List.append_assoc]
  · rw [hy, e, List.take_add_one, hed]; simp [Ed.av]
theorem eds_next {l : List Gr.Op} {q q1 j k p f a : Int} {il : List Ed} {xs ys xs2 ys2 : List AV} (hq1 : q1 = q + 1) (q0 : 0 ≤ q) (ho : l[q.toNat]? = some ⟨k, p, f, a, il⟩) (hE : EdsIs l q xs ys) (hj : j = il.length)
    (hx : xs2 = xs ++ List.replicate j.toNat (.int .i64 q)) (hy : ys2 = ys ++ (il.take j.toNat).map Ed.av) : EdsIs l q1 xs2 ys2 := by
  obtain ⟨rfl, rfl⟩ := hE
  have e : q1.toNat = q.toNat + 1 := by omega
  unfold EdsIs
  rw [e, flat_succ ho, hx, hy]
  refine ⟨?_, ?_⟩
  · simp [ats, ho, hj]; omega
  · simp [hj]

set_option maxHeartbeats 8000000 in
set_option maxRecDepth 100000 in
theorem all_call (es : List AV) (K E) (h : K (.func 123 [.ptr 0 0]) [.var [.sl 2 es .no]]) : CallA Try.prog 104 [.sl 2 es .no] [] K E := by
  refine call_fn (n₀ := 0) tab_ok [0] Try.func104 rfl rfl rfl rfl (by decide) ?_
  intro J hJ
  cbv
  repeat' (first
    | with_reducible exact id
    | exact trivial
    | (with_reducible refine op_is hJ hos ho hoes ?_; cbv)
    | (with_reducible refine op_in hJ hos ?_; intro ok op of oa oes oil hoes hop; cbv)
    | (with_reducible refine ed_in hJ hes ?_; intro xf xp hed; cbv)
    | (with_reducible refine ed_in hJ hoes ?_; intro xf xp hed; cbv)
    | intro hh
    | with_reducible refine And.intro ?_ ?_
    | (with_reducible first | refine awp_go ?_ | refine aops_go ?_ | refine strip_go ?_ | refine draw_go ?_ | refine frames_go ?_); cbv)
  all_goals first | exact h | skip
set_option maxHeartbeats 8000000 in
set_option maxRecDepth 100000 in
theorem seq_call (n : Int) (os : List AV) (K E) (h : K (.func 103 [.ptr 0 0]) [.var [.int .i64 n, .sl 5 os .no]]) : CallA Try.prog 71 [.agg [.int .i64 n, .sl 5 os .no]] [] K E := by
  refine call_fn (n₀ := 0) tab_ok [0] Try.func71 rfl rfl rfl rfl (by decide) ?_
  intro J hJ
  cbv
  repeat' (first
    | with_reducible exact id
    | exact trivial
    | (with_reducible refine op_is hJ hos ho hoes ?_; cbv)
    | (with_reducible refine op_in hJ hos ?_; intro ok op of oa oes oil hoes hop; cbv)
    | (with_reducible refine ed_in hJ hes ?_; intro xf xp hed; cbv)
    | (with_reducible refine ed_in hJ hoes ?_; intro xf xp hed; cbv)
    | intro hh
    | with_reducible refine And.intro ?_ ?_
    | (with_reducible first | refine awp_go ?_ | refine aops_go ?_ | refine strip_go ?_ | refine draw_go ?_ | refine frames_go ?_); cbv)
  all_goals first | exact h | skip
set_option maxHeartbeats 8000000 in
set_option maxRecDepth 100000 in
theorem edges05_call (n : Int) (l : List Gr.Op) (os : List AV) (hos : os = l.map Gr.Op.av) (L : Int) (hL : Ln L l) (hLL : L < 2 ^ 48) (hT : Tot l L) (K : AV → List Ent → Prop) (E) (h : ∀ xs ys, EdsIs l L xs ys → K (.tup [.sl 1 xs .no, .sl 2 ys .no]) []) : CallA Try.prog 30 [.agg [.int .i64 n, .sl 5 os .no]] [] K E := by
  have hL0 : 0 ≤ L := by unfold Ln at hL; omega
  refine call_fn (n₀ := 0) tab_ok [] Try.func30 rfl rfl rfl rfl (by decide) ?_
  intro J hJ
  have hlos : J.o.len os = L := by subst hJ hos; unfold Ln at hL; simp [std, stdOps, hL]
  cbv
  repeat' (first
    | with_reducible exact id
    | exact trivial
    | (refine call_in hJ [] (by decide) rfl rfl rfl (seq_call n os _ _ ?_); cbv)
    | (with_reducible refine op_is hJ hos ho hoes ?_; cbv)
    | (with_reducible refine op_in hJ hos ?_; intro ok op of oa oes oil hoes hop; cbv)
    | (with_reducible refine ed_in hJ hes ?_; intro xf xp hed; cbv)
    | (with_reducible refine ed_in hJ hoes ?_; intro xf xp hed; cbv)
    | intro hh
    | with_reducible refine And.intro ?_ ?_
    | (with_reducible first | refine awp_go ?_ | refine aops_go ?_ | refine strip_go ?_ | refine draw_go ?_ | refine frames_go ?_); cbv)
  refine range_vars hJ rfl ?_
  intro p1 a1 b1 e1 hp1 ha1 hb1 he1
  refine call_keep (n₀ := 5) tab_ok Try.func103 rfl rfl rfl rfl ?_
  intro J2 hJ2
  have hlos2 : J2.o.len os = L := by subst hJ2 hos; unfold Ln at hL; simp [std, stdOps, hL]
  cbv
  repeat' (first
    | with_reducible exact id
    | exact trivial
    | (with_reducible refine op_is hJ2 hos ho hoes ?_; cbv)
    | (with_reducible refine op_in hJ2 hos ?_; intro ok op of oa oes oil hoes hop; cbv)
    | (with_reducible refine ed_in hJ2 hes ?_; intro xf xp hed; cbv)
    | (with_reducible refine ed_in hJ2 hoes ?_; intro xf xp hed; cbv)
    | intro hh
    | with_reducible refine And.intro ?_ ?_
    | (with_reducible first | refine awp_go ?_ | refine aops_go ?_ | refine strip_go ?_ | refine draw_go ?_ | refine frames_go ?_); cbv)
  refine loop_turn_at (β := Int × List AV × List AV × Nat × Nat) hJ2 tab_ok (fun | (q, xs, ys, pa, pl) => ⟨[(10, .int .i64 q), (9, .int .i64 (J2.o.len os)), (8, .sl 5 os .no), (2, .ptr 5 0), (1, .ptr 3 0)], [.var [.int .i64 n, .sl 5 os .no], .var [.sl 1 xs (.tip 6 pa)], .var [.sl 2 ys (.tip 7 pl)], .var [.int .i64 n, .sl 5 os .no], .lp p1 a1 b1 e1 22 .ready none, .var [.yld 4], .tip pa, .tip pl], 26⟩) (fun | (q, xs, ys, _, _) => 0 ≤ q ∧ q ≤ L ∧ EdsIs l q xs ys) (fun | (q, _, _, _, _) => (L + 1 - q).toNat) (0, [], [], 0, 0) ?_ ?_ ?_ ?_
  · exact ⟨Int.le_refl _, hL0, edsIs_zero⟩
  · refine Turn.trans (turn_tip 1 0 1 rfl rfl (Nat.le_of_ble_eq_true rfl)) (Turn.trans (turn_tip 2 0 2 rfl rfl (Nat.le_of_ble_eq_true rfl)) (Turn.le ⟨?_, ?_, by subst he1; rfl, rfl⟩ (Nat.le_of_ble_eq_true rfl)))
    · cbv
    · cbv
      exact ⟨⟨rfl, trivial⟩, ⟨rfl, trivial⟩, trivial⟩
  · rintro ⟨q, xs, ys, pa, pl⟩; exact Nat.le_of_ble_eq_true rfl
  rintro ⟨q, xs, ys, pa, pl⟩ ⟨q0, qL, hE⟩ Nx Nxh
  obtain ⟨q1, hq1⟩ : ∃ q1 : Int, q1 = q + 1 := ⟨_, rfl⟩
  cbv
  repeat' (first
    | with_reducible exact id
    | exact trivial
    | (refine call_in hJ2 [] (by decide) rfl rfl rfl (all_call oes _ _ ?_); cbv)
    | (with_reducible refine op_is hJ2 hos ho hoes ?_; cbv)
    | (with_reducible refine op_in hJ2 hos ?_; intro ok op of oa oes oil hoes hop; cbv)
    | (with_reducible refine ed_in hJ2 hes ?_; intro xf xp hed; cbv)
    | (with_reducible refine ed_in hJ2 hoes ?_; intro xf xp hed; cbv)
    | intro hh
    | with_reducible refine And.intro ?_ ?_
    | (with_reducible first | refine awp_go ?_ | refine aops_go ?_ | refine strip_go ?_ | refine draw_go ?_ | refine frames_go ?_); cbv)
  all_goals try
    (refine range_vars hJ2 rfl ?_
     intro p2 a2 b2 e2 hp2 ha2 hb2 he2
     refine call_keep (n₀ := 12) tab_ok Try.func123 rfl rfl rfl rfl ?_
     intro J3 hJ3
     cbv
     repeat' (first
       | with_reducible exact id
       | exact trivial
       | (with_reducible refine op_is hJ3 hos ho hoes ?_; cbv)
       | (with_reducible refine op_in hJ3 hos ?_; intro ok op of oa oes oil hoes hop; cbv)
       | (with_reducible refine ed_in hJ3 hes ?_; intro xf xp hed; cbv)
       | (with_reducible refine ed_in hJ3 hoes ?_; intro xf xp hed; cbv)
       | intro hh
       | with_reducible refine And.intro ?_ ?_
       | (with_reducible first | refine awp_go ?_ | refine aops_go ?_ | refine strip_go ?_ | refine draw_go ?_ | refine frames_go ?_); cbv)
     refine loop_turn_at (β := Int × List AV × List AV × Nat × Nat) hJ3 tab_ok (fun | (j, xs2, ys2, pa2, pl2) => ⟨[(7, .int .i64 j), (6, .int .i64 (J3.o.len oes)), (5, .sl 2 oes .no), (0, .yld 11)], [.var [.int .i64 n, .sl 5 os .no], .var [.sl 1 xs2 (.tip 6 pa2)], .var [.sl 2 ys2 (.tip 7 pl2)], .var [.int .i64 n, .sl 5 os .no], .lp p1 a1 b1 e1 22 .ready none, .var [.yld 4], .tip pa2, .tip pl2, .var [.int .i64 q], .var [.int .i64 ok, .int .i64 op, .int .i64 of, .int .i64 oa, .sl 2 oes .no], .var [.sl 2 oes .no], .lp p2 a2 b2 e2 26 .ready none], 18⟩) (fun | (j, xs2, ys2, _, _) => 0 ≤ j ∧ j ≤ oil.length ∧ xs2 = xs ++ List.replicate j.toNat (.int .i64 q) ∧ ys2 = ys ++ (oil.take j.toNat).map Ed.av) (fun | (j, _, _, _, _) => (oil.length + 1 - j).toNat) (0, xs, ys, pa, pl) ?_ ?_ ?_ ?_
     · exact ⟨Int.le_refl _, Int.natCast_nonneg _, by simp, by simp⟩
     · refine Turn.le ⟨?_, ?_, by subst he1 he2; rfl, rfl⟩ (Nat.le_of_ble_eq_true rfl)
       · cbv
       · cbv
         exact ⟨⟨rfl, trivial⟩, ⟨rfl, trivial⟩, trivial⟩
     · rintro ⟨j, xs2, ys2, pa2, pl2⟩; exact Nat.le_of_ble_eq_true rfl
     rintro ⟨j, xs2, ys2, pa2, pl2⟩ ⟨j0, jM, hx2, hy2⟩ Ny Nyh
     obtain ⟨j1, hj1⟩ : ∃ j1 : Int, j1 = j + 1 := ⟨_, rfl⟩
     have hqL : q < L := by subst hJ2; simp only [std, stdOps] at *; grind
     have hroom := eds_room hT q0 hqL hop hE j0 jM hx2 hy2
     cbv
     repeat' (first
       | with_reducible exact id
       | exact trivial
       | (refine yield_vars (by assumption) tab_ok rfl hp2 ha2 hb2 he2 rfl rfl ?_; intro J4 hJ4; cbv)
       | (refine yield_vars (by assumption) tab_ok rfl hp1 ha1 hb1 he1 rfl rfl ?_; intro J5 hJ5; cbv)
       | (with_reducible refine op_is hJ3 hos ho hoes ?_; cbv)
       | (with_reducible refine op_in hJ3 hos ?_; intro ok op of oa oes oil hoes hop; cbv)
       | (with_reducible refine ed_in hJ3 hes ?_; intro xf xp hed; cbv)
       | (with_reducible refine ed_in hJ3 hoes ?_; intro xf xp hed; cbv)
       | intro hh
       | with_reducible refine And.intro ?_ ?_
       | (with_reducible first | refine awp_go ?_ | refine aops_go ?_ | refine strip_go ?_ | refine draw_go ?_ | refine frames_go ?_); cbv)
     all_goals first
       | (have hm := eds_more hj1 j0 hed hx2 hy2
          refine Nyh _ (j1, J5.o.apnd xs2 [.int .i64 q], J5.o.apnd ys2 [.agg [.int .i64 xf, .int .i64 xp]], J5.o.padd pa2 [.int .i64 q], J5.o.padd pl2 [.agg [.int .i64 xf, .int .i64 xp]]) ⟨?_, ?_, ?_, ?_⟩ ?_ (Turn.le ⟨?_, ?_, by subst he1 he2; rfl, rfl⟩ (Nat.le_of_ble_eq_true rfl))
          · omega
          · exact hm.1
          · subst hJ5; exact hm.2.1
          · subst hJ5; exact hm.2.2
          · show (oil.length + 1 - j1).toNat < (oil.length + 1 - j).toNat; omega
          · refine wkEnv_go' ?_; cbv; subst hJ3; simp only [std, stdOps] at *; grind [wrap64]
          · cbv; repeat' (first | exact trivial | exact rfl | apply And.intro))
       | (subst hJ5; simp only [std, stdOps]; simp only [List.length_cons, List.length_nil]; omega)
       | (subst hJ3; simp only [std, stdOps] at *; grind)
       | (have hjM : j = oil.length := by subst hJ3; simp only [std, stdOps] at *; grind
          subst he1
          refine KeepQ.mk [] (by decide) ?_
          cbv
          repeat' (first
            | with_reducible exact id
            | exact trivial
            | (with_reducible refine op_is hJ2 hos ho hoes ?_; cbv)
            | (with_reducible refine op_in hJ2 hos ?_; intro ok op of oa oes oil hoes hop; cbv)
            | (with_reducible refine ed_in hJ2 hes ?_; intro xf xp hed; cbv)
            | (with_reducible refine ed_in hJ2 hoes ?_; intro xf xp hed; cbv)
            | intro hh
            | with_reducible refine And.intro ?_ ?_
            | (with_reducible first | refine awp_go ?_ | refine aops_go ?_ | refine strip_go ?_ | refine draw_go ?_ | refine frames_go ?_); cbv)
          all_goals first
            | (refine Nxh _ (q1, xs2, ys2, pa2, pl2) ⟨?_, ?_, eds_next hq1 q0 hop hE hjM hx2 hy2⟩ ?_ (Turn.le ⟨?_, ?_, rfl, rfl⟩ (Nat.le_of_ble_eq_true rfl))
               · omega
               · omega
               · show (L + 1 - q1).toNat < (L + 1 - q).toNat; omega
               · refine wkEnv_go' ?_; cbv; subst hJ2; simp only [std, stdOps] at *; grind [wrap64]
               · cbv; repeat' (first | exact trivial | exact rfl | apply And.intro)))
       | skip)
  all_goals first
    | (subst hJ2; simp only [std, stdOps] at *; grind)
    | (have hqL : q = L := by subst hJ2; simp only [std, stdOps] at *; grind
       subst he1
       refine KeepQ.mk [6, 7] (by decide) ?_
       cbv
       repeat' (first
         | with_reducible exact id
         | exact trivial
         | (with_reducible refine op_is hJ hos ho hoes ?_; cbv)
         | (with_reducible refine op_in hJ hos ?_; intro ok op of oa oes oil hoes hop; cbv)
         | (with_reducible refine ed_in hJ hes ?_; intro xf xp hed; cbv)
         | (with_reducible refine ed_in hJ hoes ?_; intro xf xp hed; cbv)
         | intro hh
         | with_reducible refine And.intro ?_ ?_
         | (with_reducible first | refine awp_go ?_ | refine aops_go ?_ | refine strip_go ?_ | refine draw_go ?_ | refine frames_go ?_); cbv)
       exact h xs ys (hqL ▸ hE))

end Go.Proofs.Ytilffanmaicakaa.A
