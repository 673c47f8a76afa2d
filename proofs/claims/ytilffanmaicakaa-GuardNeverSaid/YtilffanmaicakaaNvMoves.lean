/- What moves does. -/
import Derived.Test.YtilffanmaicakaaNvComes
namespace Go.Proofs.Ytilffanmaicakaa.A
open Go Go.Pt Go.Gd Go.Ls Go.Nv

set_option maxHeartbeats 8000000 in
set_option maxRecDepth 100000 in
theorem moves_call (c0 e0 u0 s0 k0 a0 c1 e1 u1 s1 k1 a1 lo lp le lc lu clk qa0 qo0 qa1 qo1 : Int) (lz h0 h1 : Bool) (m0 m1 : List (Int × Int × Int)) (n : Int) (bag : List Lt) (N : Int) (xs : List AV) (es0 es1 : List (AV × AV)) (he0 : es0 = encM m0) (he1 : es1 = encM m1) (hx : xs = bag.map Lt.av) (hN : IsLen N bag) (hn : 0 ≤ n ∧ n < 400) (hl : Len bag n) (hinv : Inv n ⟨⟨c0, e0, u0, s0, k0, a0⟩, m0, qa0, qo0, h0⟩ ⟨⟨c1, e1, u1, s1, k1, a1⟩, m1, qa1, qo1, h1⟩ ⟨lo, lp, le, lc, lu, lz⟩ bag clk) (md mr mn mw : Int) (mt : Bool) (K E)
    (h3 : ∀ (c0' e0' u0' s0' k0' a0' c1' e1' u1' s1' k1' a1' lo' lp' le' lc' lu' clk' qa0' qo0' qa1' qo1' : Int) (lz' h0' h1' : Bool) (m0' m1' : List (Int × Int × Int)) (bag' : List Lt) (N' : Int) (ys' : List AV) (es0' es1' : List (AV × AV)), es0' = encM m0' → es1' = encM m1' → ys' = bag'.map Lt.av → IsLen N' bag' → Inv (n + 1) ⟨⟨c0', e0', u0', s0', k0', a0'⟩, m0', qa0', qo0', h0'⟩ ⟨⟨c1', e1', u1', s1', k1', a1'⟩, m1', qa1', qo1', h1'⟩ ⟨lo', lp', le', lc', lu', lz'⟩ bag' clk' → K (.tup []) [.var [.int .i64 c0', .int .i64 e0', .int .i64 u0', .int .i64 s0', .int .i64 k0', .int .i64 a0', .int .i64 c1', .int .i64 e1', .int .i64 u1', .int .i64 s1', .int .i64 k1', .int .i64 a1', .int .i64 lo', .int .i64 lp', .int .i64 le', .int .i64 lc', .int .i64 lu', .bool lz', .vs 3 5 0 N' N', .int .i64 clk', .mp 1, .mp 2, .int .i64 qa0', .int .i64 qo0', .int .i64 qa1', .int .i64 qo1', .bool h0', .bool h1'], .mp es0', .mp es1', .vec 5 ys'])
    (h4 : ∀ (c0' e0' u0' s0' k0' a0' c1' e1' u1' s1' k1' a1' lo' lp' le' lc' lu' clk' qa0' qo0' qa1' qo1' : Int) (lz' h0' h1' : Bool) (m0' m1' : List (Int × Int × Int)) (bag' : List Lt) (N' : Int) (ys' : List AV) (es0' es1' : List (AV × AV)), es0' = encM m0' → es1' = encM m1' → ys' = bag'.map Lt.av → IsLen N' bag' → Inv (n + 1) ⟨⟨c0', e0', u0', s0', k0', a0'⟩, m0', qa0', qo0', h0'⟩ ⟨⟨c1', e1', u1', s1', k1', a1'⟩, m1', qa1', qo1', h1'⟩ ⟨lo', lp', le', lc', lu', lz'⟩ bag' clk' → K (.tup []) [.var [.int .i64 c0', .int .i64 e0', .int .i64 u0', .int .i64 s0', .int .i64 k0', .int .i64 a0', .int .i64 c1', .int .i64 e1', .int .i64 u1', .int .i64 s1', .int .i64 k1', .int .i64 a1', .int .i64 lo', .int .i64 lp', .int .i64 le', .int .i64 lc', .int .i64 lu', .bool lz', .vs 4 5 0 N' N', .int .i64 clk', .mp 1, .mp 2, .int .i64 qa0', .int .i64 qo0', .int .i64 qa1', .int .i64 qo1', .bool h0', .bool h1'], .mp es0', .mp es1', .dead, .vec 5 ys']) :
    CallA Try.prog 23 [.ptr 0 0, .agg [.int .i64 md, .int .i64 mr, .int .i64 mn, .int .i64 mw, .bool mt]] [.var [.int .i64 c0, .int .i64 e0, .int .i64 u0, .int .i64 s0, .int .i64 k0, .int .i64 a0, .int .i64 c1, .int .i64 e1, .int .i64 u1, .int .i64 s1, .int .i64 k1, .int .i64 a1, .int .i64 lo, .int .i64 lp, .int .i64 le, .int .i64 lc, .int .i64 lu, .bool lz, .vs 3 5 0 N N, .int .i64 clk, .mp 1, .mp 2, .int .i64 qa0, .int .i64 qo0, .int .i64 qa1, .int .i64 qo1, .bool h0, .bool h1], .mp es0, .mp es1, .vec 5 xs] K E := by
  refine call_keep (n₀ := 4) tabA_ok Try.func23 rfl rfl rfl rfl ?_
  intro J hJ
  cbv
  repeat' (first
    | with_reducible exact id
    | exact trivial
    | with_reducible refine look_in hJ he0 ?_
    | with_reducible refine look_in hJ he1 ?_
    | with_reducible refine look_no hJ he0 ?_
    | with_reducible refine look_no hJ he1 ?_
    | (with_reducible refine elem_in hJ hx ?_; intro zr zb zk zs ze hz; cbv)
    | intro hh
    | (with_reducible refine tick_at hJ ?_; intros)
    | (with_reducible refine ls_tick_at hJ ?_ ?_; intros)
    | (with_reducible refine ask_at hJ ?_; intros)
    | (with_reducible refine yield_at hJ ?_; intros)
    | (with_reducible refine granted_pure hJ ?_; intros)
    | (with_reducible refine delete_nv hJ rfl hx hN hl hn.2 ?_ ?_ ?_; rotate_left 2; intro bag2 ys2 N2 hx2 hN2 hl2 hB2)
    | (refine call_in hJ [0, 1, 2, 3] (by decide) rfl ?_ ?_ (comes_call c0 e0 u0 s0 k0 a0 c1 e1 u1 s1 k1 a1 lo lp le lc lu clk qa0 qo0 qa1 qo1 lz h0 h1 m0 m1 n bag bag N xs es0 es1 he0 he1 hx hN hn (fun _ h => h) hl hinv _ _ _ _ _ hz (hinv.reg _ hz) _ _ ?_ ?_)
       · rfl
       · simp only [pack, List.map_cons, List.map_nil, nth, entOr, renE, ren_enc he0, ren_enc he1]; rfl
       all_goals (intro c0' e0' u0' s0' k0' a0' c1' e1' u1' s1' k1' a1' lo' lp' le' lc' lu' clk' qa0' qo0' qa1' qo1' lz' h0' h1' m0' m1' bag' N' ys' es0' es1' he0' he1' hx' hN' hinv'; cbv))
    | (refine call_in hJ [0, 1, 2, 6] (by decide) rfl ?_ ?_ (comes_call c0 e0 u0 s0 k0 a0 c1 e1 u1 s1 k1 a1 lo lp le lc lu clk qa0 qo0 qa1 qo1 lz h0 h1 m0 m1 n bag bag2 N2 ys2 es0 es1 he0 he1 hx2 hN2 hn hB2 hl2 hinv _ _ _ _ _ hz (hinv.reg _ hz) _ _ ?_ ?_)
       · rfl
       · simp only [pack, List.map_cons, List.map_nil, nth, entOr, renE, ren_enc he0, ren_enc he1]; rfl
       all_goals (intro c0' e0' u0' s0' k0' a0' c1' e1' u1' s1' k1' a1' lo' lp' le' lc' lu' clk' qa0' qo0' qa1' qo1' lz' h0' h1' m0' m1' bag' N' ys' es0' es1' he0' he1' hx' hN' hinv'; cbv))
    | with_reducible refine And.intro ?_ ?_
    | (with_reducible first | refine awp_go ?_ | refine aops_go ?_ | refine strip_go ?_ | refine draw_go ?_ | refine frames_go ?_); cbv)
  all_goals first
    | (refine KeepQ.mk [] (by decide) ?_
       cbv
       subst hJ
       try simp only [std, stdOps] at *
       first
         | refine h3 _ _ _ _ _ _ _ _ _ _ _ _ _ _ _ _ _ _ _ _ _ _ _ _ _ _ _ _ _ _ _ _ ?ia ?ib ?ic ?id (hinv'.up (Int.le_refl _))
         | refine h3 _ _ _ _ _ _ _ _ _ _ _ _ _ _ _ _ _ _ _ _ _ _ _ _ _ _ _ _ _ _ _ _ ?ia ?ib ?ic ?id (hinv.up (by omega))
         | refine h3 _ _ _ _ _ _ _ _ _ _ _ _ _ _ _ _ _ _ _ _ _ _ _ _ _ _ _ _ _ _ _ _ ?ia ?ib ?ic ?id (fin_tick0 hinv hn (and_15 _) (by assumption))
         | refine h3 _ _ _ _ _ _ _ _ _ _ _ _ _ _ _ _ _ _ _ _ _ _ _ _ _ _ _ _ _ _ _ _ ?ia ?ib ?ic ?id (fin_arb hinv hn (and_15 mn) (by assumption) (arb_ok hinv hn (and_15 mn)))
         | refine h3 _ _ _ _ _ _ _ _ _ _ _ _ _ _ _ _ _ _ _ _ _ _ _ _ _ _ _ _ _ _ _ _ ?ia ?ib ?ic ?id (fin_askno0 hinv (by assumption) (by assumption))
         | refine h3 _ _ _ _ _ _ _ _ _ _ _ _ _ _ _ _ _ _ _ _ _ _ _ _ _ _ _ _ _ _ _ _ ?ia ?ib ?ic ?id (fin_ask0 hinv hn (by assumption) (by assumption))
         | refine h3 _ _ _ _ _ _ _ _ _ _ _ _ _ _ _ _ _ _ _ _ _ _ _ _ _ _ _ _ _ _ _ _ ?ia ?ib (apnd_eq hx) ?id (fin_yield0 hinv (by assumption) (by decide))
         | refine h3 _ _ _ _ _ _ _ _ _ _ _ _ _ _ _ _ _ _ _ _ _ _ _ _ _ _ _ _ _ _ _ _ ?ia ?ib ?ic ?id (fin_tick1 hinv hn (and_15 _) (by assumption))
         | refine h3 _ _ _ _ _ _ _ _ _ _ _ _ _ _ _ _ _ _ _ _ _ _ _ _ _ _ _ _ _ _ _ _ ?ia ?ib ?ic ?id (fin_askno1 hinv (by assumption) (by assumption))
         | refine h3 _ _ _ _ _ _ _ _ _ _ _ _ _ _ _ _ _ _ _ _ _ _ _ _ _ _ _ _ _ _ _ _ ?ia ?ib ?ic ?id (fin_ask1 hinv hn (by assumption) (by assumption))
         | refine h3 _ _ _ _ _ _ _ _ _ _ _ _ _ _ _ _ _ _ _ _ _ _ _ _ _ _ _ _ _ _ _ _ ?ia ?ib (apnd_eq hx) ?id (fin_yield1 hinv (by assumption) (by decide))
       case ia => first | (subst he0'; cases m0' <;> simp [encM, encP, Pt.ren, Function.comp_def]; done) | (subst he0; cases m0 <;> simp [encM, encP, Pt.ren, Function.comp_def]; done) | (subst he0; simp only [mput_enc]; generalize put _ _ _ = q; cases q <;> simp [encM, encP, Pt.ren, Function.comp_def]; done)
       case ib => first | (subst he1'; cases m1' <;> simp [encM, encP, Pt.ren, Function.comp_def]; done) | (subst he1; cases m1 <;> simp [encM, encP, Pt.ren, Function.comp_def]; done) | (subst he1; simp only [mput_enc]; generalize put _ _ _ = q; cases q <;> simp [encM, encP, Pt.ren, Function.comp_def]; done)
       try case ic => first | exact hx' | (subst hx; rfl) | (subst hx; simp [Lt.av]; done)
       case id => first | exact hN' | exact hN | (unfold IsLen at hN ⊢; subst hx; simp; done) | (unfold IsLen at hN ⊢; subst hx; simp; omega))
    | (refine KeepQ.mk [5] (by decide) ?_
       cbv
       subst hJ
       try simp only [std, stdOps] at *
       first
         | refine h4 _ _ _ _ _ _ _ _ _ _ _ _ _ _ _ _ _ _ _ _ _ _ _ _ _ _ _ _ _ _ _ _ ?ia ?ib ?ic ?id (hinv'.up (Int.le_refl _))
         | refine h4 _ _ _ _ _ _ _ _ _ _ _ _ _ _ _ _ _ _ _ _ _ _ _ _ _ _ _ _ _ _ _ _ ?ia ?ib ?ic ?id (hinv.up (by omega))
         | refine h4 _ _ _ _ _ _ _ _ _ _ _ _ _ _ _ _ _ _ _ _ _ _ _ _ _ _ _ _ _ _ _ _ ?ia ?ib ?ic ?id (fin_tick0 hinv hn (and_15 _) (by assumption))
         | refine h4 _ _ _ _ _ _ _ _ _ _ _ _ _ _ _ _ _ _ _ _ _ _ _ _ _ _ _ _ _ _ _ _ ?ia ?ib ?ic ?id (fin_arb hinv hn (and_15 mn) (by assumption) (arb_ok hinv hn (and_15 mn)))
         | refine h4 _ _ _ _ _ _ _ _ _ _ _ _ _ _ _ _ _ _ _ _ _ _ _ _ _ _ _ _ _ _ _ _ ?ia ?ib ?ic ?id (fin_askno0 hinv (by assumption) (by assumption))
         | refine h4 _ _ _ _ _ _ _ _ _ _ _ _ _ _ _ _ _ _ _ _ _ _ _ _ _ _ _ _ _ _ _ _ ?ia ?ib ?ic ?id (fin_ask0 hinv hn (by assumption) (by assumption))
         | refine h4 _ _ _ _ _ _ _ _ _ _ _ _ _ _ _ _ _ _ _ _ _ _ _ _ _ _ _ _ _ _ _ _ ?ia ?ib (apnd_eq hx) ?id (fin_yield0 hinv (by assumption) (by decide))
         | refine h4 _ _ _ _ _ _ _ _ _ _ _ _ _ _ _ _ _ _ _ _ _ _ _ _ _ _ _ _ _ _ _ _ ?ia ?ib ?ic ?id (fin_tick1 hinv hn (and_15 _) (by assumption))
         | refine h4 _ _ _ _ _ _ _ _ _ _ _ _ _ _ _ _ _ _ _ _ _ _ _ _ _ _ _ _ _ _ _ _ ?ia ?ib ?ic ?id (fin_askno1 hinv (by assumption) (by assumption))
         | refine h4 _ _ _ _ _ _ _ _ _ _ _ _ _ _ _ _ _ _ _ _ _ _ _ _ _ _ _ _ _ _ _ _ ?ia ?ib ?ic ?id (fin_ask1 hinv hn (by assumption) (by assumption))
         | refine h4 _ _ _ _ _ _ _ _ _ _ _ _ _ _ _ _ _ _ _ _ _ _ _ _ _ _ _ _ _ _ _ _ ?ia ?ib (apnd_eq hx) ?id (fin_yield1 hinv (by assumption) (by decide))
       case ia => first | (subst he0'; cases m0' <;> simp [encM, encP, Pt.ren, Function.comp_def]; done) | (subst he0; cases m0 <;> simp [encM, encP, Pt.ren, Function.comp_def]; done) | (subst he0; simp only [mput_enc]; generalize put _ _ _ = q; cases q <;> simp [encM, encP, Pt.ren, Function.comp_def]; done)
       case ib => first | (subst he1'; cases m1' <;> simp [encM, encP, Pt.ren, Function.comp_def]; done) | (subst he1; cases m1 <;> simp [encM, encP, Pt.ren, Function.comp_def]; done) | (subst he1; simp only [mput_enc]; generalize put _ _ _ = q; cases q <;> simp [encM, encP, Pt.ren, Function.comp_def]; done)
       try case ic => first | exact hx' | (subst hx; rfl) | (subst hx; simp [Lt.av]; done)
       case id => first | exact hN' | exact hN | (unfold IsLen at hN ⊢; subst hx; simp; done) | (unfold IsLen at hN ⊢; subst hx; simp; omega))
    | (refine KeepQ.mk [6] (by decide) ?_
       cbv
       subst hJ
       try simp only [std, stdOps] at *
       first
         | refine h4 _ _ _ _ _ _ _ _ _ _ _ _ _ _ _ _ _ _ _ _ _ _ _ _ _ _ _ _ _ _ _ _ ?ia ?ib ?ic ?id (hinv'.up (Int.le_refl _))
         | refine h4 _ _ _ _ _ _ _ _ _ _ _ _ _ _ _ _ _ _ _ _ _ _ _ _ _ _ _ _ _ _ _ _ ?ia ?ib ?ic ?id (hinv.up (by omega))
         | refine h4 _ _ _ _ _ _ _ _ _ _ _ _ _ _ _ _ _ _ _ _ _ _ _ _ _ _ _ _ _ _ _ _ ?ia ?ib ?ic ?id (fin_tick0 hinv hn (and_15 _) (by assumption))
         | refine h4 _ _ _ _ _ _ _ _ _ _ _ _ _ _ _ _ _ _ _ _ _ _ _ _ _ _ _ _ _ _ _ _ ?ia ?ib ?ic ?id (fin_arb hinv hn (and_15 mn) (by assumption) (arb_ok hinv hn (and_15 mn)))
         | refine h4 _ _ _ _ _ _ _ _ _ _ _ _ _ _ _ _ _ _ _ _ _ _ _ _ _ _ _ _ _ _ _ _ ?ia ?ib ?ic ?id (fin_askno0 hinv (by assumption) (by assumption))
         | refine h4 _ _ _ _ _ _ _ _ _ _ _ _ _ _ _ _ _ _ _ _ _ _ _ _ _ _ _ _ _ _ _ _ ?ia ?ib ?ic ?id (fin_ask0 hinv hn (by assumption) (by assumption))
         | refine h4 _ _ _ _ _ _ _ _ _ _ _ _ _ _ _ _ _ _ _ _ _ _ _ _ _ _ _ _ _ _ _ _ ?ia ?ib (apnd_eq hx) ?id (fin_yield0 hinv (by assumption) (by decide))
         | refine h4 _ _ _ _ _ _ _ _ _ _ _ _ _ _ _ _ _ _ _ _ _ _ _ _ _ _ _ _ _ _ _ _ ?ia ?ib ?ic ?id (fin_tick1 hinv hn (and_15 _) (by assumption))
         | refine h4 _ _ _ _ _ _ _ _ _ _ _ _ _ _ _ _ _ _ _ _ _ _ _ _ _ _ _ _ _ _ _ _ ?ia ?ib ?ic ?id (fin_askno1 hinv (by assumption) (by assumption))
         | refine h4 _ _ _ _ _ _ _ _ _ _ _ _ _ _ _ _ _ _ _ _ _ _ _ _ _ _ _ _ _ _ _ _ ?ia ?ib ?ic ?id (fin_ask1 hinv hn (by assumption) (by assumption))
         | refine h4 _ _ _ _ _ _ _ _ _ _ _ _ _ _ _ _ _ _ _ _ _ _ _ _ _ _ _ _ _ _ _ _ ?ia ?ib (apnd_eq hx) ?id (fin_yield1 hinv (by assumption) (by decide))
       case ia => first | (subst he0'; cases m0' <;> simp [encM, encP, Pt.ren, Function.comp_def]; done) | (subst he0; cases m0 <;> simp [encM, encP, Pt.ren, Function.comp_def]; done) | (subst he0; simp only [mput_enc]; generalize put _ _ _ = q; cases q <;> simp [encM, encP, Pt.ren, Function.comp_def]; done)
       case ib => first | (subst he1'; cases m1' <;> simp [encM, encP, Pt.ren, Function.comp_def]; done) | (subst he1; cases m1 <;> simp [encM, encP, Pt.ren, Function.comp_def]; done) | (subst he1; simp only [mput_enc]; generalize put _ _ _ = q; cases q <;> simp [encM, encP, Pt.ren, Function.comp_def]; done)
       try case ic => first | exact hx' | (subst hx; rfl) | (subst hx; simp [Lt.av]; done)
       case id => first | exact hN' | exact hN | (unfold IsLen at hN ⊢; subst hx; simp; done) | (unfold IsLen at hN ⊢; subst hx; simp; omega))
    | (refine KeepQ.mk [7] (by decide) ?_
       cbv
       subst hJ
       try simp only [std, stdOps] at *
       first
         | refine h4 _ _ _ _ _ _ _ _ _ _ _ _ _ _ _ _ _ _ _ _ _ _ _ _ _ _ _ _ _ _ _ _ ?ia ?ib ?ic ?id (hinv'.up (Int.le_refl _))
         | refine h4 _ _ _ _ _ _ _ _ _ _ _ _ _ _ _ _ _ _ _ _ _ _ _ _ _ _ _ _ _ _ _ _ ?ia ?ib ?ic ?id (hinv.up (by omega))
         | refine h4 _ _ _ _ _ _ _ _ _ _ _ _ _ _ _ _ _ _ _ _ _ _ _ _ _ _ _ _ _ _ _ _ ?ia ?ib ?ic ?id (fin_tick0 hinv hn (and_15 _) (by assumption))
         | refine h4 _ _ _ _ _ _ _ _ _ _ _ _ _ _ _ _ _ _ _ _ _ _ _ _ _ _ _ _ _ _ _ _ ?ia ?ib ?ic ?id (fin_arb hinv hn (and_15 mn) (by assumption) (arb_ok hinv hn (and_15 mn)))
         | refine h4 _ _ _ _ _ _ _ _ _ _ _ _ _ _ _ _ _ _ _ _ _ _ _ _ _ _ _ _ _ _ _ _ ?ia ?ib ?ic ?id (fin_askno0 hinv (by assumption) (by assumption))
         | refine h4 _ _ _ _ _ _ _ _ _ _ _ _ _ _ _ _ _ _ _ _ _ _ _ _ _ _ _ _ _ _ _ _ ?ia ?ib ?ic ?id (fin_ask0 hinv hn (by assumption) (by assumption))
         | refine h4 _ _ _ _ _ _ _ _ _ _ _ _ _ _ _ _ _ _ _ _ _ _ _ _ _ _ _ _ _ _ _ _ ?ia ?ib (apnd_eq hx) ?id (fin_yield0 hinv (by assumption) (by decide))
         | refine h4 _ _ _ _ _ _ _ _ _ _ _ _ _ _ _ _ _ _ _ _ _ _ _ _ _ _ _ _ _ _ _ _ ?ia ?ib ?ic ?id (fin_tick1 hinv hn (and_15 _) (by assumption))
         | refine h4 _ _ _ _ _ _ _ _ _ _ _ _ _ _ _ _ _ _ _ _ _ _ _ _ _ _ _ _ _ _ _ _ ?ia ?ib ?ic ?id (fin_askno1 hinv (by assumption) (by assumption))
         | refine h4 _ _ _ _ _ _ _ _ _ _ _ _ _ _ _ _ _ _ _ _ _ _ _ _ _ _ _ _ _ _ _ _ ?ia ?ib ?ic ?id (fin_ask1 hinv hn (by assumption) (by assumption))
         | refine h4 _ _ _ _ _ _ _ _ _ _ _ _ _ _ _ _ _ _ _ _ _ _ _ _ _ _ _ _ _ _ _ _ ?ia ?ib (apnd_eq hx) ?id (fin_yield1 hinv (by assumption) (by decide))
       case ia => first | (subst he0'; cases m0' <;> simp [encM, encP, Pt.ren, Function.comp_def]; done) | (subst he0; cases m0 <;> simp [encM, encP, Pt.ren, Function.comp_def]; done) | (subst he0; simp only [mput_enc]; generalize put _ _ _ = q; cases q <;> simp [encM, encP, Pt.ren, Function.comp_def]; done)
       case ib => first | (subst he1'; cases m1' <;> simp [encM, encP, Pt.ren, Function.comp_def]; done) | (subst he1; cases m1 <;> simp [encM, encP, Pt.ren, Function.comp_def]; done) | (subst he1; simp only [mput_enc]; generalize put _ _ _ = q; cases q <;> simp [encM, encP, Pt.ren, Function.comp_def]; done)
       try case ic => first | exact hx' | (subst hx; rfl) | (subst hx; simp [Lt.av]; done)
       case id => first | exact hN' | exact hN | (unfold IsLen at hN ⊢; subst hx; simp; done) | (unfold IsLen at hN ⊢; subst hx; simp; omega))
    | (subst hJ; simp only [std, stdOps]; done)
    | (subst hJ; simp only [std, stdOps]; exact (and_15 _).1)
    | (subst hJ; simp only [std, stdOps]; exact Int.le_trans (and_15 mn).2 (by decide))
    | (subst hJ; simp only [std, stdOps] at *; first
      | exact mok_enc' he0
      | exact mok_enc' he1
      | decide
      | exact and_1 _
      | (unfold Len at hl; unfold IsLen at hN; subst hx; simp; omega)
      | exact (pick_at hl hN hn (by assumption)).1
      | exact (pick_at hl hN hn (by assumption)).2
      | exact pick_sum hl hN hn hx (by assumption)
      | exact pick_at hl hN hn (by assumption)
      | exact pick_one hl hN hn (by assumption)
      | (unfold Len at hl; unfold IsLen at hN; refine pick_ok ?_ ?_ <;> simp at * <;> omega)
      | (unfold Len at hl; unfold IsLen at hN; rw [wrapU (by omega) (by omega)]; simp at *; omega))
end Go.Proofs.Ytilffanmaicakaa.A
