/- What comes does. -/
import Derived.Test.YtilffanmaicakaaNvPlain2
namespace Go.Proofs.Ytilffanmaicakaa.A
open Go Go.Pt Go.Gd Go.Ls Go.Nv

set_option maxHeartbeats 8000000 in
set_option maxRecDepth 100000 in
theorem comes_call (c0 e0 u0 s0 k0 a0 c1 e1 u1 s1 k1 a1 lo lp le lc lu clk qa0 qo0 qa1 qo1 : Int) (lz h0 h1 : Bool) (m0 m1 : List (Int × Int × Int)) (n : Int) (B bag : List Lt) (N : Int) (xs : List AV) (es0 es1 : List (AV × AV)) (he0 : es0 = encM m0) (he1 : es1 = encM m1) (hx : xs = bag.map Lt.av) (hN : IsLen N bag) (hn : 0 ≤ n ∧ n < 400) (hB : ∀ w ∈ bag, w ∈ B) (hl : Len bag n) (hinv : Inv n ⟨⟨c0, e0, u0, s0, k0, a0⟩, m0, qa0, qo0, h0⟩ ⟨⟨c1, e1, u1, s1, k1, a1⟩, m1, qa1, qo1, h1⟩ ⟨lo, lp, le, lc, lu, lz⟩ B clk) (zr : Int) (zb : Bool) (zk zs ze : Int) (hz : ⟨zr, zb, zk, zs, ze⟩ ∈ B) (hr : zr = 0 ∨ zr = 1) (K E)
    (h3 : ∀ (c0' e0' u0' s0' k0' a0' c1' e1' u1' s1' k1' a1' lo' lp' le' lc' lu' clk' qa0' qo0' qa1' qo1' : Int) (lz' h0' h1' : Bool) (m0' m1' : List (Int × Int × Int)) (bag' : List Lt) (N' : Int) (ys' : List AV) (es0' es1' : List (AV × AV)), es0' = encM m0' → es1' = encM m1' → ys' = bag'.map Lt.av → IsLen N' bag' → Inv (n + 1) ⟨⟨c0', e0', u0', s0', k0', a0'⟩, m0', qa0', qo0', h0'⟩ ⟨⟨c1', e1', u1', s1', k1', a1'⟩, m1', qa1', qo1', h1'⟩ ⟨lo', lp', le', lc', lu', lz'⟩ bag' clk' → K (.tup []) [.var [.int .i64 c0', .int .i64 e0', .int .i64 u0', .int .i64 s0', .int .i64 k0', .int .i64 a0', .int .i64 c1', .int .i64 e1', .int .i64 u1', .int .i64 s1', .int .i64 k1', .int .i64 a1', .int .i64 lo', .int .i64 lp', .int .i64 le', .int .i64 lc', .int .i64 lu', .bool lz', .vs 3 5 0 N' N', .int .i64 clk', .mp 1, .mp 2, .int .i64 qa0', .int .i64 qo0', .int .i64 qa1', .int .i64 qo1', .bool h0', .bool h1'], .mp es0', .mp es1', .vec 5 ys'])
    (h4 : ∀ (c0' e0' u0' s0' k0' a0' c1' e1' u1' s1' k1' a1' lo' lp' le' lc' lu' clk' qa0' qo0' qa1' qo1' : Int) (lz' h0' h1' : Bool) (m0' m1' : List (Int × Int × Int)) (bag' : List Lt) (N' : Int) (ys' : List AV) (es0' es1' : List (AV × AV)), es0' = encM m0' → es1' = encM m1' → ys' = bag'.map Lt.av → IsLen N' bag' → Inv (n + 1) ⟨⟨c0', e0', u0', s0', k0', a0'⟩, m0', qa0', qo0', h0'⟩ ⟨⟨c1', e1', u1', s1', k1', a1'⟩, m1', qa1', qo1', h1'⟩ ⟨lo', lp', le', lc', lu', lz'⟩ bag' clk' → K (.tup []) [.var [.int .i64 c0', .int .i64 e0', .int .i64 u0', .int .i64 s0', .int .i64 k0', .int .i64 a0', .int .i64 c1', .int .i64 e1', .int .i64 u1', .int .i64 s1', .int .i64 k1', .int .i64 a1', .int .i64 lo', .int .i64 lp', .int .i64 le', .int .i64 lc', .int .i64 lu', .bool lz', .vs 4 5 0 N' N', .int .i64 clk', .mp 1, .mp 2, .int .i64 qa0', .int .i64 qo0', .int .i64 qa1', .int .i64 qo1', .bool h0', .bool h1'], .mp es0', .mp es1', .dead, .vec 5 ys']) :
    CallA Try.prog 64 [.ptr 0 0, .agg [.int .i64 zr, .bool zb, .int .i64 zk, .int .i64 zs, .int .i64 ze]] [.var [.int .i64 c0, .int .i64 e0, .int .i64 u0, .int .i64 s0, .int .i64 k0, .int .i64 a0, .int .i64 c1, .int .i64 e1, .int .i64 u1, .int .i64 s1, .int .i64 k1, .int .i64 a1, .int .i64 lo, .int .i64 lp, .int .i64 le, .int .i64 lc, .int .i64 lu, .bool lz, .vs 3 5 0 N N, .int .i64 clk, .mp 1, .mp 2, .int .i64 qa0, .int .i64 qo0, .int .i64 qa1, .int .i64 qo1, .bool h0, .bool h1], .mp es0, .mp es1, .vec 5 xs] K E := by
  rcases hr with rfl | rfl
  · refine call_keep (n₀ := 4) tabA_ok Try.func64 rfl rfl rfl rfl ?_
    intro J hJ
    cbv
    repeat' (first
      | with_reducible exact id
      | exact trivial
      | with_reducible refine look_in hJ he0 ?_
      | with_reducible refine look_in hJ he1 ?_
      | with_reducible refine look_no hJ he0 ?_
      | with_reducible refine look_no hJ he1 ?_
      | with_reducible refine elem_in hJ hx ?_
      | intro hh
      | (with_reducible refine refused_at hJ ?_; intros)
      | (with_reducible refine granted_at hJ ?_; intros)
      | (with_reducible refine ls_acquire_at hJ ?_; intros)
      | (with_reducible refine ls_renew_at hJ ?_; intros)
      | (with_reducible refine ls_release_at hJ ?_; intros)
      | (with_reducible refine ls_transfer_at hJ ?_; intros)
      | (with_reducible refine tick_at hJ ?_; intros)
      | (with_reducible refine ls_tick_at hJ ?_ ?_; intros)
      | (with_reducible refine ask_at hJ ?_; intros)
      | (with_reducible refine yield_at hJ ?_; intros)
      | (with_reducible refine granted_pure hJ ?_; intros)
      | with_reducible refine And.intro ?_ ?_
      | (with_reducible first | refine awp_go ?_ | refine aops_go ?_ | refine strip_go ?_ | refine draw_go ?_ | refine frames_go ?_); cbv)
    all_goals first
      | (subst hJ; exfalso; simp only [std, stdOps] at *; exact fin_none0 hinv hz (by assumption) (by assumption) (by assumption) (by assumption) (by assumption))
      | (refine KeepQ.mk [] (by decide) ?_
         cbv
         subst hJ
         try simp only [std, stdOps] at *
         first
           | refine h3 _ _ _ _ _ _ _ _ _ _ _ _ _ _ _ _ _ _ _ _ _ _ _ _ _ _ _ _ _ _ _ _ ?ia ?ib ?ic ?id (fin_same hinv hB hl)
           | refine h3 _ _ _ _ _ _ _ _ _ _ _ _ _ _ _ _ _ _ _ _ _ _ _ _ _ _ _ _ _ _ _ _ ?ia ?ib ?ic ?id (fin_ref0 hinv hB hl (by assumption))
           | refine h3 _ _ _ _ _ _ _ _ _ _ _ _ _ _ _ _ _ _ _ _ _ _ _ _ _ _ _ _ _ _ _ _ ?ia ?ib ?ic ?id (fin_no0 hinv hB hl (by assumption) (by assumption))
           | refine h3 _ _ _ _ _ _ _ _ _ _ _ _ _ _ _ _ _ _ _ _ _ _ _ _ _ _ _ _ _ _ _ _ ?ia ?ib ?ic ?id (fin_gr0 hinv hB hl hz (by assumption) (by assumption) (by assumption) (by assumption) (by assumption))
           | refine h3 _ _ _ _ _ _ _ _ _ _ _ _ _ _ _ _ _ _ _ _ _ _ _ _ _ _ _ _ _ _ _ _ ?ia ?ib ?ic ?id (fin_acq (k := 0) (.inl rfl) hinv hn hB hl hz (by assumption) (by grind))
           | refine h3 _ _ _ _ _ _ _ _ _ _ _ _ _ _ _ _ _ _ _ _ _ _ _ _ _ _ _ _ _ _ _ _ ?ia ?ib ?ic ?id (fin_acq (k := 1) (.inl rfl) hinv hn hB hl hz (by assumption) (by grind))
           | refine h3 _ _ _ _ _ _ _ _ _ _ _ _ _ _ _ _ _ _ _ _ _ _ _ _ _ _ _ _ _ _ _ _ ?ia ?ib ?ic ?id (fin_ren (k := 0) (.inl rfl) hinv hn hB hl hz (by assumption) (by assumption) (by assumption) (by grind))
           | refine h3 _ _ _ _ _ _ _ _ _ _ _ _ _ _ _ _ _ _ _ _ _ _ _ _ _ _ _ _ _ _ _ _ ?ia ?ib ?ic ?id (fin_ren (k := 1) (.inl rfl) hinv hn hB hl hz (by assumption) (by assumption) (by assumption) (by grind))
           | refine h3 _ _ _ _ _ _ _ _ _ _ _ _ _ _ _ _ _ _ _ _ _ _ _ _ _ _ _ _ _ _ _ _ ?ia ?ib ?ic ?id (fin_rel (.inl rfl) hinv hB hl hz (by assumption) (by assumption) (by assumption) (by assumption))
           | refine h3 _ _ _ _ _ _ _ _ _ _ _ _ _ _ _ _ _ _ _ _ _ _ _ _ _ _ _ _ _ _ _ _ ?ia ?ib ?ic ?id (fin_tra (.inl rfl) hinv hn hB hl hz (by assumption) (by assumption) (by assumption) (by assumption) (by first | rfl | decide))
         case ia => subst he0; cases m0 <;> simp [encM, encP, Pt.ren, Function.comp_def]
         case ib => subst he1; cases m1 <;> simp [encM, encP, Pt.ren, Function.comp_def]
         case ic => subst hx; first | rfl | (simp [Lt.av]; done)
         case id => first | exact hN | (unfold IsLen at hN ⊢; subst hx; simp; done) | (unfold IsLen at hN ⊢; subst hx; simp; omega))
      | (refine KeepQ.mk [6] (by decide) ?_
         cbv
         subst hJ
         try simp only [std, stdOps] at *
         first
           | refine h4 _ _ _ _ _ _ _ _ _ _ _ _ _ _ _ _ _ _ _ _ _ _ _ _ _ _ _ _ _ _ _ _ ?ia ?ib ?ic ?id (fin_same hinv hB hl)
           | refine h4 _ _ _ _ _ _ _ _ _ _ _ _ _ _ _ _ _ _ _ _ _ _ _ _ _ _ _ _ _ _ _ _ ?ia ?ib ?ic ?id (fin_ref0 hinv hB hl (by assumption))
           | refine h4 _ _ _ _ _ _ _ _ _ _ _ _ _ _ _ _ _ _ _ _ _ _ _ _ _ _ _ _ _ _ _ _ ?ia ?ib ?ic ?id (fin_no0 hinv hB hl (by assumption) (by assumption))
           | refine h4 _ _ _ _ _ _ _ _ _ _ _ _ _ _ _ _ _ _ _ _ _ _ _ _ _ _ _ _ _ _ _ _ ?ia ?ib ?ic ?id (fin_gr0 hinv hB hl hz (by assumption) (by assumption) (by assumption) (by assumption) (by assumption))
           | refine h4 _ _ _ _ _ _ _ _ _ _ _ _ _ _ _ _ _ _ _ _ _ _ _ _ _ _ _ _ _ _ _ _ ?ia ?ib ?ic ?id (fin_acq (k := 0) (.inl rfl) hinv hn hB hl hz (by assumption) (by grind))
           | refine h4 _ _ _ _ _ _ _ _ _ _ _ _ _ _ _ _ _ _ _ _ _ _ _ _ _ _ _ _ _ _ _ _ ?ia ?ib ?ic ?id (fin_acq (k := 1) (.inl rfl) hinv hn hB hl hz (by assumption) (by grind))
           | refine h4 _ _ _ _ _ _ _ _ _ _ _ _ _ _ _ _ _ _ _ _ _ _ _ _ _ _ _ _ _ _ _ _ ?ia ?ib ?ic ?id (fin_ren (k := 0) (.inl rfl) hinv hn hB hl hz (by assumption) (by assumption) (by assumption) (by grind))
           | refine h4 _ _ _ _ _ _ _ _ _ _ _ _ _ _ _ _ _ _ _ _ _ _ _ _ _ _ _ _ _ _ _ _ ?ia ?ib ?ic ?id (fin_ren (k := 1) (.inl rfl) hinv hn hB hl hz (by assumption) (by assumption) (by assumption) (by grind))
           | refine h4 _ _ _ _ _ _ _ _ _ _ _ _ _ _ _ _ _ _ _ _ _ _ _ _ _ _ _ _ _ _ _ _ ?ia ?ib ?ic ?id (fin_rel (.inl rfl) hinv hB hl hz (by assumption) (by assumption) (by assumption) (by assumption))
           | refine h4 _ _ _ _ _ _ _ _ _ _ _ _ _ _ _ _ _ _ _ _ _ _ _ _ _ _ _ _ _ _ _ _ ?ia ?ib ?ic ?id (fin_tra (.inl rfl) hinv hn hB hl hz (by assumption) (by assumption) (by assumption) (by assumption) (by first | rfl | decide))
         case ia => subst he0; cases m0 <;> simp [encM, encP, Pt.ren, Function.comp_def]
         case ib => subst he1; cases m1 <;> simp [encM, encP, Pt.ren, Function.comp_def]
         case ic => subst hx; first | rfl | (simp [Lt.av]; done)
         case id => first | exact hN | (unfold IsLen at hN ⊢; subst hx; simp; done) | (unfold IsLen at hN ⊢; subst hx; simp; omega))
      | (subst hJ; simp only [std, stdOps]; done)
      | (subst hJ; simp only [std, stdOps]; first
        | exact mok_enc' he0
        | exact mok_enc' he1
        | decide
        | (unfold Len at hl; unfold IsLen at hN; subst hx; simp; omega))
      | skip


  · refine call_keep (n₀ := 4) tabA_ok Try.func64 rfl rfl rfl rfl ?_
    intro J hJ
    cbv
    repeat' (first
      | with_reducible exact id
      | exact trivial
      | with_reducible refine look_in hJ he0 ?_
      | with_reducible refine look_in hJ he1 ?_
      | with_reducible refine look_no hJ he0 ?_
      | with_reducible refine look_no hJ he1 ?_
      | with_reducible refine elem_in hJ hx ?_
      | intro hh
      | (with_reducible refine refused_at hJ ?_; intros)
      | (with_reducible refine granted_at hJ ?_; intros)
      | (with_reducible refine ls_acquire_at hJ ?_; intros)
      | (with_reducible refine ls_renew_at hJ ?_; intros)
      | (with_reducible refine ls_release_at hJ ?_; intros)
      | (with_reducible refine ls_transfer_at hJ ?_; intros)
      | (with_reducible refine tick_at hJ ?_; intros)
      | (with_reducible refine ls_tick_at hJ ?_ ?_; intros)
      | (with_reducible refine ask_at hJ ?_; intros)
      | (with_reducible refine yield_at hJ ?_; intros)
      | (with_reducible refine granted_pure hJ ?_; intros)
      | with_reducible refine And.intro ?_ ?_
      | (with_reducible first | refine awp_go ?_ | refine aops_go ?_ | refine strip_go ?_ | refine draw_go ?_ | refine frames_go ?_); cbv)
    all_goals first
      | (subst hJ; exfalso; simp only [std, stdOps] at *; exact fin_none1 hinv hz (by assumption) (by assumption) (by assumption) (by assumption) (by assumption))
      | (refine KeepQ.mk [] (by decide) ?_
         cbv
         subst hJ
         try simp only [std, stdOps] at *
         first
           | refine h3 _ _ _ _ _ _ _ _ _ _ _ _ _ _ _ _ _ _ _ _ _ _ _ _ _ _ _ _ _ _ _ _ ?ia ?ib ?ic ?id (fin_same hinv hB hl)
           | refine h3 _ _ _ _ _ _ _ _ _ _ _ _ _ _ _ _ _ _ _ _ _ _ _ _ _ _ _ _ _ _ _ _ ?ia ?ib ?ic ?id (fin_ref1 hinv hB hl (by assumption))
           | refine h3 _ _ _ _ _ _ _ _ _ _ _ _ _ _ _ _ _ _ _ _ _ _ _ _ _ _ _ _ _ _ _ _ ?ia ?ib ?ic ?id (fin_no1 hinv hB hl (by assumption) (by assumption))
           | refine h3 _ _ _ _ _ _ _ _ _ _ _ _ _ _ _ _ _ _ _ _ _ _ _ _ _ _ _ _ _ _ _ _ ?ia ?ib ?ic ?id (fin_gr1 hinv hB hl hz (by assumption) (by assumption) (by assumption) (by assumption) (by assumption))
           | refine h3 _ _ _ _ _ _ _ _ _ _ _ _ _ _ _ _ _ _ _ _ _ _ _ _ _ _ _ _ _ _ _ _ ?ia ?ib ?ic ?id (fin_acq (k := 0) (.inr rfl) hinv hn hB hl hz (by assumption) (by grind))
           | refine h3 _ _ _ _ _ _ _ _ _ _ _ _ _ _ _ _ _ _ _ _ _ _ _ _ _ _ _ _ _ _ _ _ ?ia ?ib ?ic ?id (fin_acq (k := 1) (.inr rfl) hinv hn hB hl hz (by assumption) (by grind))
           | refine h3 _ _ _ _ _ _ _ _ _ _ _ _ _ _ _ _ _ _ _ _ _ _ _ _ _ _ _ _ _ _ _ _ ?ia ?ib ?ic ?id (fin_ren (k := 0) (.inr rfl) hinv hn hB hl hz (by assumption) (by assumption) (by assumption) (by grind))
           | refine h3 _ _ _ _ _ _ _ _ _ _ _ _ _ _ _ _ _ _ _ _ _ _ _ _ _ _ _ _ _ _ _ _ ?ia ?ib ?ic ?id (fin_ren (k := 1) (.inr rfl) hinv hn hB hl hz (by assumption) (by assumption) (by assumption) (by grind))
           | refine h3 _ _ _ _ _ _ _ _ _ _ _ _ _ _ _ _ _ _ _ _ _ _ _ _ _ _ _ _ _ _ _ _ ?ia ?ib ?ic ?id (fin_rel (.inr rfl) hinv hB hl hz (by assumption) (by assumption) (by assumption) (by assumption))
           | refine h3 _ _ _ _ _ _ _ _ _ _ _ _ _ _ _ _ _ _ _ _ _ _ _ _ _ _ _ _ _ _ _ _ ?ia ?ib ?ic ?id (fin_tra (.inr rfl) hinv hn hB hl hz (by assumption) (by assumption) (by assumption) (by assumption) (by first | rfl | decide))
         case ia => subst he0; cases m0 <;> simp [encM, encP, Pt.ren, Function.comp_def]
         case ib => subst he1; cases m1 <;> simp [encM, encP, Pt.ren, Function.comp_def]
         case ic => subst hx; first | rfl | (simp [Lt.av]; done)
         case id => first | exact hN | (unfold IsLen at hN ⊢; subst hx; simp; done) | (unfold IsLen at hN ⊢; subst hx; simp; omega))
      | (refine KeepQ.mk [6] (by decide) ?_
         cbv
         subst hJ
         try simp only [std, stdOps] at *
         first
           | refine h4 _ _ _ _ _ _ _ _ _ _ _ _ _ _ _ _ _ _ _ _ _ _ _ _ _ _ _ _ _ _ _ _ ?ia ?ib ?ic ?id (fin_same hinv hB hl)
           | refine h4 _ _ _ _ _ _ _ _ _ _ _ _ _ _ _ _ _ _ _ _ _ _ _ _ _ _ _ _ _ _ _ _ ?ia ?ib ?ic ?id (fin_ref1 hinv hB hl (by assumption))
           | refine h4 _ _ _ _ _ _ _ _ _ _ _ _ _ _ _ _ _ _ _ _ _ _ _ _ _ _ _ _ _ _ _ _ ?ia ?ib ?ic ?id (fin_no1 hinv hB hl (by assumption) (by assumption))
           | refine h4 _ _ _ _ _ _ _ _ _ _ _ _ _ _ _ _ _ _ _ _ _ _ _ _ _ _ _ _ _ _ _ _ ?ia ?ib ?ic ?id (fin_gr1 hinv hB hl hz (by assumption) (by assumption) (by assumption) (by assumption) (by assumption))
           | refine h4 _ _ _ _ _ _ _ _ _ _ _ _ _ _ _ _ _ _ _ _ _ _ _ _ _ _ _ _ _ _ _ _ ?ia ?ib ?ic ?id (fin_acq (k := 0) (.inr rfl) hinv hn hB hl hz (by assumption) (by grind))
           | refine h4 _ _ _ _ _ _ _ _ _ _ _ _ _ _ _ _ _ _ _ _ _ _ _ _ _ _ _ _ _ _ _ _ ?ia ?ib ?ic ?id (fin_acq (k := 1) (.inr rfl) hinv hn hB hl hz (by assumption) (by grind))
           | refine h4 _ _ _ _ _ _ _ _ _ _ _ _ _ _ _ _ _ _ _ _ _ _ _ _ _ _ _ _ _ _ _ _ ?ia ?ib ?ic ?id (fin_ren (k := 0) (.inr rfl) hinv hn hB hl hz (by assumption) (by assumption) (by assumption) (by grind))
           | refine h4 _ _ _ _ _ _ _ _ _ _ _ _ _ _ _ _ _ _ _ _ _ _ _ _ _ _ _ _ _ _ _ _ ?ia ?ib ?ic ?id (fin_ren (k := 1) (.inr rfl) hinv hn hB hl hz (by assumption) (by assumption) (by assumption) (by grind))
           | refine h4 _ _ _ _ _ _ _ _ _ _ _ _ _ _ _ _ _ _ _ _ _ _ _ _ _ _ _ _ _ _ _ _ ?ia ?ib ?ic ?id (fin_rel (.inr rfl) hinv hB hl hz (by assumption) (by assumption) (by assumption) (by assumption))
           | refine h4 _ _ _ _ _ _ _ _ _ _ _ _ _ _ _ _ _ _ _ _ _ _ _ _ _ _ _ _ _ _ _ _ ?ia ?ib ?ic ?id (fin_tra (.inr rfl) hinv hn hB hl hz (by assumption) (by assumption) (by assumption) (by assumption) (by first | rfl | decide))
         case ia => subst he0; cases m0 <;> simp [encM, encP, Pt.ren, Function.comp_def]
         case ib => subst he1; cases m1 <;> simp [encM, encP, Pt.ren, Function.comp_def]
         case ic => subst hx; first | rfl | (simp [Lt.av]; done)
         case id => first | exact hN | (unfold IsLen at hN ⊢; subst hx; simp; done) | (unfold IsLen at hN ⊢; subst hx; simp; omega))
      | (subst hJ; simp only [std, stdOps]; done)
      | (subst hJ; simp only [std, stdOps]; first
        | exact mok_enc' he0
        | exact mok_enc' he1
        | decide
        | (unfold Len at hl; unfold IsLen at hN; subst hx; simp; omega))
      | skip


end Go.Proofs.Ytilffanmaicakaa.A
