/- The law GraphFinds. -/
import Derived.Test.YtilffanmaicakaaGrSpecO
namespace Go.Proofs.Ytilffanmaicakaa.A
open Go Go.Pt Go.Gr

theorem to_at {J : Jd} {n₀ : Nat} (hJ : J = std Try.prog n₀) {n : Int} {l : List Gr.Op} {os : List AV} (hos : os = l.map Gr.Op.av) {L : Int} (hL : Ln L l) (hLL : L < 2 ^ 48) (hI : LnIn l) {ef ep : Int} {σ K E} (h : ∀ a b c, ToAt l ⟨ef, ep⟩ a b c → K (.tup [.int .i64 a, .int .i64 b, .bool c]) σ) : J.call 32 [.agg [.int .i64 n, .sl 5 os .no], .int .i64 ef, .int .i64 ep] σ K E := by
  subst hJ
  refine call_in (J := std Try.prog n₀) rfl [] (by simp) (by simp) (args' := [.agg [.int .i64 n, .sl 5 os .no], .int .i64 ef, .int .i64 ep]) (σ' := []) rfl rfl ?_
  refine to_call n ef ep l os hos L hL hLL hI _ _ fun a b c hc => ?_
  rw [back_nil]; exact h a b c hc

theorem to'_at {J : Jd} {n₀ : Nat} (hJ : J = std Try.prog n₀) {n : Int} {l : List Gr.Op} {os : List AV} (hos : os = l.map Gr.Op.av) {L : Int} (hL : Ln L l) (hLL : L < 2 ^ 48) (hI : LnIn l) {ef ep : Int} {σ K E} (h : ∀ a b c, ToAt l ⟨ef, ep⟩ a b c → K (.tup [.int .i64 a, .int .i64 b, .bool c]) σ) : J.call 33 [.agg [.int .i64 n, .sl 5 os .no], .int .i64 ef, .int .i64 ep] σ K E := by
  subst hJ
  refine call_in (J := std Try.prog n₀) rfl [] (by simp) (by simp) (args' := [.agg [.int .i64 n, .sl 5 os .no], .int .i64 ef, .int .i64 ep]) (σ' := []) rfl rfl ?_
  refine to'_call n ef ep l os hos L hL hLL hI _ _ fun a b c hc => ?_
  rw [back_nil]; exact h a b c hc

theorem source_at {J : Jd} {n₀ : Nat} (hJ : J = std Try.prog n₀) {n : Int} {l : List Gr.Op} {os : List AV} (hos : os = l.map Gr.Op.av) {L : Int} (hL : Ln L l) (hLL : L < 2 ^ 48) {s : Int} {σ K E} (h : ∀ r r2 b, SrcAt s l r → r2 = (if r < 0 then 0 else r) → b = decide (0 ≤ r) → K (.tup [.int .i64 r2, .bool b]) σ) : J.call 34 [.agg [.int .i64 n, .sl 5 os .no], .int .i64 s] σ K E := by
  subst hJ
  refine call_in (J := std Try.prog n₀) rfl [] (by simp) (by simp) (args' := [.agg [.int .i64 n, .sl 5 os .no], .int .i64 s]) (σ' := []) rfl rfl ?_
  refine source_call n s l os hos L hL hLL _ _ fun r r2 b h1 h2 h3 => ?_
  rw [back_nil]; exact h r r2 b h1 h2 h3

theorem source'_at {J : Jd} {n₀ : Nat} (hJ : J = std Try.prog n₀) {n : Int} {l : List Gr.Op} {os : List AV} (hos : os = l.map Gr.Op.av) {L : Int} (hL : Ln L l) (hLL : L < 2 ^ 48) {s : Int} {σ K E} (h : ∀ r r2 b, SrcAt s l r → r2 = (if r < 0 then 0 else r) → b = decide (0 ≤ r) → K (.tup [.int .i64 r2, .bool b]) σ) : J.call 35 [.agg [.int .i64 n, .sl 5 os .no], .int .i64 s] σ K E := by
  subst hJ
  refine call_in (J := std Try.prog n₀) rfl [] (by simp) (by simp) (args' := [.agg [.int .i64 n, .sl 5 os .no], .int .i64 s]) (σ' := []) rfl rfl ?_
  refine source'_call n s l os hos L hL hLL _ _ fun r r2 b h1 h2 h3 => ?_
  rw [back_nil]; exact h r r2 b h1 h2 h3

theorem sink'_at {J : Jd} {n₀ : Nat} (hJ : J = std Try.prog n₀) {n : Int} {l : List Gr.Op} {os : List AV} (hos : os = l.map Gr.Op.av) {L : Int} (hL : Ln L l) (hLL : L < 2 ^ 48) {σ K E} (h : ∀ r r2 b, SinkAt l r → r2 = (if r < 0 then 0 else r) → b = decide (0 ≤ r) → K (.tup [.int .i64 r2, .bool b]) σ) : J.call 36 [.agg [.int .i64 n, .sl 5 os .no]] σ K E := by
  subst hJ
  refine call_in (J := std Try.prog n₀) rfl [] (by simp) (by simp) (args' := [.agg [.int .i64 n, .sl 5 os .no]]) (σ' := []) rfl rfl ?_
  refine sink'_call n l os hos L hL hLL _ _ fun r r2 b h1 h2 h3 => ?_
  rw [back_nil]; exact h r r2 b h1 h2 h3

theorem edges05_at {J : Jd} {n₀ : Nat} (hJ : J = std Try.prog n₀) {n : Int} {l : List Gr.Op} {os : List AV} (hos : os = l.map Gr.Op.av) {L : Int} (hL : Ln L l) (hLL : L < 2 ^ 48) (hT : Tot l L) {σ K E} (h : ∀ xs ys, EdsIs l L xs ys → K (.tup [.sl 1 xs .no, .sl 2 ys .no]) σ) : J.call 30 [.agg [.int .i64 n, .sl 5 os .no]] σ K E := by
  subst hJ
  refine call_in (J := std Try.prog n₀) rfl [] (by simp) (by simp) (args' := [.agg [.int .i64 n, .sl 5 os .no]]) (σ' := []) rfl rfl ?_
  refine edges05_call n l os hos L hL hLL hT _ _ fun xs ys hE => ?_
  rw [back_nil]; exact h xs ys hE

theorem flat_split {l : List Gr.Op} {q : Nat} {o : Gr.Op} (ho : l[q]? = some o) : ∀ d, ∃ rest, flat l (q + 1 + d) = flat l q ++ o.i ++ rest
  | 0 => ⟨[], by rw [Nat.add_zero, flat_succ ho]; simp⟩
  | d + 1 => by
    obtain ⟨r, hr⟩ := flat_split ho d
    cases h : l[q + 1 + d]? with
    | none => exact ⟨r, by rw [← Nat.add_assoc, flat_none h, hr]⟩
    | some o' => exact ⟨r ++ o'.i, by rw [← Nat.add_assoc, flat_succ h, hr]; simp⟩
theorem ats_split {l : List Gr.Op} {q : Nat} {o : Gr.Op} (ho : l[q]? = some o) : ∀ d, ∃ rest, ats l (q + 1 + d) = ats l q ++ List.replicate o.i.length (q : Int) ++ rest
  | 0 => ⟨[], by simp [ats, ho]⟩
  | d + 1 => by
    obtain ⟨r, hr⟩ := ats_split ho d
    cases h : l[q + 1 + d]? with
    | none => exact ⟨r, by rw [← Nat.add_assoc]; simp [ats, h, hr]⟩
    | some o' => exact ⟨r ++ List.replicate o'.i.length ((q + 1 + d : Nat) : Int), by rw [← Nat.add_assoc]; simp [ats, h, hr]⟩
/-- What stands at a place of the two lists. -/
theorem flat_at {l : List Gr.Op} {L q j kk k p f a : Int} {oil : List Ed} (q0 : 0 ≤ q) (hq : q < L) (ho : l[q.toNat]? = some ⟨k, p, f, a, oil⟩) (j0 : 0 ≤ j) (hj : j < oil.length) (hk : kk = (flat l q.toNat).length + j) :
    (flat l L.toNat)[kk.toNat]? = oil[j.toNat]? ∧ (ats l L.toNat)[kk.toNat]? = some q := by
  obtain ⟨d, hd⟩ : ∃ d, L.toNat = q.toNat + 1 + d := ⟨L.toNat - (q.toNat + 1), by omega⟩
  obtain ⟨r, hr⟩ := flat_split ho d
  obtain ⟨r', hr'⟩ := ats_split ho d
  have e : kk.toNat = (flat l q.toNat).length + j.toNat := by omega
  rw [hd, hr, hr', e]
  refine ⟨?_, ?_⟩
  · rw [List.append_assoc, List.getElem?_append_right (by omega), List.getElem?_append_left (by simp only [Nat.add_sub_cancel_left]; omega), Nat.add_sub_cancel_left]
  · rw [List.append_assoc, List.getElem?_append_right (by rw [ats_len]; omega), ats_len, Nat.add_sub_cancel_left, List.getElem?_append_left (by simp; omega), List.getElem?_replicate, if_pos (by simp only; omega)]
    exact congrArg some (by omega)
theorem flat_lt {l : List Gr.Op} {L q k p f a : Int} {oil : List Ed} (q0 : 0 ≤ q) (hq : q < L) (ho : l[q.toNat]? = some ⟨k, p, f, a, oil⟩) : (flat l q.toNat).length + oil.length ≤ (flat l L.toNat).length := by
  have h2 := flat_le l (n := q.toNat + 1) (m := L.toNat) (by omega)
  rw [flat_succ ho] at h2
  simpa using h2
theorem int_in {J : Jd} {n₀ : Nat} (hJ : J = std Try.prog n₀) {is : List Int} {xs : List AV} (hxs : xs = is.map (AV.int .i64)) {i : Int} {K : AV → Prop} (h : ∀ v, is[i.toNat]? = some v → K (.int .i64 v)) : ∀ e, J.o.get xs i = some e → K e := by
  subst hJ hxs
  intro e he
  simp only [std, stdOps] at he
  rw [List.getElem?_map] at he
  obtain ⟨v, hv, rfl⟩ := Option.map_eq_some_iff.1 he
  exact h v hv

/-- How many inputs are ahead. -/
def KAt (l : List Gr.Op) (q j k : Int) : Prop := k = ((flat l q.toNat).length : Int) + j
theorem flat_next {l : List Gr.Op} {q q1 k p f a : Int} {oil : List Ed} (hq1 : q1 = q + 1) (q0 : 0 ≤ q) (ho : l[q.toNat]? = some ⟨k, p, f, a, oil⟩) : ((flat l q1.toNat).length : Int) = (flat l q.toNat).length + oil.length := by
  rw [hq1, show (q + 1).toNat = q.toNat + 1 by omega, flat_succ ho]; simp
theorem at_is {l : List Gr.Op} {L q j kk k p f a F v : Int} {oil : List Ed} {is : List Int} (his : is = ats l L.toNat) (hv : is[kk.toNat]? = some v) (q0 : 0 ≤ q) (hq : q < L) (ho : l[q.toNat]? = some ⟨k, p, f, a, oil⟩) (j0 : 0 ≤ j) (hF : Ln F (flat l q.toNat)) (hk : kk = F + j) (hj : j < oil.length) : v = q := by
  unfold Ln at hF
  have := (flat_at q0 hq ho j0 hj (by omega : kk = (flat l q.toNat).length + j)).2
  rw [← his, hv] at this
  exact Option.some.inj this
theorem fl_is {l : List Gr.Op} {L q j kk k p f a F yf yp xf xp : Int} {oil fl : List Ed} (hfl : fl = flat l L.toNat) (hv : fl[kk.toNat]? = some ⟨yf, yp⟩) (hed : oil[j.toNat]? = some ⟨xf, xp⟩) (q0 : 0 ≤ q) (hq : q < L) (ho : l[q.toNat]? = some ⟨k, p, f, a, oil⟩) (j0 : 0 ≤ j) (hF : Ln F (flat l q.toNat)) (hk : kk = F + j) (hj : j < oil.length) : yf = xf ∧ yp = xp := by
  unfold Ln at hF
  have := (flat_at q0 hq ho j0 hj (by omega : kk = (flat l q.toNat).length + j)).1
  rw [← hfl, hv, hed] at this
  injection this with this
  injection this with h1 h2
  exact ⟨h1, h2⟩
theorem kat_next {l : List Gr.Op} {q q1 j kk k p f a F M : Int} {oil : List Ed} (hq1 : q1 = q + 1) (q0 : 0 ≤ q) (ho : l[q.toNat]? = some ⟨k, p, f, a, oil⟩) (hF : Ln F (flat l q.toNat)) (hM : Ln M oil) (hk : kk = F + j) (hj : j = M) : KAt l q1 0 kk := by
  unfold Ln at hF hM
  unfold KAt
  rw [flat_next hq1 q0 ho]; omega
theorem kat_end {l : List Gr.Op} {q L k T : Int} {fl : List Ed} (hk : KAt l q 0 k) (hfl : fl = flat l L.toNat) (hT : Ln T fl) (hq : q = L) : k = T := by
  unfold KAt at hk; unfold Ln at hT; rw [hT, hfl, hk, hq]; omega
theorem flat_L {l : List Gr.Op} {L : Int} {xs ys : List AV} (hE : EdsIs l L xs ys) : ∃ (is : List Int) (fl : List Ed), xs = is.map (AV.int .i64) ∧ ys = fl.map Ed.av ∧ is = ats l L.toNat ∧ fl = flat l L.toNat := ⟨_, _, hE.1, hE.2, rfl, rfl⟩
set_option maxHeartbeats 8000000 in
set_option maxRecDepth 100000 in
theorem graphFinds_call (n ef ep : Int) (l : List Gr.Op) (os : List AV) (hos : os = l.map Gr.Op.av) (L : Int) (hL : Ln L l) (hLL : L < 2 ^ 48) (hI : LnIn l) (hT : Tot l L) (K E) (h : K (.bool true) []) : CallA Try.prog 8 [.agg [.int .i64 n, .sl 5 os .no], .int .i64 ef, .int .i64 ep] [] K E := by
  have hL0 : 0 ≤ L := by unfold Ln at hL; omega
  refine call_fn (n₀ := 0) tab_ok [] Try.func8 rfl rfl rfl rfl (by decide) ?_
  intro J hJ
  have hlos : J.o.len os = L := by subst hJ hos; unfold Ln at hL; simp [std, stdOps, hL]
  cbv
  repeat' (first
    | with_reducible exact id
    | exact trivial
    | with_reducible refine fit_bool h ?_
    | (with_reducible refine live_at hJ ?_; cbv)
    | (with_reducible refine to_at hJ hos hL hLL hI ?_; intro a1 b1 c1 ht1; cbv)
    | (with_reducible refine to'_at hJ hos hL hLL hI ?_; intro a2 b2 c2 ht2; obtain ⟨hta, htb, htc⟩ := ht2.same ht1; subst hta htb htc; cbv)
    | (with_reducible refine source_at hJ hos hL hLL ?_; intro r1 p1 f1 hs1 hp1 hf1; cbv)
    | (with_reducible refine source'_at hJ hos hL hLL ?_; intro r2 p2 f2 hs2 hp2 hf2; obtain rfl := hs2.same hs1; obtain rfl := hp2.trans hp1.symm; obtain rfl := hf2.trans hf1.symm; clear hp1 hp2 hf1 hf2; cbv)
    | (with_reducible refine sink_at hJ hos hL hLL ?_; intro r3 p3 f3 hs3 hp3 hf3; cbv)
    | (with_reducible refine sink'_at hJ hos hL hLL ?_; intro r4 p4 f4 hs4 hp4 hf4; obtain rfl := hs4.same hs3; obtain rfl := hp4.trans hp3.symm; obtain rfl := hf4.trans hf3.symm; clear hp3 hp4 hf3 hf4; cbv)
    | (with_reducible refine edges05_at hJ hos hL hLL hT ?_; intro xs ys hE; cbv)
    | (with_reducible refine op_is hJ hos ho hoes ?_; cbv)
    | (with_reducible refine op_in hJ hos ?_; intro ok op of oa oes oil hoes hop; cbv)
    | (with_reducible refine ed_in hJ hes ?_; intro xf xp hed; cbv)
    | (with_reducible refine ed_in hJ hoes ?_; intro xf xp hed; cbv)
    | intro hh
    | with_reducible refine And.intro ?_ ?_
    | (with_reducible first | refine awp_go ?_ | refine aops_go ?_ | refine strip_go ?_ | refine draw_go ?_ | refine frames_go ?_); cbv)
  all_goals try (clear h ; subst hJ; simp only [std, stdOps] at *; grind)
  obtain ⟨is, fl, hxs, hys, his, hfl⟩ := flat_L hE
  obtain ⟨T, hTt⟩ : ∃ T, Ln T fl := ⟨_, rfl⟩
  have hTT : 0 ≤ T ∧ T < 2 ^ 40 := by unfold Tot at hT; unfold Ln at hTt; subst hfl; omega
  have hlx : J.o.len xs = T := by subst hJ hxs his; unfold Ln at hTt; simp [std, stdOps, ats_len, hTt, hfl]
  have hly : J.o.len ys = T := by subst hJ hys; unfold Ln at hTt; simp [std, stdOps, hTt]
  refine loop_at (β := Int × Int) hJ tab_ok (fun | (q, k) => ⟨[(109, .int .i64 q), (108, .int .i64 (J.o.len os)), (107, .sl 5 os .no), (23, .int .i64 k), (22, .sl 2 ys .no), (21, .sl 1 xs .no), (3, .ptr 0 0)], [.var [.int .i64 n, .sl 5 os .no]], 155⟩) (fun | (q, k) => (0 ≤ q) ∧ (q ≤ L) ∧ (KAt l q 0 k)) (fun | (q, k) => (L + 1 - q).toNat) (0, 0) ?_ ?_ ?_ ?_
  · exact ⟨Int.le_refl _, hL0, by simp [KAt, flat]⟩
  · refine ⟨?_, ?_, rfl, rfl⟩
    · cbv
      try exact ⟨rfl, trivial⟩
    · cbv
  · rintro ⟨q, k⟩; exact Nat.le_of_ble_eq_true rfl
  rintro ⟨q, k⟩ hinv Nx Nxh
  obtain ⟨q0, qL, hk⟩ : (0 ≤ q) ∧ (q ≤ L) ∧ (KAt l q 0 k) := hinv
  obtain ⟨q1, hq1⟩ : ∃ q1 : Int, q1 = q + 1 := ⟨_, rfl⟩
  have hN : ∀ env (q' : Int) (k' : Int) v, (0 ≤ q') ∧ (q' ≤ L) ∧ (KAt l q' 0 k') → (L + 1 - q').toNat < (L + 1 - q).toNat → wkEnv env [(109, .int .i64 q'), (108, .int .i64 (J.o.len os)), (107, .sl 5 os .no), (23, .int .i64 k'), (22, .sl 2 ys .no), (21, .sl 1 xs .no), (3, .ptr 0 0)] → Nx ⟨env, [.var [.int .i64 n, .sl 5 os .no]] ++ v, 155⟩ := fun env q' k' v h1 h2 h3 => Nxh _ (q', k') h1 h2 ⟨h3, by cbv, rfl, rfl⟩
  clear Nxh
  all_goals cbv
  repeat' (first
    | with_reducible exact id
    | exact trivial
    | (obtain ⟨⟨ok, op, of, oa, oil⟩, ho⟩ : ∃ o, l[q.toNat]? = some o := at_of hL q0 (by clear h hN; subst hJ; simp only [std, stdOps] at *; grind)
       obtain ⟨oes, hoes⟩ : ∃ es, es = oil.map Ed.av := ⟨_, rfl⟩
       with_reducible refine op_is hJ hos ho hoes ?_; cbv)
    | (with_reducible refine op_is hJ hos ho hoes ?_; cbv)
    | (with_reducible refine op_in hJ hos ?_; intro ok op of oa oes oil hoes hop; cbv)
    | (with_reducible refine ed_in hJ hes ?_; intro xf xp hed; cbv)
    | (with_reducible refine ed_in hJ hoes ?_; intro xf xp hed; cbv)
    | intro hh
    | with_reducible refine And.intro ?_ ?_
    | (with_reducible first | refine awp_go ?_ | refine aops_go ?_ | refine strip_go ?_ | refine draw_go ?_ | refine frames_go ?_); cbv)
  all_goals first
    | skip
  all_goals first
    | (refine fit_bool h ?_; have hqL : q = L := (by clear h hN; subst hJ; simp only [std, stdOps] at *; grind); have hkT := kat_end hk hfl hTt hqL; clear h hN; subst hJ; simp only [std, stdOps] at *; grind)
    | (clear h hN; subst hJ; simp only [std, stdOps] at *; grind)
    | skip
  all_goals
    have hqL : q < L := by clear h hN; subst hJ; simp only [std, stdOps] at *; grind
    obtain ⟨M, hM, hMM⟩ := lnIn hI ho
    replace hM : Ln M oil := hM
    have hM0 : 0 ≤ M := by unfold Ln at hM; omega
    have hlo : J.o.len oes = M := by subst hJ hoes; unfold Ln at hM; simp [std, stdOps, hM]
    obtain ⟨F, hF⟩ : ∃ F, Ln F (flat l q.toNat) := ⟨_, rfl⟩
    have hkF : k = F := by unfold KAt at hk; unfold Ln at hF; omega
    have hTle : F + M ≤ T := by have := flat_lt q0 hqL ho; rw [← hfl] at this; unfold Ln at hF hM hTt; omega
    have hF0 : 0 ≤ F := by unfold Ln at hF; omega
    refine loop_at (β := Int × Int) hJ tab_ok (fun | (j, k) => ⟨[(117, .int .i64 j), (116, .int .i64 (J.o.len oes)), (115, .sl 2 oes .no), (24, .int .i64 q), (109, .int .i64 q), (108, .int .i64 (J.o.len os)), (107, .sl 5 os .no), (23, .int .i64 k), (22, .sl 2 ys .no), (21, .sl 1 xs .no), (3, .ptr 0 0)], [.var [.int .i64 n, .sl 5 os .no]], 155⟩) (fun | (j, k) => (0 ≤ j) ∧ (j ≤ M) ∧ (k = F + j)) (fun | (j, k) => (M + 1 - j).toNat) (0, k) ?_ ?_ ?_ ?_
    · exact ⟨Int.le_refl _, hM0, by omega⟩
    · refine ⟨?_, ?_, rfl, rfl⟩
      · cbv
        try exact ⟨rfl, trivial⟩
      · cbv
    · rintro ⟨j, k⟩; exact Nat.le_of_ble_eq_true rfl
    rintro ⟨j, k⟩ hinv2 Ny Nyh
    obtain ⟨j0, jM, hkj⟩ : (0 ≤ j) ∧ (j ≤ M) ∧ (k = F + j) := hinv2
    obtain ⟨j1, hj1⟩ : ∃ j1 : Int, j1 = j + 1 := ⟨_, rfl⟩
    have hM2 : ∀ env (j' : Int) (k' : Int) v, (0 ≤ j') ∧ (j' ≤ M) ∧ (k' = F + j') → (M + 1 - j').toNat < (M + 1 - j).toNat → wkEnv env [(117, .int .i64 j'), (116, .int .i64 (J.o.len oes)), (115, .sl 2 oes .no), (24, .int .i64 q), (109, .int .i64 q), (108, .int .i64 (J.o.len os)), (107, .sl 5 os .no), (23, .int .i64 k'), (22, .sl 2 ys .no), (21, .sl 1 xs .no), (3, .ptr 0 0)] → Ny ⟨env, [.var [.int .i64 n, .sl 5 os .no]] ++ v, 155⟩ := fun env j' k' v h1 h2 h3 => Nyh _ (j', k') h1 h2 ⟨h3, by cbv, rfl, rfl⟩
    clear Nyh
    all_goals cbv
    repeat' (first
      | with_reducible exact id
      | exact trivial
      | (with_reducible refine int_in hJ hxs ?_; intro vn hvn; have hv := at_is his hvn q0 hqL ho j0 hF hkj (by clear h hN hM2; subst hJ; simp only [std, stdOps] at *; grind); cbv)
      | (with_reducible refine ed_in hJ hys ?_; intro yf yp hye; have hy := fl_is hfl hye hed q0 hqL ho j0 hF hkj (by clear h hN hM2; subst hJ; simp only [std, stdOps] at *; grind); cbv)
      | (with_reducible refine op_is hJ hos ho hoes ?_; cbv)
      | (with_reducible refine op_in hJ hos ?_; intro ok op of oa oes oil hoes hop; cbv)
      | (with_reducible refine ed_in hJ hes ?_; intro xf xp hed; cbv)
      | (with_reducible refine ed_in hJ hoes ?_; intro xf xp hed; cbv)
      | intro hh
      | with_reducible refine And.intro ?_ ?_
      | (with_reducible first | refine awp_go ?_ | refine aops_go ?_ | refine strip_go ?_ | refine draw_go ?_ | refine frames_go ?_); cbv)
    all_goals first
      | (refine hM2 _ j1 (J.o.ar .add .i64 k 1) _ ⟨?_, ?_, ?_⟩ ?_ ?_ <;> first | (with_reducible refine wkEnv_go' ?_; cbv; clear h hN hM2; subst hJ; simp only [std, stdOps] at *; grind [wrap64]) | (clear h hN hM2; subst hJ; simp only [std, stdOps] at *; grind [wrap64]))
      | (refine hN _ q1 k _ ⟨?_, ?_, kat_next hq1 q0 ho hF hM hkj (by clear h hN hM2; subst hJ; simp only [std, stdOps] at *; grind)⟩ ?_ ?_ <;> first | (with_reducible refine wkEnv_go' ?_; cbv; clear h hN hM2; subst hJ; simp only [std, stdOps] at *; grind [wrap64]) | (clear h hN hM2; subst hJ; simp only [std, stdOps] at *; grind [wrap64]))
      | (clear h hN hM2; subst hJ; simp only [std, stdOps] at *; grind)
  

end Go.Proofs.Ytilffanmaicakaa.A
