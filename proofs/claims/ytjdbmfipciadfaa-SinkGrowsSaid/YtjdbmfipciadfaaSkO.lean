/- The sink: an operation done with both; the law Grows. -/
import Derived.Test.YtjdbmfipciadfaaSkN

namespace Go.Proofs.Ytjdbmfipciadfaa.A
open Go Go.Pt

def SOp.key (o : SOp) : Int × Int := (o.t.e, o.t.i)
def doS (n : Int) (s : Sk) (o : SOp) : Sk := if o.d = 0 then (fenF s o.t.e).2 else if o.d = 1 then (preF n s o.t).2 else if o.d = 2 then (comF s o.key).2 else if o.d = 3 then (aboF s o.key).2 else s
def doR (n : Int) (w : Rf) (o : SOp) : Rf := if o.d = 0 then (rFen w o.t.e).2 else if o.d = 1 then (rPre n w o.t).2 else if o.d = 2 then (rCom w o.key).2 else if o.d = 3 then (rAbo w o.key).2 else w
theorem rel_do {n : Int} {s : Sk} {w : Rf} (h : RelS s w) (hi : Inv n s) (o : SOp) : RelS (doS n s o) (doR n w o) := by
  unfold doS doR
  split
  · exact (rel_fen h _).2
  · split
    · exact (rel_pre h hi _).2
    · split
      · exact (rel_com h hi _).2
      · split
        · exact (rel_abo h hi _).2
        · exact h
theorem inv_do {n : Int} {s : Sk} (hi : Inv n s) (o : SOp) : Inv n (doS n s o) := by
  unfold doS
  split
  · exact hi.fenF _
  · split
    · exact hi.preF _
    · split
      · exact hi.comF _
      · split
        · exact hi.aboF _
        · exact hi
theorem done_do {n : Int} {s : Sk} {o : SOp} : (doS n s o).done.length ≤ s.done.length + 1 := by
  unfold doS
  split
  · have := fen_out (s := s) (e := o.t.e); omega
  · split
    · have := pre_out (n := n) (s := s) (t := o.t); omega
    · split
      · exact com_done
      · split
        · have := abo_out (s := s) (k := o.key); omega
        · omega

theorem f27_is {fuel p : Nat} {n : Int} {o : SOp} {s : Sk} {w : Rf} (hi : Inv n s) (hn : n ≤ 4) (h : RelS s w) (hd : s.done.length < 2 ^ 42) (hf : o.t.v.length < fuel ∧ 4097 < fuel ∧ s.done.length < fuel) (hl : o.t.v.length < 2 ^ 60) :
    ∃ p', f27 stdOps fuel p o.d o.t.e o.t.i o.t.b (o.t.r.map Rec.av) (o.t.v.map iav) n s.fence (s.out.map Rec.av) (s.vec.map iav) n w.fence (w.out.map Rec.av) (w.vec.map iav) (w.done.map iav) (w.pre.map Txn.av) (dM s.done) (pM s.pre) =
      some (.v0 true (doS n s o).fence ((doS n s o).out.map Rec.av) p' ((doS n s o).vec.map iav) (doR n w o).fence ((doR n w o).out.map Rec.av) ((doR n w o).vec.map iav) ((doR n w o).done.map iav) ((doR n w o).pre.map Txn.av) (dM (doS n s o).done) (pM (doS n s o).pre)) := by
  have hri := h.ri hi hd
  have hdl := h.dlen
  have nx : ∀ (c : Int), stdOps.cmp .eql o.d c = decide (o.d = c) := fun c => by simp [stdOps]; rfl
  have eqc : ∀ {a b : Int}, a = b → stdOps.cmp .eql a b = true := fun e => by simp [stdOps, e]
  unfold f27
  rw [nx, nx, nx, nx]
  by_cases d0 : o.d = 0
  · obtain ⟨g1, g2⟩ := rel_fen h o.t.e
    have ho := fen_out (s := s) (e := o.t.e)
    have hw : (rFen w o.t.e).2.out = w.out ∧ (rFen w o.t.e).2.vec = w.vec := ⟨by rw [g2.out, ho.1, h.out], by rw [g2.vec, ho.2.1, h.vec]⟩
    refine ⟨p, ?_⟩
    unfold doS doR
    rw [if_pos d0, if_pos d0, ifB_t (by simp [d0]), bindR_eq f24_is]
    dsimp only
    rw [bindR_eq f87_is]
    dsimp only
    rw [eqc g1.symm, ho.1, ho.2.1, hw.1, hw.2]
  · rw [ifB_f (by simp [d0])]
    by_cases d1 : o.d = 1
    · obtain ⟨g1, g2⟩ := rel_pre h hi o.t
      have ho := pre_out (n := n) (s := s) (t := o.t)
      have hw : (rPre n w o.t).2.out = w.out ∧ (rPre n w o.t).2.vec = w.vec := ⟨by rw [g2.out, ho.1, h.out], by rw [g2.vec, ho.2.1, h.vec]⟩
      refine ⟨p, ?_⟩
      unfold doS doR
      rw [if_neg d0, if_neg d0, if_pos d1, if_pos d1, ifB_t (by simp [d1]), bindR_eq (f15_is hi hn ⟨hf.1, hf.2.1⟩ hl)]
      dsimp only
      rw [bindR_eq (f88_is hri hn ⟨hf.1, hf.2.1, by omega⟩ hl)]
      dsimp only
      rw [eqc g1.symm, ho.1, ho.2.1, hw.1, hw.2]
    · rw [ifB_f (by simp [d1])]
      by_cases d2 : o.d = 2
      · obtain ⟨g1, g2⟩ := rel_com h hi o.key
        obtain ⟨p', hp'⟩ := f16_is (fuel := fuel) (p := p) (k1 := o.t.e) (k2 := o.t.i) hi hn hf.2.1
        refine ⟨p', ?_⟩
        unfold doS doR
        rw [if_neg d0, if_neg d0, if_neg d1, if_neg d1, if_pos d2, if_pos d2, ifB_t (by simp [d2]), bindR_eq (show f17 stdOps fuel _ _ _ _ _ _ = some (.v0 o.t.e o.t.i) from rfl)]
        dsimp only
        rw [bindR_eq hp']
        dsimp only
        rw [bindR_eq (show f17 stdOps fuel _ _ _ _ _ _ = some (.v0 o.t.e o.t.i) from rfl)]
        dsimp only
        rw [bindR_eq (f89_is hri hn ⟨hf.2.1, by omega⟩)]
        dsimp only
        change (rCom w (o.t.e, o.t.i)).1 = (comF s (o.t.e, o.t.i)).1 at g1
        rw [eqc g1.symm]
        rfl
      · rw [ifB_f (by simp [d2])]
        by_cases d3 : o.d = 3
        · obtain ⟨g1, g2⟩ := rel_abo h hi o.key
          have ho := abo_out (s := s) (k := o.key)
          have hw : (rAbo w o.key).2.out = w.out ∧ (rAbo w o.key).2.vec = w.vec := ⟨by rw [g2.out, ho.1, h.out], by rw [g2.vec, ho.2.1, h.vec]⟩
          refine ⟨p, ?_⟩
          unfold doS doR
          rw [if_neg d0, if_neg d0, if_neg d1, if_neg d1, if_neg d2, if_neg d2, if_pos d3, if_pos d3, ifB_t (by simp [d3]), bindR_eq (show f17 stdOps fuel _ _ _ _ _ _ = some (.v0 o.t.e o.t.i) from rfl)]
          dsimp only
          rw [bindR_eq f22_is]
          dsimp only
          rw [bindR_eq (show f17 stdOps fuel _ _ _ _ _ _ = some (.v0 o.t.e o.t.i) from rfl)]
          dsimp only
          rw [bindR_eq (f90_is hri ⟨hf.2.1, by omega⟩)]
          dsimp only
          change (rAbo w (o.t.e, o.t.i)).1 = (aboF s (o.t.e, o.t.i)).1 at g1
          rw [eqc g1.symm, ho.1, ho.2.1, hw.1, hw.2]
          rfl
        · refine ⟨p, ?_⟩
          unfold doS doR
          rw [if_neg d0, if_neg d0, if_neg d1, if_neg d1, if_neg d2, if_neg d2, if_neg d3, if_neg d3, ifB_f (by simp [d3])]

/-! It only grows. -/
theorem abvB_self {l : List Int} : abvB l l = true := by
  have : ∀ l : List Int, (l.zip l).all (fun p => decide (p.2 ≤ p.1)) = true := by
    intro l
    induction l with
    | nil => rfl
    | cons x l ih => rw [List.zip_cons_cons, List.all_cons, ih]; simp
  unfold abvB
  rw [this l]; simp
structure Grew (s s' : Sk) : Prop where
  out : ∃ l, s'.out = s.out ++ l
  vec : abvB s'.vec s.vec = true
  fence : s.fence ≤ s'.fence
theorem grew_of {s s' : Sk} {c e : Int} (h1 : s'.out = s.out) (h2 : s'.vec = s.vec) (h3 : s'.fence = if c = 1 then s.fence else max s.fence e) : Grew s s' :=
  ⟨⟨[], by rw [h1, List.append_nil]⟩, by rw [h2]; exact abvB_self, by rw [h3]; split <;> omega⟩
theorem com_grew {s : Sk} {k : Int × Int} : Grew s (comF s k).2 := by
  have hf := com_fence (s := s) (k := k)
  have key : (∃ l, (comF s k).2.out = s.out ++ l) ∧ abvB (comF s k).2.vec s.vec = true := by
    have ho := named_out (s := s) (k := k)
    unfold comF
    split
    · exact ⟨⟨[], by rw [ho.1, List.append_nil]⟩, by rw [ho.2.1]; exact abvB_self⟩
    · unfold comS
      split
      · exact ⟨⟨[], by rw [ho.1, List.append_nil]⟩, by rw [ho.2.1]; exact abvB_self⟩
      · cases (named s k).2.pre.find? (fun u => decide (k = u.key)) with
        | none => exact ⟨⟨[], by rw [ho.1, List.append_nil]⟩, by rw [ho.2.1]; exact abvB_self⟩
        | some t =>
          dsimp only
          split
          · exact ⟨⟨[], by rw [ho.1, List.append_nil]⟩, by rw [ho.2.1]; exact abvB_self⟩
          · rename_i hs
            have := (suits_zero (Classical.not_not.1 hs)).2.1
            exact ⟨⟨_, by rw [ho.1]⟩, by rw [← ho.2.1]; exact this⟩
  exact ⟨key.1, key.2, by rw [hf]; split <;> omega⟩
theorem do_grew {n : Int} {s : Sk} {o : SOp} : Grew s (doS n s o) := by
  unfold doS
  split
  · have ho := fen_out (s := s) (e := o.t.e); exact grew_of ho.1 ho.2.1 fen_fence
  · split
    · have ho := pre_out (n := n) (s := s) (t := o.t); exact grew_of ho.1 ho.2.1 pre_fence
    · split
      · exact com_grew
      · split
        · have ho := abo_out (s := s) (k := o.key); exact grew_of ho.1 ho.2.1 abo_fence
        · exact ⟨⟨[], by rw [List.append_nil]⟩, abvB_self, by omega⟩

theorem f26_is {fuel p : Nat} {n fe : Int} {vec : List Int} {a : List AV} {d q : List (AV × AV)} (hv : vec.length ≤ 4096) : f26 stdOps fuel p n fe a (vec.map iav) d q = some (.v0 (vec.map iav)) := by
  unfold f26
  rw [bindR_eq f70_is]
  dsimp only
  rw [ifB_f rfl, bindR_eq (f78_is (by rw [List.length_map]; omega))]
theorem f5_l0_is : ∀ (d f fuel i : Nat) (l : List SOp) (p : Nat) (s : Sk) (w : Rf), i + d = l.length → d < f → l.length < 2 ^ 41 → l.length + 5000 < fuel → (∀ o ∈ l, o.t.v.length < fuel ∧ o.t.v.length < 2 ^ 60) → Inv 2 s → RelS s w → s.done.length ≤ i →
    f5_l0 stdOps fuel (l.map SOp.av) 2 f p i s.fence (s.out.map Rec.av) (s.vec.map iav) (dM s.done) (pM s.pre) w.fence (w.out.map Rec.av) (w.vec.map iav) (w.done.map iav) (w.pre.map Txn.av) = some .x1 := by
  intro d
  induction d with
  | zero =>
    intro f fuel i l p s w h1 h2 h3 h4 h5 hi hw hb
    obtain ⟨f, rfl⟩ : ∃ g, f = g + 1 := ⟨f - 1, by omega⟩
    unfold f5_l0
    rw [len_av, ifB_f (lss_f (by omega))]
  | succ d ih =>
    intro f fuel i l p s w h1 h2 h3 h4 h5 hi hw hb
    obtain ⟨f, rfl⟩ : ∃ g, f = g + 1 := ⟨f - 1, by omega⟩
    have hil : i < l.length := by omega
    obtain ⟨hv1, hv2⟩ := h5 l[i] (List.getElem_mem hil)
    have hi2 := inv_do hi l[i]
    have hd2 := done_do (n := 2) (s := s) (o := l[i])
    have hvc := cntB_len hi.vec
    have hvc2 := cntB_len hi2.vec
    obtain ⟨⟨more, hout⟩, hvec, hfe⟩ := do_grew (n := 2) (s := s) (o := l[i])
    unfold f5_l0
    rw [len_av, ifB_t (lss_t hil), ← len_av (f := SOp.av), inbR hil, getO hil, bindR_eq (f18_is hi (by omega) (by omega) ⟨by omega, by omega⟩)]
    dsimp only
    rw [bindR_eq (f26_is (by omega))]
    dsimp only
    rw [bindR_eq f25_is]
    dsimp only
    obtain ⟨p2, hp2⟩ := f27_is (fuel := fuel) (p := p) (o := l[i]) hi (by omega) hw (by omega) ⟨hv1, by omega, by omega⟩ hv2
    rw [bindR_eq hp2]
    dsimp only
    rw [ifB_f (by simp [stdOps]), bindR_eq (f18_is hi2 (by omega) (by omega) ⟨by omega, by omega⟩)]
    dsimp only
    have hlen : s.out.length ≤ (doS 2 s l[i]).out.length := by rw [hout, List.length_append]; omega
    have hsub : stdOps.sub ((doS 2 s l[i]).out.map Rec.av) 0 (s.out.length : Int) = s.out.map Rec.av := by
      show (((doS 2 s l[i]).out.map Rec.av).take ((s.out.length : Int)).toNat).drop (0 : Int).toNat = _
      rw [Int.toNat_natCast, ← List.map_take, hout]; simp
    have hol := hi.out
    rw [len_av, len_av, ifB_f (by simp [stdOps]; omega), req_eq _ (show stdOps.le 0 _ by show (0 : Int) ≤ _; omega), req_eq _ (show stdOps.le _ _ by show (_ : Int) ≤ _; omega), hsub, bindR_eq (f28_is (by omega) (by omega))]
    dsimp only
    rw [ifB_f (by simp [stdOps]), bindR_eq (f26_is (by omega))]
    dsimp only
    rw [bindR_eq (f29_is (by omega) (by omega)), hvec]
    dsimp only
    rw [ifB_f (by simp [stdOps]), bindR_eq f25_is]
    dsimp only
    rw [ifB_f (by simp [stdOps]; omega), add1 (by omega)]
    exact ih f fuel (i + 1) l p2 (doS 2 s l[i]) (doR 2 w l[i]) (by omega) (by omega) h3 h4 h5 hi2 (rel_do hw hi _) (by omega)

def newR : Rf := ⟨0, [], [0, 0], [], []⟩
theorem rel_new : RelS newS newR := ⟨rfl, rfl, rfl, ⟨by simp [newS], by simp [newS]⟩, List.Perm.nil, List.Pairwise.nil, List.Perm.nil, List.Pairwise.nil⟩
theorem f5_is {fuel : Nat} {l : List SOp} (hf : l.length + 5000 < fuel) (hl : l.length < 2 ^ 41) (h5 : ∀ o ∈ l, o.t.v.length < fuel ∧ o.t.v.length < 2 ^ 60) : f5 stdOps fuel (l.map SOp.av) = some (.v0 true) := by
  unfold f5
  rw [bindR_eq (f13_is (by omega))]
  dsimp only
  rw [ifB_f (by simp [stdOps]), bindR_eq f14_two]
  dsimp only
  rw [ifB_f (by simp [stdOps]), bindR_eq f19_two]
  dsimp only
  have h0 := f5_l0_is l.length fuel fuel 0 l 0 newS newR (by omega) (by omega) hl hf h5 inv_new rel_new (by simp [newS])
  change f5_l0 stdOps fuel _ 2 fuel 0 0 0 [] ([0, 0].map iav) [] [] 0 [] ([0, 0].map iav) [] [] = _ at h0
  rw [bindR_eq h0]
end Go.Proofs.Ytjdbmfipciadfaa.A
