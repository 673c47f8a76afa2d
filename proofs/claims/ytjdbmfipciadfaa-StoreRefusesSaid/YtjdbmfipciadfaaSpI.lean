/- Stores: what holds of a store holds behind each call. -/import Derived.Test.YtjdbmfipciadfaaSpH
namespace Go.Proofs.Ytjdbmfipciadfaa.A
open Go Go.Pt
structure Jv (m : Mo) : Prop extends Iv m where
  bL : ∀ x ∈ m.L, isB x.2
  bP : ∀ p ∈ m.P, isB p.b
theorem isB_nil : isB [] := fun _ h => by cases h
theorem isB_append {a b : List AV} (ha : isB a) (hb : isB b) : isB (a ++ b) := fun x hx => (List.mem_append.1 hx).elim (ha x) (hb x)
theorem isB_take {a : List AV} {n : Nat} (ha : isB a) : isB (a.take n) := fun x hx => ha x (List.mem_of_mem_take hx)
theorem isB_drop {a : List AV} {n : Nat} (ha : isB a) : isB (a.drop n) := fun x hx => ha x (List.mem_of_mem_drop hx)
theorem isB_ov {b x : List AV} {i : Nat} (hb : isB b) (hx : isB x) : isB (ov b i x) := isB_append (isB_append (isB_take hb) hx) (isB_drop hb)
theorem isB_seen {n : ByteArray} : ∀ {P : List Pw} {b : List AV}, (∀ p ∈ P, isB p.b) → isB b → isB (seen P n b)
  | [], _, _, hb => hb
  | p :: P, b, hP, hb => by
    refine isB_seen (P := P) (b := seen1 n b p) (fun q hq => hP q (List.mem_cons_of_mem _ hq)) ?_
    unfold seen1
    split
    · exact isB_ov hb (hP p List.mem_cons_self)
    · exact hb
theorem seen_drop {name n : ByteArray} (hne : n ≠ name) : ∀ {P : List Pw} {b : List AV}, seen (dropP name P) n b = seen P n b ∧ (okW P n b → okW (dropP name P) n b)
  | [], _ => ⟨rfl, id⟩
  | p :: P, b => by
    have hs : seen (p :: P) n b = seen P n (seen1 n b p) := rfl
    obtain ⟨h1, h2⟩ := seen_drop (name := name) hne (P := P) (b := seen1 n b p)
    rw [hs]
    by_cases e : p.n = name
    · have hd : dropP name (p :: P) = dropP name P := by unfold dropP; simp [e]
      have h0 : seen1 n b p = b := if_neg fun e' => hne (e'.symm.trans e)
      rw [hd]
      rw [h0] at h1 h2 ⊢
      refine ⟨h1, fun h => h2 ?_⟩
      have := h.2
      rwa [h0] at this
    · have hd : dropP name (p :: P) = p :: dropP name P := by unfold dropP; simp [e]
      rw [hd]
      exact ⟨h1, fun h => ⟨h.1, h2 h.2⟩⟩
theorem drop_none {name : ByteArray} {P : List Pw} : ∀ p ∈ dropP name P, p.n ≠ name := fun p hp => by
  have := (List.mem_filter.1 hp).2
  simpa using this
theorem seen_ren {name to : ByteArray} (hne : to ≠ name) : ∀ {P : List Pw} {b : List AV}, (∀ p ∈ P, p.n ≠ to) → seen (renP name to P) to b = seen P name b ∧ (okW P name b → okW (renP name to P) to b)
  | [], _, _ => ⟨rfl, id⟩
  | p :: P, b, hP => by
    obtain ⟨h1, h2⟩ := seen_ren hne (P := P) (b := seen1 name b p) fun q hq => hP q (List.mem_cons_of_mem _ hq)
    have hr : renP name to (p :: P) = (if p.n = name then ⟨to, p.i, p.b⟩ else p) :: renP name to P := rfl
    have hs : ∀ (q : Pw) (Q : List Pw) (n : ByteArray) (b : List AV), seen (q :: Q) n b = seen Q n (seen1 n b q) := fun _ _ _ _ => rfl
    rw [hr, hs, hs]
    have h0 : seen1 to b (if p.n = name then ⟨to, p.i, p.b⟩ else p) = seen1 name b p := by
      unfold seen1
      by_cases e : p.n = name
      · simp [e]
      · simp [e, hP p List.mem_cons_self]
    rw [h0]
    refine ⟨h1, fun h => ⟨?_, by rw [h0]; exact h2 h.2⟩⟩
    by_cases e : p.n = name
    · rw [if_pos e]; exact fun _ => h.1 e
    · rw [if_neg e]; exact fun e2 => absurd e2 (hP p List.mem_cons_self)
theorem seen_ren2 {name to n : ByteArray} (h1 : n ≠ name) (h2 : n ≠ to) : ∀ {P : List Pw} {b : List AV}, seen (renP name to P) n b = seen P n b ∧ (okW P n b → okW (renP name to P) n b)
  | [], _ => ⟨rfl, id⟩
  | p :: P, b => by
    obtain ⟨i1, i2⟩ := seen_ren2 h1 h2 (P := P) (b := seen1 n b p)
    have hr : renP name to (p :: P) = (if p.n = name then ⟨to, p.i, p.b⟩ else p) :: renP name to P := rfl
    have hs : ∀ (q : Pw) (Q : List Pw) (b : List AV), seen (q :: Q) n b = seen Q n (seen1 n b q) := fun _ _ _ => rfl
    rw [hr, hs, hs]
    have h0 : seen1 n b (if p.n = name then ⟨to, p.i, p.b⟩ else p) = seen1 n b p := by
      unfold seen1
      by_cases e : p.n = name
      · have e3 : ¬ p.n = n := fun e' => h1 (e' ▸ e)
        rw [if_pos e, if_neg (fun e' => h2 e'.symm), if_neg e3]
      · rw [if_neg e]
    rw [h0]
    refine ⟨i1, fun h => ⟨?_, by rw [h0]; exact i2 h.2⟩⟩
    by_cases e : p.n = name
    · rw [if_pos e]; exact fun e2 => absurd e2.symm h2
    · rw [if_neg e]; exact h.1
theorem sum_le' {β : Type} {f g : β → Nat} : ∀ {l : List β}, (∀ x ∈ l, f x ≤ g x) → (l.map f).sum ≤ (l.map g).sum
  | [], _ => Nat.le_refl _
  | x :: l, h => by
    have h1 := h x List.mem_cons_self
    have h2 := sum_le' (f := f) (g := g) (l := l) fun y hy => h y (List.mem_cons_of_mem _ hy)
    simp only [List.map_cons, List.sum_cons]; omega
theorem sum_filter {β : Type} {f : β → Nat} {p : β → Bool} : ∀ {l : List β}, ((l.filter p).map f).sum ≤ (l.map f).sum
  | [] => Nat.le_refl _
  | x :: l => by
    have h2 := sum_filter (f := f) (p := p) (l := l)
    by_cases h : p x = true
    · rw [List.filter_cons_of_pos h]; simp only [List.map_cons, List.sum_cons]; omega
    · rw [List.filter_cons_of_neg h]; simp only [List.map_cons, List.sum_cons]; omega
theorem sum_permM {β : Type} {f : β → Nat} {l k : List β} (h : l.Perm k) : (l.map f).sum = (k.map f).sum := sum_perm (h.map f)
theorem sorted_ins {L : List (ByteArray × List AV)} {n : ByteArray} {b : List AV} (hs : L.Pairwise fun a b => nlt a.1 b.1) (hn : n ∉ L.map Prod.fst) : (insL n b L).Pairwise fun a b => nlt a.1 b.1 := by
  obtain ⟨B, C, h1, h2, h3, h4⟩ := insL_parts n b L
  rw [h2]
  rw [h1] at hs
  rw [List.pairwise_append] at hs ⊢
  obtain ⟨hB, hC, hBC⟩ := hs
  have hCn : ∀ z ∈ C, nlt n z.1 := by
    cases C with
    | nil => intro z hz; cases hz
    | cons y D =>
      have hy := h4 y D rfl
      rw [decide_eq_false_iff_not] at hy
      have hyn : y.1 ≠ n := fun e => hn (by rw [h1, ← e]; exact List.mem_map_of_mem (List.mem_append_right _ List.mem_cons_self))
      have hny : nlt n y.1 := by
        have hle : bl n ≤ bl y.1 := by
          rcases List.le_total (bl n) (bl y.1) with h | h
          · exact h
          · rcases List.le_iff_lt_or_eq.1 h with h | h
            · exact absurd h hy
            · rw [h]; exact List.le_refl _
        rcases List.le_iff_lt_or_eq.1 hle with h | h
        · exact h
        · exact absurd (bl_inj h).symm hyn
      intro z hz
      rcases List.mem_cons.1 hz with rfl | hz
      · exact hny
      · exact nlt_trans hny ((List.pairwise_cons.1 hC).1 z hz)
  refine ⟨hB, List.pairwise_cons.2 ⟨fun z hz => hCn z hz, hC⟩, fun a ha c hc => ?_⟩
  have han : nlt a.1 n := by
    have := h3 a ha
    rwa [decide_eq_true_eq] at this
  rcases List.mem_cons.1 hc with rfl | hc
  · exact han
  · exact hBC a ha c hc
variable {m : Mo}
theorem jv_create (h : Jv m) {name : ByteArray} : Jv (m.create name).2 := by
  unfold Mo.create
  split
  · exact h
  · split
    · exact h
    · rename_i hne
      split
      · exact h
      · rename_i hlen
        have hn : name ∉ m.names := fun e => hne (.inr e)
        have hnone := seen_none (P := m.P) (b := ([] : List AV)) (n := name) fun p hp e => hn (e ▸ h.pn p hp)
        refine ⟨⟨h.m0, h.m1, sorted_ins h.sorted hn, by show (insL name [] m.L).length ≤ 4096; rw [insL_length]; omega, fun x hx => ?_, fun p hp => ?_, h.pb, ?_⟩, fun x hx => ?_, h.bP⟩
        · rcases mem_insL.1 hx with rfl | hx
          · exact hnone.2
          · exact h.ok x hx
        · exact mem_names_ins.2 (.inr (h.pn p hp))
        · have := h.left
          show (((insL name [] m.L).map fun x => (seen m.P x.1 x.2).length).sum : Int) ≤ m.most
          rw [sum_permM (insL_perm _ _ _), List.map_cons, List.sum_cons]
          simp only [hnone.1, List.length_nil, Nat.zero_add]
          exact this
        · rcases mem_insL.1 hx with rfl | hx
          · exact isB_nil
          · exact h.bL x hx
theorem jv_write (h : Jv m) {name : ByteArray} {i : Int} {b : List AV} (hb : isB b) : Jv (m.write name i b).2 := by
  unfold Mo.write
  split
  · exact h
  · rename_i h0
    have h0 : m.fnd name = 0 := by simpa using h0
    have hm := (fnd0.1 h0).2
    split
    · exact h
    · rename_i h1
      have h1a : 0 ≤ i := by omega
      have h1b : i ≤ ((m.all name).length : Int) := by omega
      split
      · exact h
      · rename_i h2
        split
        · exact h
        · rename_i h3
          have hbl : 0 < b.length := List.length_pos_iff.2 h3
          have hal := h.all_le hm
          have hm1 := h.m1
          have hle := h.left
          have hlm : m.left = m.most - m.used := rfl
          obtain ⟨B, C, q1, q2, q3⟩ := split_name h.toIv hm
          have hstep : ∀ (x : ByteArray) (c : List AV), seen (m.P ++ [⟨name, i, b⟩]) x c = seen1 x (seen m.P x c) ⟨name, i, b⟩ := fun x c => by rw [seen_append]; rfl
          refine ⟨⟨h.m0, h.m1, h.sorted, h.max, fun x hx => ?_, fun p hp => ?_, fun p hp => ?_, ?_⟩, h.bL, fun p hp => ?_⟩
          · refine okW_append.2 ⟨h.ok x hx, fun e => ?_, trivial⟩
            have e' : x.1 = name := e.symm
            have : seen m.P x.1 x.2 = m.all name := by rw [Mo.all, ← e', Mo.sure_of h.nodup (show (x.1, x.2) ∈ m.L from hx)]
            rw [this]
            exact ⟨h1a, h1b⟩
          · rcases List.mem_append.1 hp with hp | hp
            · exact h.pn p hp
            · rw [List.mem_singleton.1 hp]; exact hm
          · rcases List.mem_append.1 hp with hp | hp
            · exact h.pb p hp
            · rw [List.mem_singleton.1 hp]
              exact ⟨by show b.length ≤ 2 ^ 23; omega, hbl⟩
          · show ((m.L.map fun x => (seen (m.P ++ [⟨name, i, b⟩]) x.1 x.2).length).sum : Int) ≤ m.most
            have hu : m.used = (B.map fun x => (seen m.P x.1 x.2).length).sum + ((m.all name).length + (C.map fun x => (seen m.P x.1 x.2).length).sum) := by
              rw [Mo.used, q1, List.map_append, List.sum_append, List.map_cons, List.sum_cons]; rfl
            have hB : (B.map fun x => (seen (m.P ++ [⟨name, i, b⟩]) x.1 x.2).length) = B.map fun x => (seen m.P x.1 x.2).length := List.map_congr_left fun x hx => by
              rw [hstep]; unfold seen1; rw [if_neg fun e => q2 x hx e.symm]
            have hC : (C.map fun x => (seen (m.P ++ [⟨name, i, b⟩]) x.1 x.2).length) = C.map fun x => (seen m.P x.1 x.2).length := List.map_congr_left fun x hx => by
              rw [hstep]; unfold seen1; rw [if_neg fun e => q3 x hx e.symm]
            have hN : (seen (m.P ++ [⟨name, i, b⟩]) name (m.sure name)).length = max (m.all name).length (i.toNat + b.length) := by
              rw [hstep]; unfold seen1; rw [if_pos rfl]
              exact ov_length (by show i.toNat ≤ (m.all name).length; omega)
            rw [q1, List.map_append, List.sum_append, List.map_cons, List.sum_cons, hB, hC]
            simp only [hN]
            omega
          · rcases List.mem_append.1 hp with hp | hp
            · exact h.bP p hp
            · rw [List.mem_singleton.1 hp]; exact hb
theorem jv_set (h : Jv m) {name : ByteArray} {b : List AV} (_hm : name ∈ m.names) (hl : b.length ≤ (m.all name).length) (hb : isB b) : Jv ⟨setL name b m.L, dropP name m.P, m.most, m.down⟩ := by
  have hnames : (setL name b m.L).map Prod.fst = m.names := names_set
  have hse : ∀ x ∈ m.L, ∀ y, y = (if x.1 = name then (x.1, b) else x) → okW (dropP name m.P) y.1 y.2 ∧ (seen (dropP name m.P) y.1 y.2).length ≤ (seen m.P x.1 x.2).length := by
    rintro x hx y rfl
    by_cases e : x.1 = name
    · rw [if_pos e]
      have hnone := seen_none (P := dropP name m.P) (b := b) (n := x.1) fun p hp e2 => drop_none p hp (e2.trans e)
      refine ⟨hnone.2, ?_⟩
      simp only [hnone.1]
      have : seen m.P x.1 x.2 = m.all name := by rw [Mo.all, ← e, Mo.sure_of h.nodup (show (x.1, x.2) ∈ m.L from hx)]
      rw [this]; exact hl
    · rw [if_neg e]
      have hd := seen_drop (name := name) e (P := m.P) (b := x.2)
      exact ⟨hd.2 (h.ok x hx), by rw [hd.1]; exact Nat.le_refl _⟩
  refine ⟨⟨h.m0, h.m1, ?_, by show (setL name b m.L).length ≤ 4096; rw [setL_length]; exact h.max, fun y hy => ?_, fun p hp => ?_, fun p hp => h.pb p (List.mem_filter.1 hp).1, ?_⟩, fun y hy => ?_, fun p hp => h.bP p (List.mem_filter.1 hp).1⟩
  · show (setL name b m.L).Pairwise _
    unfold setL
    rw [List.pairwise_map]
    refine h.sorted.imp ?_
    intro x y hxy
    have f1 : ∀ z : ByteArray × List AV, (if z.1 = name then (z.1, b) else z).1 = z.1 := fun z => by split <;> rfl
    rw [f1, f1]; exact hxy
  · obtain ⟨x, hx, rfl⟩ := List.mem_map.1 hy
    exact (hse x hx _ rfl).1
  · show p.n ∈ (setL name b m.L).map Prod.fst
    rw [hnames]
    exact h.pn p (List.mem_filter.1 hp).1
  · have := h.left
    have h2 : ((setL name b m.L).map fun x => (seen (dropP name m.P) x.1 x.2).length).sum ≤ m.used := by
      unfold setL Mo.used
      rw [List.map_map]
      exact sum_le' fun x hx => (hse x hx _ rfl).2
    show (((setL name b m.L).map fun x => (seen (dropP name m.P) x.1 x.2).length).sum : Int) ≤ m.most
    omega
  · rcases mem_setL hy with ⟨_, e, _⟩ | ⟨_, hy⟩
    · rw [e]; exact hb
    · exact h.bL y hy
theorem Jv.all_isB (h : Jv m) {name : ByteArray} (hm : name ∈ m.names) : isB (m.all name) := isB_seen h.bP (h.bL _ (Mo.mem_sure h.nodup hm))
theorem jv_sync (h : Jv m) {name : ByteArray} : Jv (m.sync name).2 := by
  unfold Mo.sync
  split
  · exact h
  · rename_i h0
    have hm := (fnd0.1 (by simpa using h0)).2
    exact jv_set h hm (Nat.le_refl _) (h.all_isB hm)
theorem jv_cut (h : Jv m) {name : ByteArray} {i : Int} : Jv (m.cut name i).2 := by
  unfold Mo.cut
  split
  · exact h
  · rename_i h0
    have hm := (fnd0.1 (by simpa using h0)).2
    split
    · exact h
    · exact jv_set h hm (by rw [List.length_take]; omega) (isB_take (h.all_isB hm))
theorem sorted_out {L : List (ByteArray × List AV)} {n : ByteArray} (hs : L.Pairwise fun a b => nlt a.1 b.1) : (outL n L).Pairwise fun a b => nlt a.1 b.1 := hs.filter _
theorem jv_remove (h : Jv m) {name : ByteArray} : Jv (m.remove name).2 := by
  unfold Mo.remove
  split
  · exact h
  · have hx' : ∀ x ∈ outL name m.L, x ∈ m.L ∧ x.1 ≠ name := fun x hx => ⟨(List.mem_filter.1 hx).1, by simpa using (List.mem_filter.1 hx).2⟩
    refine ⟨⟨h.m0, h.m1, sorted_out h.sorted, Nat.le_trans (List.length_filter_le _ _) h.max, fun x hx => ?_, fun p hp => ?_, fun p hp => h.pb p (List.mem_filter.1 hp).1, ?_⟩, fun x hx => h.bL x (hx' x hx).1, fun p hp => h.bP p (List.mem_filter.1 hp).1⟩
    · exact (seen_drop (hx' x hx).2).2 (h.ok x (hx' x hx).1)
    · show p.n ∈ (outL name m.L).map Prod.fst
      rw [names_out, List.mem_filter]
      exact ⟨h.pn p (List.mem_filter.1 hp).1, by simpa using drop_none p hp⟩
    · have := h.left
      have h1 : ((outL name m.L).map fun x => (seen (dropP name m.P) x.1 x.2).length) = (outL name m.L).map fun x => (seen m.P x.1 x.2).length := List.map_congr_left fun x hx => by rw [(seen_drop (hx' x hx).2).1]
      have h2 : ((outL name m.L).map fun x => (seen m.P x.1 x.2).length).sum ≤ m.used := sum_filter
      show (((outL name m.L).map fun x => (seen (dropP name m.P) x.1 x.2).length).sum : Int) ≤ m.most
      rw [h1]; omega
theorem jv_renamed (h : Jv m) {name to : ByteArray} (hm : name ∈ m.names) (hne : to ≠ name) : Jv (m.renamed name to) := by
  have hx' : ∀ x ∈ outL name (outL to m.L), x ∈ m.L ∧ x.1 ≠ name ∧ x.1 ≠ to := fun x hx => by
    have h1 := List.mem_filter.1 hx
    have h2 := List.mem_filter.1 h1.1
    exact ⟨h2.1, by simpa using h1.2, by simpa using h2.2⟩
  have hdn : ∀ p ∈ dropP to m.P, p.n ≠ to := fun p hp => drop_none p hp
  have hmem := Mo.mem_sure h.nodup hm
  have hto := seen_ren (name := name) (to := to) hne (P := dropP to m.P) (b := m.sure name) hdn
  have hd := seen_drop (name := to) (n := name) (fun e => hne e.symm) (P := m.P) (b := m.sure name)
  have hoth : ∀ x ∈ outL name (outL to m.L), seen (renP name to (dropP to m.P)) x.1 x.2 = seen m.P x.1 x.2 ∧ okW (renP name to (dropP to m.P)) x.1 x.2 := fun x hx => by
    obtain ⟨a1, a2, a3⟩ := hx' x hx
    have e1 := seen_ren2 (name := name) (to := to) a2 a3 (P := dropP to m.P) (b := x.2)
    have e2 := seen_drop (name := to) a3 (P := m.P) (b := x.2)
    exact ⟨e1.1.trans e2.1, e1.2 (e2.2 (h.ok x a1))⟩
  have hpr : ∀ q ∈ renP name to (dropP to m.P), ∃ p ∈ m.P, q.b = p.b ∧ (q.n = to ∨ (q.n = p.n ∧ p.n ≠ name ∧ p.n ≠ to)) := fun q hq => by
    obtain ⟨p, hp, rfl⟩ := List.mem_map.1 hq
    refine ⟨p, (List.mem_filter.1 hp).1, ?_⟩
    by_cases e : p.n = name
    · rw [if_pos e]; exact ⟨rfl, .inl rfl⟩
    · rw [if_neg e]; exact ⟨rfl, .inr ⟨rfl, e, hdn p hp⟩⟩
  refine ⟨⟨h.m0, h.m1, ?_, ?_, fun x hx => ?_, fun q hq => ?_, fun q hq => ?_, ?_⟩, fun x hx => ?_, fun q hq => ?_⟩
  · refine sorted_ins (sorted_out (sorted_out h.sorted)) fun e => ?_
    obtain ⟨x, hx, e⟩ := List.mem_map.1 e
    exact (hx' x hx).2.2 e
  · show (insL to (m.sure name) (outL name (outL to m.L))).length ≤ 4096
    rw [insL_length]
    have h1 : (outL name (outL to m.L)).length < m.L.length := by
      obtain ⟨B, C, q1, q2, q3⟩ := split_name h.toIv hm
      obtain ⟨r1, r2, r3⟩ := out_fst q1 q2 q3 hne
      have : (outL to m.L).length ≤ m.L.length := List.length_filter_le _ _
      have e2 : outL name (outL to m.L) = outL to B ++ outL to C := by rw [r1]; exact out_split r2 r3
      rw [r1] at this
      rw [e2]
      simp at this ⊢; omega
    have := h.max
    omega
  · rcases mem_insL.1 hx with rfl | hx
    · exact hto.2 (hd.2 (h.ok _ hmem))
    · exact (hoth x hx).2
  · obtain ⟨p, hp, _, h2⟩ := hpr q hq
    refine mem_renamed.2 ?_
    rcases h2 with h2 | ⟨h2, h3, h4⟩
    · exact .inl h2
    · exact .inr ⟨h2 ▸ h.pn p hp, h2 ▸ h3, h2 ▸ h4⟩
  · obtain ⟨p, hp, h1, _⟩ := hpr q hq
    rw [h1]; exact h.pb p hp
  · have hle := h.left
    obtain ⟨B, C, q1, q2, q3⟩ := split_name h.toIv hm
    obtain ⟨r1, r2, r3⟩ := out_fst q1 q2 q3 hne
    have e2 : outL name (outL to m.L) = outL to B ++ outL to C := by rw [r1]; exact out_split r2 r3
    have h1 : ((outL name (outL to m.L)).map fun x => (seen (renP name to (dropP to m.P)) x.1 x.2).length) = (outL name (outL to m.L)).map fun x => (seen m.P x.1 x.2).length := List.map_congr_left fun x hx => by rw [(hoth x hx).1]
    have hu : m.used = (B.map fun x => (seen m.P x.1 x.2).length).sum + ((m.all name).length + (C.map fun x => (seen m.P x.1 x.2).length).sum) := by
      rw [Mo.used, q1, List.map_append, List.sum_append, List.map_cons, List.sum_cons]; rfl
    have hB : ((outL to B).map fun x => (seen m.P x.1 x.2).length).sum ≤ (B.map fun x => (seen m.P x.1 x.2).length).sum := sum_filter
    have hC : ((outL to C).map fun x => (seen m.P x.1 x.2).length).sum ≤ (C.map fun x => (seen m.P x.1 x.2).length).sum := sum_filter
    have hN : (seen (renP name to (dropP to m.P)) to (m.sure name)).length = (m.all name).length := by rw [hto.1, hd.1]; rfl
    show (((insL to (m.sure name) (outL name (outL to m.L))).map fun x => (seen (renP name to (dropP to m.P)) x.1 x.2).length).sum : Int) ≤ m.most
    rw [sum_permM (insL_perm _ _ _), List.map_cons, List.sum_cons, h1, e2, List.map_append, List.sum_append]
    simp only [hN]
    omega
  · rcases mem_insL.1 hx with rfl | hx
    · exact h.bL (name, m.sure name) hmem
    · exact h.bL x (hx' x hx).1
  · obtain ⟨p, hp, h1, _⟩ := hpr q hq
    rw [h1]; exact h.bP p hp
theorem jv_rename (h : Jv m) {name to : ByteArray} : Jv (m.rename name to).2 := by
  unfold Mo.rename
  split
  · exact h
  · rename_i h0
    have hm := (fnd0.1 (by simpa using h0)).2
    split
    · exact h
    · split
      · exact h
      · rename_i hne
        exact jv_renamed h hm hne
theorem kept_le (h : Jv m) {keep torn : Int} {x : ByteArray × List AV} (hx : x ∈ m.L) : (seen (kept m.P keep torn) x.1 x.2).length ≤ (seen m.P x.1 x.2).length ∧ x.2.length ≤ (seen (kept m.P keep torn) x.1 x.2).length := by
  have hok := h.ok x hx
  obtain ⟨K, hK⟩ : ∃ K, K = bare keep % (m.P.length + 1) := ⟨_, rfl⟩
  unfold kept
  rw [← hK]
  by_cases hlt : K < m.P.length
  · rw [List.getElem?_eq_getElem hlt]
    have hsp : m.P = m.P.take K ++ m.P[K] :: m.P.drop (K + 1) := by rw [← List.drop_eq_getElem_cons hlt, List.take_append_drop]
    have hok' := hok
    rw [hsp, okW_append] at hok'
    obtain ⟨o1, o2, o3⟩ := hok'
    have h1 := seen_le o1
    have hs : seen m.P x.1 x.2 = seen (m.P.drop (K + 1)) x.1 (seen1 x.1 (seen (m.P.take K) x.1 x.2) m.P[K]) := by
      conv => lhs; rw [hsp, seen_append]
      rfl
    have h3 := seen_le o3
    rw [hs, seen_append]
    have ht : ∀ q : Pw, seen [q] x.1 (seen (m.P.take K) x.1 x.2) = seen1 x.1 (seen (m.P.take K) x.1 x.2) q := fun _ => rfl
    simp only [ht]
    unfold seen1 at h3 ⊢
    by_cases e : m.P[K].n = x.1
    · have := o2 e
      simp only [e, if_true] at h3 ⊢
      rw [ov_length (by omega)] at h3 ⊢
      rw [List.length_take]
      omega
    · simp only [e, if_false] at h3 ⊢
      exact ⟨h3, h1⟩
  · rw [List.getElem?_eq_none (by omega), List.append_nil, List.take_of_length_le (by omega)]
    exact ⟨Nat.le_refl _, seen_le hok⟩
theorem kept_isB (h : Jv m) {keep torn : Int} : ∀ p ∈ kept m.P keep torn, isB p.b := by
  intro p hp
  unfold kept at hp
  rcases List.mem_append.1 hp with hp | hp
  · exact h.bP p (List.mem_of_mem_take hp)
  · split at hp
    · rename_i q hq
      rw [List.mem_singleton.1 hp]
      exact isB_take (h.bP q (List.mem_of_getElem? hq))
    · cases hp
theorem jv_crash (h : Jv m) {keep torn : Int} : Jv (m.crash keep torn).2 := by
  unfold Mo.crash
  split
  · exact h
  · refine ⟨⟨h.m0, h.m1, ?_, by simpa using h.max, fun x _ => trivial, fun p hp => absurd hp List.not_mem_nil, fun p hp => absurd hp List.not_mem_nil, ?_⟩, fun x hx => ?_, fun p hp => absurd hp List.not_mem_nil⟩
    · show (m.L.map _).Pairwise _
      rw [List.pairwise_map]
      exact h.sorted.imp fun h => h
    · have := h.left
      have h2 : ((m.L.map fun x => (x.1, seen (kept m.P keep torn) x.1 x.2)).map fun x => (seen [] x.1 x.2).length).sum ≤ m.used := by
        unfold Mo.used
        rw [List.map_map]
        exact sum_le' fun x hx => (kept_le h hx).1
      show (((m.L.map fun x => (x.1, seen (kept m.P keep torn) x.1 x.2)).map fun x => (seen [] x.1 x.2).length).sum : Int) ≤ m.most
      omega
    · obtain ⟨y, hy, rfl⟩ := List.mem_map.1 hx
      exact isB_seen (kept_isB h) (h.bL y hy)
theorem jv_start (h : Jv m) : Jv m.start.2 := by
  unfold Mo.start
  split
  · exact ⟨⟨h.m0, h.m1, h.sorted, h.max, h.ok, h.pn, h.pb, h.left⟩, h.bL, h.bP⟩
  · exact h
def Mo.new (room : Int) : Mo := ⟨[], [], room, false⟩
theorem jv_new {room : Int} (h0 : 0 ≤ room) (h1 : room ≤ 4194304) : Jv (.new room) :=
  ⟨⟨h0, h1, List.Pairwise.nil, Nat.zero_le _, fun _x hx => absurd hx List.not_mem_nil, fun _p hp => absurd hp List.not_mem_nil, fun _p hp => absurd hp List.not_mem_nil, h0⟩, fun _x hx => absurd hx List.not_mem_nil, fun _p hp => absurd hp List.not_mem_nil⟩
end Go.Proofs.Ytjdbmfipciadfaa.A
