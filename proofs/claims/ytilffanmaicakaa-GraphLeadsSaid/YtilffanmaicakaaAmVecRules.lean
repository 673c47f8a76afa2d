/- Rules of rows: a row that is nobody's to write any more; a row that is cut short. -/
import Derived.Test.YtilffanmaicakaaAmRead
namespace Go.Pt
open Go

section
variable {P : Program} {n₀ : Nat} {tab : Nat → Ty} {w : World} {ρ : Ro} {σ : List Ent}

/-- A value and a heap are told in other words. -/
def Told (r : AV) (τ : List Ent) (K : AV → List Ent → Prop) : Prop :=
  ∀ ρ w v, Rel ρ τ w → Val w (Stay ρ τ) ρ τ.length r v → ∃ ρ' τ' r', Stp ρ τ w ρ' τ' w ∧ Rel ρ' τ' w ∧ K r' τ' ∧ Val w (Stay ρ' τ') ρ' τ'.length r' v

theorem call_told {f : FuncId} {args : List AV} {K K' E : AV → List Ent → Prop} (h : CallA P f args σ K' E) (ht : ∀ r τ, K' r τ → Told r τ K) : CallA P f args σ K E := by
  refine ⟨h.1, fun ρ w vs hrel hvs => (h.2 ρ w vs hrel hvs).mono ?_⟩
  rintro en w' ⟨ρ', σ', hst, hr, hen⟩
  cases en with
  | returned v =>
    obtain ⟨r, hk, hv⟩ := hen
    obtain ⟨ρ2, τ2, r2, g1, g2, g3, g4⟩ := ht r σ' hk ρ' w' v hr hv
    exact ⟨ρ2, τ2, hst.trans' g1, g2, r2, g3, g4⟩
  | panicked ch => exact ⟨ρ', σ', hst, hr, hen⟩
  | outgrown => exact ⟨ρ', σ', hst, hr, hen⟩

/-- A row is cut short. -/
theorem told_cut {id s : Nat} {n N : Int} {xs : List AV} {τ : List Ent} {K : AV → List Ent → Prop} (hid : nth τ id = some (.vec s xs)) (hn : n ≤ xs.length)
    (hk : K (.vs (lenN τ) s 0 n n) (snoc (setN τ id .dead) (.vec s (xs.take n.toNat)))) : Told (.vs id s 0 n N) τ K := by
  intro ρ w v hr hv
  rw [nth_eq] at hid
  rw [lenN_eq, snoc_eq] at hk
  have hent := hr.ents id _ hid
  obtain ⟨hp, hfit, hblk, hel⟩ := hent
  obtain ⟨hidl, ad, len, cap, rfl, rfl, hcap, hadr, l, hl, hN, ha⟩ := val_vs hv
  have hl0 : l = 0 := by omega
  subst hl0
  replace ha := ha hp
  rw [Int.toNat_natCast] at hk
  have h1 := rel_row hr (xs' := xs.take len) (q := (ρ.t id).start) (news := []) hid (Nat.le_refl _) (by simp; omega)
    (by
      have := Nat.mul_le_mul_right s (show (xs.take len).length ≤ xs.length by simp; omega)
      omega)
    (fun k x hx => by
      rw [List.getElem?_take] at hx
      split at hx
      · exact hel k x hx
      · simp at hx)
  simp only [World.setCells] at h1
  have hid1 : (setN τ id (.vec s (xs.take len)))[id]? = some (.vec s (xs.take len)) := by rw [setN_eq]; simp [hidl]
  have h2 := rel_mv h1.2 hid1
  have hsl : (setN τ id (.vec s (xs.take len))).length = τ.length := by rw [setN_eq]; simp
  have hss : setN (setN τ id (.vec s (xs.take len))) id .dead = setN τ id .dead := by rw [setN_eq, setN_eq, setN_eq, List.set_set]
  rw [hsl, hss] at h2
  refine ⟨_, _, _, h1.1.trans' h2.1, h2.2, hk, 1, by rw [setN_eq]; simp, ad, len, cap, rfl, rfl, hcap, hadr, 0, rfl, by omega, fun _ hc => ?_⟩
  simp only [Ro.tipAt, if_true]
  exact ha hc

/-- A row is nobody's to write any more. -/
theorem told_sl {id s : Nat} {lo n N : Int} {xs : List AV} {τ : List Ent} {K : AV → List Ent → Prop} (hid : nth τ id = some (.vec s xs)) (h0 : 0 ≤ lo) (hn : lo + n ≤ xs.length)
    (hk : K (.sl s ((xs.take (lo + n).toNat).drop lo.toNat) .no) (setN τ id .dead)) : Told (.vs id s lo n N) τ K := by
  intro ρ w v hr hv
  rw [nth_eq] at hid
  obtain ⟨hp, hfit, hblk, hel⟩ := hr.ents id _ hid
  obtain ⟨hidl, ad, len, cap, rfl, rfl, hcap, hadr, l, rfl, hN, ha⟩ := val_vs hv
  replace ha := ha hp
  have hkill := rel_kill hr id
  refine ⟨_, _, _, hkill.1, hkill.2, hk, ?_⟩
  have e1 : ((l : Int) + len).toNat = l + len := by omega
  rw [e1, Int.toNat_natCast]
  have e2 : ((xs.take (l + len)).drop l).length = len := by simp; omega
  refine val_sl_mk e2.symm hcap trivial fun hne => ?_
  have hlen : 0 < len := by
    rcases Nat.eq_zero_or_pos len with h | h
    · exfalso; apply hne; exact List.eq_nil_of_length_eq_zero (by rw [e2]; exact h)
    · exact h
  obtain ⟨rfl, hend⟩ := ha (by omega)
  refine ⟨_, _, rfl, fun i x hi => ?_⟩
  rw [List.getElem?_drop, List.getElem?_take] at hi
  split at hi
  case isFalse => simp at hi
  rename_i hlt
  obtain ⟨vs, g1, g2, g3⟩ := hel _ x hi
  refine ⟨vs, g1.imp fun _ _ h => h.keep hkill.1.keeps.zero, g2, fun j u hu => ?_⟩
  obtain ⟨g4, g5⟩ := g3 j u hu
  have hj := lt_of_get hu
  rw [g2] at hj
  have hb := el_lt (lt_of_get hi) hj
  rw [show (ρ.t id).start + l * s + i * s + j = (ρ.t id).start + (l + i) * s + j by rw [Nat.add_mul]; omega]
  refine ⟨⟨?_, ?_⟩, g4, g5⟩
  · rintro ⟨i', f, hi', ho⟩
    rcases get_set hi' with ⟨rfl, rfl⟩ | ⟨hne', hi'⟩
    · exact ho.elim
    · exact hne' (hr.disj i' id f _ _ _ hi' hid ho ⟨rfl, by omega, by omega⟩)
  · exact hr.xown _ _ ⟨id, _, hid, rfl, by omega, by omega⟩

/-- The same slots and memory, told in other words. -/
def Turn (n₀ : Nat) (s t : St) : Prop := ∀ ρ a w, RelS ρ s a w → ∃ ρ', RelS ρ' t a w ∧ StpN n₀ ρ s.hp w ρ' t.hp w

theorem Turn.le {s t : St} (h : Le s t) (hn : n₀ ≤ t.hp.length) : Turn n₀ s t := fun ρ _ _ hs => ⟨ρ, (h.rel hs).1, (h.rel hs).2 n₀ hn⟩

theorem Turn.trans {s t u : St} (h : Turn n₀ s t) (k : Turn n₀ t u) : Turn n₀ s u := fun ρ a w hs => by
  obtain ⟨ρ1, h1, h2⟩ := h ρ a w hs
  obtain ⟨ρ2, k1, k2⟩ := k ρ1 a w h1
  exact ⟨ρ2, k1, h2.trans k2 (Nat.le_refl _)⟩

def St.packed (s : St) (l : List Nat) : St := ⟨s.env.map fun x => (x.1, ren (idx l) 6 x.2), Go.Pt.pack l s.hp, s.n⟩

/-- The places get other numbers, the first n₀ theirs. -/
theorem Turn.pack {s : St} (l : List Nat) (hnd : (rangeN n₀ ++ l).Nodup) (hn : n₀ ≤ s.hp.length) : Turn n₀ s (s.packed (rangeN n₀ ++ l)) := by
  intro ρ a w hs
  have hp := rel_pack hs.rel hnd (x := ρ.x) ρ.m (fun b o h => .inl h)
  have hlen : (rangeN n₀ ++ l).length = n₀ + l.length := by rw [rangeN_eq]; simp
  have hle := (Stp.refl ρ s.hp w).le hn
  refine ⟨ρ.pack (rangeN n₀ ++ l) ρ.x ρ.m, ⟨hs.defers, hs.size, hp.1, fun t => ?_⟩, ?_⟩
  · show Val w _ _ (Go.Pt.pack (rangeN n₀ ++ l) s.hp).length (look (s.env.map _) t) _
    rw [look_ren, pack_len]
    exact ren_val pack_ren (fun b o u hb _ => hp.2 b o hb) 6 (hs.vals t).choose_spec
  · refine ⟨rfl, rfl, rfl, Nat.le_refl _, fun b ob h => ⟨ob, h, okBlk.refl _ _⟩, fun b o hb ho => ?_, by simp only [St.packed, pack_len, hlen]; omega, fun i hi => ?_, fun i hi => ?_, rfl, rfl⟩
    · obtain ⟨i, e, _, he, ho'⟩ := pack_own ho
      exact ⟨i, e, he, ho'⟩
    · simp [Ro.pack, List.getD, rangeN_get hi l]
    · left; simp [Ro.pack, List.getD, rangeN_get hi l]

/-- A variable's cells, told otherwise. -/
theorem rel_reread (h : Rel ρ σ w) {i : Nat} {cs cs' : List AV} (hi : σ[i]? = some (.var cs)) (hv : ∀ vs, All2 (Val w (Stay ρ σ) ρ σ.length) cs vs → All2 (Val w (Stay ρ σ) ρ σ.length) cs' vs) :
    Stp ρ σ w ρ (setN σ i (.var cs')) w ∧ Rel ρ (setN σ i (.var cs')) w := by
  obtain ⟨vs, e, h1, h2⟩ := h.ents i _ hi
  have := rel_store h (cs' := cs') (vs' := vs) hi h2 rfl (hv vs h1)
  have hw : w.setRow (ρ.b i) vs.toArray = w := by
    have hh : (w.setRow (ρ.b i) vs.toArray).heap = w.heap := by
      apply Array.ext_getElem?
      intro k
      by_cases hk : k = ρ.b i
      · subst hk; rw [setRow_heap w _ _ _ _ _ h2, h2]
      · rw [setRow_other w _ _ _ hk]
    have : w.setRow (ρ.b i) vs.toArray = { w with heap := (w.setRow (ρ.b i) vs.toArray).heap } := rfl
    rw [this, hh]
  rw [hw] at this
  exact this

theorem set_same {α : Type} : ∀ {l : List α} {n : Nat} {a : α}, l[n]? = some a → l.set n a = l
  | [], _, _, h => by simp at h
  | x :: l, 0, a, h => by simp at h; simp [h]
  | x :: l, n + 1, a, h => by simp at h; simp [set_same h]

/-- A cell that is nil is read as an empty row. -/
theorem turn_nil {s : St} (i j z : Nat) {cs : List AV} (hi : nth s.hp i = some (.var cs)) (hj : nth cs j = some .nils) (hn : n₀ ≤ s.hp.length) :
    Turn n₀ s ⟨s.env, setN (snoc s.hp (.vec z [])) i (.var (setN cs j (.vs (lenN s.hp) z 0 0 0))), s.n⟩ := by
  intro ρ a w hs
  rw [nth_eq] at hi hj
  have h1 := rel_new hs.rel (s := z) (xs := []) (l := ⟨0, 0, 0, 0⟩) (w' := w) rfl (by simp) rfl rfl rfl (fun _ _ h => h) (Nat.le_refl _) (fun h => absurd h (Nat.lt_irrefl 0)) (fun k x hx => by simp at hx)
  rw [← snoc_eq] at h1
  have hlt := lt_of_get hi
  have hi2 : (snoc s.hp (.vec z []))[i]? = some (.var cs) := by rw [snoc_eq, List.getElem?_append_left hlt]; exact hi
  have h2 := rel_reread h1.2 (i := i) (cs := cs) (cs' := setN cs j (.vs (lenN s.hp) z 0 0 0)) hi2 (fun vs hv => by
    obtain ⟨v, hv1, hv2⟩ := hv.get hj
    have := hv.set (n := j) (a := .vs (lenN s.hp) z 0 0 0) (b := v) (by
      have := val_nils hv2; subst this
      refine ⟨1, by rw [snoc_eq, lenN_eq]; simp, none, 0, 0, rfl, rfl, Nat.le_refl _, fun h => absurd h (Nat.lt_irrefl 0), 0, rfl, by simp, fun _ h => absurd h (Nat.lt_irrefl 0)⟩)
    rwa [set_same hv1] at this)
  have hst := h1.1.trans' h2.1
  exact ⟨ρ.tipAt s.hp.length ⟨0, 0, 0, 0⟩, ⟨hs.defers, hs.size, h2.2, fun t => (hs.vals t).keep hst.keeps⟩, hst.le hn⟩

theorem loop_turn_at {J : Jd} (hJ : J = std P n₀) (ht : TabOk P tab) {c : Code} {Q : Ex → St → Prop} {s : St} {β : Type} (T : β → St) (inv : β → Prop) (μ : β → Nat) (b0 : β) (h0 : inv b0) (hle : Turn n₀ s (T b0)) (hn : ∀ b, n₀ ≤ (T b).hp.length)
    (round : ∀ b, inv b → ∀ N : St → Prop, (∀ s' b', inv b' → μ b' < μ b → Turn n₀ s' (T b') → N s') → awp J tab c (thenQ N Q) (T b)) : J.code (.loop c) Q s := by
  subst hJ
  have rnd : ∀ b, inv b → CodeA P n₀ c (thenQ (fun s' => ∃ b', inv b' ∧ μ b' < μ b ∧ Turn n₀ s' (T b')) Q) (T b) :=
    fun b hb => awp_sound ht _ _ _ (round b hb _ fun s' b' h1 h2 h3 => ⟨b', h1, h2, h3⟩)
  have key : ∀ n (bb : β), μ bb = n → inv bb → ∀ rd ρ a w, IsRound rd w → RelS ρ (T bb) a w → ∀ (b : Frame) (k : List Item) (cs : List Frame), b.roundOf = rd →
      ∃ e a' w', Post n₀ ρ (T bb).hp w Q e a' w' ∧ ArrivesIn (Machine.fenced P (fen rd)) P (lone (b.atR a (.code c :: .inLoop c :: k)) cs w) b k cs e a' w' := by
    intro n
    induction n using Nat.strongRecOn with
    | _ n ih =>
      intro bb hμ hinv rd ρ a w hrd hr b k cs hro
      have room : ∀ m, (fen rd).room m := fun m d hd => by simp [Fence.wide] at hd
      obtain ⟨e, a₁, w₁, ⟨x1, s1, ρ1, hq, hx, hr1, hst⟩, harr⟩ := rnd bb hinv rd ρ a w (hn bb) hrd hr b (.inLoop c :: k) cs hro trivial (room _)
      cases x1 with
      | normal =>
        simp only [exOk] at hx; subst hx
        obtain ⟨b', hinv', hlt, hle'⟩ := hq
        obtain ⟨ρ2, hr', hst'⟩ := hle' ρ1 a₁ w₁ hr1
        obtain ⟨e₂, a₂, w₂, hq₂, harr₂⟩ := ih (μ b') (hμ ▸ hlt) b' rfl hinv' rd ρ2 a₁ w₁ (hrd.step hst) hr' b k cs hro
        exact ⟨e₂, a₂, w₂, seq_post (hst.trans hst' (Nat.le_refl _)) hq₂, .of_steps (StepsIn.trans harr (.one (fenced_calm (n := 0) trivial (room _) rfl) stepR_inLoop)) harr₂⟩
      | exit i => simp only [exOk] at hx; subst hx; exact ⟨_, a₁, w₁, ⟨.exit i, s1, ρ1, hq, rfl, hr1, hst⟩, .pass (x := .inLoop c) rfl (fun _ _ => .inl (by simp)) harr⟩
      | ret => simp only [exOk] at hx; subst hx; exact ⟨_, a₁, w₁, ⟨.ret, s1, ρ1, hq, rfl, hr1, hst⟩, .pass (x := .inLoop c) rfl (fun _ _ => .inl (by simp)) harr⟩
      | pan x => obtain ⟨v, rfl, hv⟩ := hx; exact ⟨_, a₁, w₁, ⟨.pan x, s1, ρ1, hq, ⟨v, rfl, hv⟩, hr1, hst⟩, .pass (x := .inLoop c) rfl (fun _ _ => .inl (by simp)) harr⟩
  intro rd ρ a w hn0 hrd hs b k cs hro hb hroom
  obtain ⟨ρ0, hr0, hst0⟩ := hle ρ a w hs
  obtain ⟨e, a', w', hq, harr⟩ := key _ b0 rfl h0 rd ρ0 a w hrd hr0 b k cs hro
  exact ⟨e, a', w', seq_post hst0 hq, .of_steps (.one (fenced_calm (n := 0) hb hroom rfl) stepR_loop) harr⟩

end
end Go.Pt
