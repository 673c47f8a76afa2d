/- Each operation that the abstract machine does is one that the model does: slice expressions. -/
import Derived.Test.YtilffanmaicakaaAmOps6
import Derived.Laws.Slices
import Derived.Laws.Strings2
namespace Go.Pt
open Go

section
variable {P : Program} {n₀ : Nat} {tab : Nat → Ty} {w : World} {ρ : Ro} {s : St} {a : Act} {o : Oper} {K E : AV → List Ent → Prop} {next : Act → World → Prop} {Q : Exit → Act → World → Prop}

/-- A bound, as the model has it. -/
theorem optI_val {x : Option Operand} {n : Option Int} (hs : RelS ρ s a w) (h : optI s x = some n) :
    (n = none ∧ x.map a.eval = none) ∨ ∃ i k, n = some i ∧ x.map a.eval = some (.int k i) := by
  cases x with
  | none => simp [optI] at h; exact .inl ⟨h.symm, rfl⟩
  | some x =>
    simp only [optI] at h
    split at h
    · rename_i k i e
      simp only [Option.some.injEq] at h
      have hv := ev_val hs x
      rw [e] at hv
      exact .inr ⟨i, k, h.symm, by simp [val_int hv]⟩
    · simp at h

/-- A piece of a slice. -/
theorem val_piece {S : Nat → Nat → Prop} {n z : Nat} {xs : List AV} {tk : Tok} {v : Value} (h : Val w S ρ n (.sl z xs tk) v) :
    ∃ ad len cap, v = .slice ad len cap ∧ len = xs.length ∧ len ≤ cap ∧
      (∀ l : Nat, l ≤ len → Val w S ρ n (.sl z (xs.drop l) tk) (sliced ad l len cap z)) ∧
      (∀ l h m : Nat, l ≤ h → h ≤ m → h ≤ len → m ≤ cap → Val w S ρ n (.sl z ((xs.take h).drop l) .no) (sliced ad l h m z)) ∧
      (∀ l h : Nat, l ≤ h → h ≤ len → Val w S ρ n (.sl z ((xs.take h).drop l) .full) (sliced ad l h h z)) := by
  obtain ⟨ad, len, cap, rfl, h1, h2, h3, h4⟩ := val_sl h
  have rd : ∀ (l h m : Nat), l ≤ h → h ≤ m → h ≤ len → m ≤ cap → (xs.take h).drop l ≠ [] → ∃ b o, (if m = l then ad else ad.map (·.add (l * z))) = some ⟨b, o, none⟩ ∧
      ∀ (i : Nat) x, ((xs.take h).drop l)[i]? = some x → ∃ vs, All2 (Val w S ρ 0) x.cells vs ∧ vs.length = z ∧ Reads w S b (o + i * z) vs := by
    intro l h m hl hm hh hmc hne
    have hlt : l < h := by
      rcases Nat.lt_or_ge l h with h' | h'
      · exact h'
      · exfalso; apply hne; rw [List.drop_eq_nil_iff]; simp; omega
    obtain ⟨b, o, e, hg⟩ := h4 (by intro e; rw [e] at h1; simp at h1; omega)
    subst e
    rw [if_neg (by omega)]
    refine ⟨b, o + l * z, ?_, fun i x hi => ?_⟩
    · simp only [Option.map_some, Addr.add]
      split
      · rename_i e0; simp [e0]
      · rfl
    · rw [List.getElem?_drop, List.getElem?_take] at hi
      split at hi
      · obtain ⟨vs, a1, a2, a3⟩ := hg _ _ hi
        refine ⟨vs, a1, a2, ?_⟩
        rw [Nat.add_assoc, ← Nat.add_mul]; exact a3
      · simp at hi
  refine ⟨ad, len, cap, rfl, h1, h2, fun l hl => ?_, fun l h m hl hm hh hmc => ?_, fun l h hl hh => ?_⟩
  · have e : xs.drop l = (xs.take len).drop l := by rw [List.take_of_length_le (by omega)]
    refine val_sl_mk (by simp; omega) (by omega) ?_ (fun hne => ?_)
    · cases tk with
      | no => trivial
      | full => simp only [tokOk] at h3 ⊢; omega
      | tip id pos =>
        obtain ⟨k1, k2, k3⟩ := h3
        refine ⟨k1, k2, fun e' => ?_⟩
        obtain ⟨g1, g2⟩ := k3 e'
        refine ⟨by rw [show cap - l - (len - l) = cap - len by omega]; exact g1, fun hlt => ?_⟩
        obtain ⟨o', e1, e2⟩ := g2 (by omega)
        refine ⟨o' + l * z, ?_, ?_⟩
        · rw [if_neg (by omega), e1]
          simp only [Option.map_some, Addr.add]
          split
          · rename_i e0; simp [e0]
          · rfl
        · rw [← e2, Nat.add_assoc, ← Nat.add_mul, Nat.add_sub_cancel' hl]
    · rw [e] at hne ⊢
      exact rd l len cap hl h2 (Nat.le_refl _) (Nat.le_refl _) hne
  · exact val_sl_mk (by simp; omega) (by omega) trivial (rd l h m hl hm hh hmc)
  · exact val_sl_mk (by simp; omega) (Nat.le_refl _) rfl (rd l h h hl (Nat.le_refl _) hh (by omega))

theorem sound_slice (ht : TabOk P tab) {t : TypeId} {x : Operand} {lo hi mx : Option Operand} (ho : o.op = .slice t x lo hi mx) (hs : RelS ρ s a w) (h : aop (std P n₀) tab (.slice t x lo hi mx) s K E) (hg : Goes ρ s a w o.dst K next) : o.wp P a w next Q := by
  have hx := ev_val hs x
  simp only [aop] at h
  split at h
  case h_2 => exact h.elim
  rename_i l hl
  split at h
  case h_2 => exact h.elim
  rename_i hh hhi
  split at h
  case h_2 => exact h.elim
  rename_i m hm
  have bl := optI_val hs hl
  have bh := optI_val hs hhi
  have bm := optI_val hs hm
  have fin : ∀ {v : AV} {r : Value}, (Instr.sliceAt t (a.eval x) (lo.map a.eval) (hi.map a.eval) (mx.map a.eval)).run P w = .ok r w → K v s.hp → Val w (Stay ρ s.hp) ρ s.hp.length v r → o.wp P a w next Q := by
    intro v r hr hk hv
    exact wp_value (by simp [execOp, ho, hr]) (hg.here hs hk hv)
  unfold slA at h
  split at h
  · rename_i e hk
    have hu := und_slice ht hk
    have hue : P.underlying t = some (.slice (P.elem t)) := by rw [hu]; simp [Program.elem, hu]
    have hel : P.elem t = e := by simp [Program.elem, hu]
    split at h
    · exact h.elim
    rename_i hok
    obtain ⟨i', d', z', hty'⟩ := ht.ok hok
    have hz := run_size hty' w
    -- a slice by value
    have key : ∀ {z : Nat} {xs : List AV} {tk : Tok}, z = (tab e).size → Val w (Stay ρ s.hp) ρ s.hp.length (.sl z xs tk) (a.eval x) → slX (std P n₀) z xs tk l hh m (fun v => K v s.hp) → o.wp P a w next Q := by
      intro z xs tk hzz hv hq
      subst hzz
      obtain ⟨ad, len, cap, hve, hl1, hl2, p1, p2, p3⟩ := val_piece hv
      have hxs : (xs.length : Int) = len := by rw [hl1]
      rw [hve] at fin
      unfold slX at hq
      rcases bh with ⟨rfl, bh⟩ | ⟨ih, kh, rfl, bh⟩ <;> rcases bm with ⟨rfl, bm⟩ | ⟨im, km, rfl, bm⟩ <;> rcases bl with ⟨rfl, bl⟩ | ⟨il, kl, rfl, bl⟩ <;> rw [bl, bh, bm] at fin <;> simp only at hq <;> try exact hq.elim
      · refine fin (by rw [run_sliceAt_slice w t _ _ _ _ hue, run_slice_all w t ad len cap hue, hel, hz]; rfl) hq ?_
        have := p1 0 (Nat.zero_le _); simpa using this
      · obtain ⟨h1, h2, h3⟩ := hq
        replace h1 : 0 ≤ il := h1
        replace h2 : il ≤ xs.length := h2
        refine fin (by rw [run_sliceAt_slice w t _ _ _ _ hue, run_slice_l w t ad len cap hue _ _ h1 (by omega), hel, hz]; rfl) h3 (p1 _ (by omega))
      · obtain ⟨h1, h2, h3⟩ := hq
        replace h1 : 0 ≤ ih := h1
        replace h2 : ih ≤ xs.length := h2
        refine fin (by rw [run_sliceAt_slice w t _ _ _ _ hue, run_slice_h w t ad len cap hue _ _ h1 (by omega), hel, hz]; rfl) h3 (p2 0 _ _ (Nat.zero_le _) (by omega) (by omega) (Nat.le_refl _))
      · obtain ⟨h1, h2, h3, h4⟩ := hq
        replace h1 : 0 ≤ il := h1
        replace h2 : il ≤ ih := h2
        replace h3 : ih ≤ xs.length := h3
        refine fin (by rw [run_sliceAt_slice w t _ _ _ _ hue, run_slice_lh w t ad len cap hue _ _ _ _ h1 h2 (by omega), hel, hz]; rfl) h4 (p2 _ _ _ (by omega) (by omega) (by omega) (Nat.le_refl _))
      · obtain ⟨h1, h2, h3, h4⟩ := hq
        replace h1 : 0 ≤ ih := h1
        replace h2 : ih ≤ im := h2
        replace h3 : im ≤ xs.length := h3
        by_cases e : ih = im
        · subst e
          refine fin (by rw [run_sliceAt_slice w t _ _ _ _ hue, run_slice_hm w t ad len cap hue _ _ _ _ h1 h2 (by omega), hel, hz]; rfl) (h4 .full fun _ => rfl) (p3 0 _ (Nat.zero_le _) (by omega))
        · refine fin (by rw [run_sliceAt_slice w t _ _ _ _ hue, run_slice_hm w t ad len cap hue _ _ _ _ h1 h2 (by omega), hel, hz]; rfl) (h4 .no fun e' => absurd e' e) (p2 0 _ _ (Nat.zero_le _) (by omega) (by omega) (by omega))
      · obtain ⟨h0, h1, h2, h3, h4⟩ := hq
        replace h0 : 0 ≤ il := h0
        replace h1 : il ≤ ih := h1
        replace h2 : ih ≤ im := h2
        replace h3 : im ≤ xs.length := h3
        by_cases e : ih = im
        · subst e
          refine fin (by rw [run_sliceAt_slice w t _ _ _ _ hue, run_slice_lhm w t ad len cap hue _ _ _ _ _ _ h0 h1 h2 (by omega), hel, hz]; rfl) (h4 .full fun _ => rfl) (p3 _ _ (by omega) (by omega))
        · refine fin (by rw [run_sliceAt_slice w t _ _ _ _ hue, run_slice_lhm w t ad len cap hue _ _ _ _ _ _ h0 h1 h2 (by omega), hel, hz]; rfl) (h4 .no fun e' => absurd e' e) (p2 _ _ _ (by omega) (by omega) (by omega) (by omega))
    split at h
    · rename_i z xs tk ex
      split at h
      case h_2 => exact h.elim
      rename_i hzz
      rw [ex] at hx
      exact key (Nat.eq_of_beq_eq_true hzz) hx h
    · rename_i ex
      rw [ex] at hx
      refine key rfl ?_ h
      rw [val_nils hx]
      exact val_sl_mk rfl (Nat.le_refl _) rfl (fun h => absurd rfl h)
    · rename_i id z o n N ex
      split at h
      case h_2 => exact h.elim
      rename_i hzz
      rw [ex] at hx
      have hzz' := Nat.eq_of_beq_eq_true hzz
      subst hzz'
      have hxv := hx
      obtain ⟨hid, ad, len, cap, hve, rfl, hcap, hadr, l0, rfl, hN, ha⟩ := val_vs hxv
      -- a piece
      have piece : ∀ (l' h' m' : Nat) (o' N' : Int), l' ≤ h' → h' ≤ m' → m' ≤ cap → o' = (l0 : Int) + l' → (N' ≤ N ∧ N' ≤ (l0 : Int) + m') → Val w (Stay ρ s.hp) ρ s.hp.length (.vs id (tab e).size o' ((h' : Int) - l') N') (sliced ad l' h' m' (tab e).size) := by
        intro l' h' m' o' N' h1 h2 h3 h4 h5
        refine ⟨1, hid, _, _, _, rfl, by omega, by omega, fun hc => ?_, l0 + l', by omega, by omega, fun hp hc => ?_⟩
        · obtain ⟨b, q, rfl⟩ := hadr (by omega)
          rw [if_neg (by omega)]
          exact ⟨b, q + l' * (tab e).size, by simp [Addr.add_lit]⟩
        · obtain ⟨g1, g2⟩ := ha hp (by omega)
          rw [if_neg (by omega), g1]
          refine ⟨by simp [Addr.add_lit, Nat.add_mul, Nat.add_assoc], ?_⟩
          rw [show l0 + l' + (m' - l') = l0 + m' by omega]
          have := Nat.mul_le_mul_right (tab e).size (show l0 + m' ≤ l0 + cap by omega)
          omega
      rw [hve] at fin
      unfold slV at h
      rcases bh with ⟨rfl, bh⟩ | ⟨ih, kh, rfl, bh⟩ <;> rcases bm with ⟨rfl, bm⟩ | ⟨im, km, rfl, bm⟩ <;> rcases bl with ⟨rfl, bl⟩ | ⟨il, kl, rfl, bl⟩ <;> rw [bl, bh, bm] at fin <;> simp only at h <;> try exact h.elim
      · refine fin (by rw [run_sliceAt_slice w t _ _ _ _ hue, run_slice_all w t ad len cap hue, hel, hz]; rfl) h ?_
        have := piece 0 len cap l0 N (Nat.zero_le _) hcap (Nat.le_refl _) (by omega) ⟨Int.le_refl _, by omega⟩
        simpa using this
      · obtain ⟨h1, h2, h3⟩ := h
        replace h1 : 0 ≤ il := h1
        replace h2 : il ≤ len := h2
        replace h3 : K (.vs id (tab e).size ((l0 : Int) + il) ((len : Int) - il) N) s.hp := h3
        refine fin (by rw [run_sliceAt_slice w t _ _ _ _ hue, run_slice_l w t ad len cap hue _ _ h1 (by omega), hel, hz]; rfl) h3 ?_
        have := piece il.toNat len cap (l0 + il) N (by omega) hcap (Nat.le_refl _) (by omega) ⟨Int.le_refl _, by omega⟩
        rwa [show ((il.toNat : Nat) : Int) = il by omega] at this
      · obtain ⟨h1, h2, h3⟩ := h
        replace h1 : 0 ≤ ih := h1
        replace h2 : (l0 : Int) + ih ≤ N := h2
        refine fin (by rw [run_sliceAt_slice w t _ _ _ _ hue, run_slice_h w t ad len cap hue _ _ h1 (by omega), hel, hz]; rfl) h3 ?_
        have := piece 0 ih.toNat cap l0 N (by omega) (by omega) (Nat.le_refl _) (by omega) ⟨Int.le_refl _, by omega⟩
        simpa [show ((ih.toNat : Nat) : Int) = ih by omega] using this
      · obtain ⟨h1, h2, h3, h4⟩ := h
        replace h1 : 0 ≤ il := h1
        replace h2 : il ≤ ih := h2
        replace h3 : (l0 : Int) + ih ≤ N := h3
        replace h4 : K (.vs id (tab e).size ((l0 : Int) + il) (ih - il) N) s.hp := h4
        refine fin (by rw [run_sliceAt_slice w t _ _ _ _ hue, run_slice_lh w t ad len cap hue _ _ _ _ h1 h2 (by omega), hel, hz]; rfl) h4 ?_
        have := piece il.toNat ih.toNat cap (l0 + il) N (by omega) (by omega) (Nat.le_refl _) (by omega) ⟨Int.le_refl _, by omega⟩
        rwa [show ((il.toNat : Nat) : Int) = il by omega, show ((ih.toNat : Nat) : Int) = ih by omega] at this
      · obtain ⟨h1, h2, h3, h4⟩ := h
        replace h1 : 0 ≤ ih := h1
        replace h2 : ih ≤ im := h2
        replace h3 : (l0 : Int) + im ≤ N := h3
        replace h4 : K (.vs id (tab e).size l0 ih ((l0 : Int) + im)) s.hp := h4
        refine fin (by rw [run_sliceAt_slice w t _ _ _ _ hue, run_slice_hm w t ad len cap hue _ _ _ _ h1 h2 (by omega), hel, hz]; rfl) h4 ?_
        have := piece 0 ih.toNat im.toNat l0 (l0 + im) (by omega) (by omega) (by omega) (by omega) ⟨by omega, by omega⟩
        simpa [show ((ih.toNat : Nat) : Int) = ih by omega] using this
      · obtain ⟨h0, h1, h2, h3, h4⟩ := h
        replace h0 : 0 ≤ il := h0
        replace h1 : il ≤ ih := h1
        replace h2 : ih ≤ im := h2
        replace h3 : (l0 : Int) + im ≤ N := h3
        replace h4 : K (.vs id (tab e).size ((l0 : Int) + il) (ih - il) ((l0 : Int) + im)) s.hp := h4
        refine fin (by rw [run_sliceAt_slice w t _ _ _ _ hue, run_slice_lhm w t ad len cap hue _ _ _ _ _ _ h0 h1 h2 (by omega), hel, hz]; rfl) h4 ?_
        have := piece il.toNat ih.toNat im.toNat (l0 + il) (l0 + im) (by omega) (by omega) (by omega) (by omega) ⟨by omega, by omega⟩
        rwa [show ((il.toNat : Nat) : Int) = il by omega, show ((ih.toNat : Nat) : Int) = ih by omega] at this
    · exact h.elim
  · rename_i hk
    obtain ⟨i, d, z, hty⟩ := ht.kind hk (by simp)
    have hd : d = .string := by have := hty.k; rw [hk] at this; cases d <;> simp [tkOf] at this; rfl
    subst hd
    have hu := hty.und
    split at h
    case h_2 => exact h.elim
    rename_i b ex
    rw [ex] at hx
    rw [val_str hx] at fin
    unfold slS at h
    rcases bm with ⟨rfl, bm⟩ | ⟨im, km, rfl, bm⟩
    case inr => exact h.elim
    rcases bh with ⟨rfl, bh⟩ | ⟨ih, kh, rfl, bh⟩ <;> rcases bl with ⟨rfl, bl⟩ | ⟨il, kl, rfl, bl⟩ <;> rw [bl, bh, bm] at fin <;> simp only at h
    · refine fin (by rw [run_sliceAt_string w t _ _ _ _ hu, run_slice_string_all w t b hu]) h ⟨1, ?_⟩
      show Value.string (b.extract 0 b.size) = .string b
      simp
    · obtain ⟨h1, h2, h3⟩ := h
      exact fin (by rw [run_sliceAt_string w t _ _ _ _ hu, run_slice_string_l w t b hu _ _ h1 h2]; rfl) h3 ⟨1, rfl⟩
    · obtain ⟨h1, h2, h3⟩ := h
      exact fin (by rw [run_sliceAt_string w t _ _ _ _ hu, run_slice_string_h w t b hu _ _ h1 h2]; rfl) h3 ⟨1, rfl⟩
    · obtain ⟨h1, h2, h3, h4⟩ := h
      exact fin (by rw [run_sliceAt_string w t _ _ _ _ hu, run_slice_string w t b _ _ _ _ hu h1 h2 h3]; rfl) h4 ⟨1, rfl⟩
  · exact h.elim

end
end Go.Pt
