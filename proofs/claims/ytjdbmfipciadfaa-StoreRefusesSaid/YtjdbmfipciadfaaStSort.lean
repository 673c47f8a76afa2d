/- slices.Sort on a row of strings. -/import Derived.Test.YtjdbmfipciadfaaStKeys
import Derived.Test.YtjdbmfipciadfaaStShelf
import Derived.Shelf.GgSortFunc.RowK
import Derived.WalkKit
namespace Go.Proofs.Ytjdbmfipciadfaa.A
open Go Go.Shelf Go.RowKit Go.Lib Go.Sort Go.Proofs
def bl (b : ByteArray) : List UInt8 := b.data.toList
def lb (l : List UInt8) : ByteArray := ⟨l.toArray⟩
theorem lb_bl (b : ByteArray) : lb (bl b) = b := by simp [lb, bl]
theorem bl_lb (l : List UInt8) : bl (lb l) = l := by simp [lb, bl]
def sortL (l : List (List UInt8)) : List (List UInt8) := l.mergeSort fun x y => decide (x ≤ y)
def sortS (ks : List ByteArray) : List ByteArray := (sortL (ks.map bl)).map lb
theorem putRow_map {α : Type} [Inhabited α] (enc : α → Value) (w : World) (blk off : Nat) (d : Array α) : putRow enc w blk off d = putRow id w blk off (d.map enc) := by
  have : putCells enc off d = putCells id off (d.map enc) := by
    funext c
    apply Array.ext_getElem?
    intro k
    simp only [putCells, Array.getElem?_mapIdx, Array.size_map]
    cases c[k]? with
    | none => rfl
    | some x =>
      simp only [Option.map_some, Option.some.injEq]
      by_cases hk : off ≤ k ∧ k < off + d.size
      · rw [if_pos hk, if_pos hk, getElem!_pos d (k - off) (by omega), getElem!_pos (d.map enc) (k - off) (by simp; omega)]
        simp
      · rw [if_neg hk, if_neg hk]
  unfold putRow
  rw [this]
section
open Go.Pt
variable {ρ : Ro} {σ : List Ent} {w : World}
theorem rel_aheadS (h : Rel ρ σ w) (n : Nat) : Stp ρ σ w ρ σ (Sort.ahead w n) ∧ Rel ρ σ (Sort.ahead w n) := rel_same h rfl rfl rfl rfl
theorem rel_growS (h : Rel ρ σ w) : ∀ (l : List Obj), Stp ρ σ w ρ σ (grow w l.toArray) ∧ Rel ρ σ (grow w l.toArray) := by
  intro l
  induction l generalizing w with
  | nil => rw [grow_empty]; exact ⟨Stp.refl _ _ _, h⟩
  | cons o l ih =>
    have h1 := rel_free (s := ⟨[], σ, 0⟩) h o
    rw [alloc_eq_grow] at h1
    have h2 := ih h1.2
    rw [grow_grow] at h2
    rw [show (o :: l).toArray = #[o] ++ l.toArray by simp]
    exact ⟨h1.1.trans' h2.1, h2.2⟩
theorem setMany_allS : ∀ (vs : List Value) (pre : List Value) (F : Array Value), F.size = pre.length + vs.length → (∀ i : Nat, i < pre.length → F[i]? = pre[i]?) → setMany F pre.length vs = (pre ++ vs).toArray
  | [], pre, F, hs, hp => by
    apply Array.ext_getElem?
    intro i
    simp only [setMany]
    by_cases h : i < pre.length
    · rw [hp i h]; simp
    · rw [Array.getElem?_eq_none (by simp at hs; omega)]; simp; omega
  | v :: vs, pre, F, hs, hp => by
    have := setMany_allS vs (pre ++ [v]) (F.setIfInBounds pre.length v) (by simp at hs ⊢; omega) (fun i hi => by
      simp at hi hs
      rw [Array.getElem?_setIfInBounds]
      by_cases e : pre.length = i
      · subst e; simp; omega
      · rw [if_neg e, hp i (by omega), List.getElem?_append_left (by omega)])
    simp only [setMany]
    rw [List.length_append] at this
    simp only [List.length_cons, List.length_nil, Nat.zero_add] at this
    rw [this, List.append_assoc]; rfl
theorem sort_worldS (blk off n : Nat) (d d' : Array (List UInt8)) (hH : Holds encStr w blk off d) (hs : d'.size = d.size) :
    putRow encStr (Sort.ahead w n) blk off d' = Sort.ahead (w.setCells blk off (d'.map encStr).toList) n := by
  rw [putRow_ahead]
  have h1 := setCells_putRow w blk off (d'.map encStr).toList 0 (d.map encStr) (by simp [hs])
  rw [← putRow_map, putRow_self _ _ _ _ _ hH] at h1
  rw [Nat.add_zero] at h1
  have h2 := setMany_allS (d'.map encStr).toList [] (d.map encStr) (by simp [hs]) (by simp)
  simp only [List.length_nil, List.nil_append, Array.toArray_toList] at h2
  rw [h1, h2, ← putRow_map]
theorem f155_some (l : List ByteArray) (hl : l.length < 2 ^ 42) (hne : l ≠ []) (q : Int) (hq : q = l.length)
    (K E : AV → List Ent → Prop) (h : K .junk [.vec 1 ((sortS l).map nav)]) : CallA Try.prog 155 [.vs 0 1 0 q q] [.vec 1 (l.map nav)] K E := by
  refine ⟨⟨_, _, Try.func155, rfl, rfl⟩, fun ρ w vs hrel hvs => ?_⟩
  match vs, hvs with
  | [v], ⟨hv, _⟩ =>
    obtain ⟨hpos, hfit, hblk, hel⟩ := hrel.ents 0 _ rfl
    obtain ⟨_, ad, len, cap, rfl, hlen, hcap, _, lo, hlo, hN, ha⟩ := val_vs hv
    have hlo0 : lo = 0 := by omega
    subst hlo0
    have hpl : 0 < l.length := by cases l with | nil => exact absurd rfl hne | cons _ _ => simp
    obtain ⟨rfl, hend⟩ := ha hpos (by omega)
    have hlen' : len = (l.map bl).length := by rw [List.length_map]; omega
    subst hlen'
    rw [Nat.zero_mul, Nat.add_zero] at ha ⊢
    have hlm : (l.map nav).length = l.length := by simp
    rw [hlm] at hfit
    obtain ⟨c, e, f, hc, hcs', hfz⟩ := hblk (by omega)
    have hH : Holds encStr w (ρ.t 0).blk (ρ.t 0).start (l.map bl).toArray := by
      intro j hj
      have hj' : j < l.length := by simpa using hj
      obtain ⟨vs, v1, v2, v3⟩ := hel j (nav l[j]) (by rw [List.getElem?_map, List.getElem?_eq_getElem hj']; rfl)
      refine ⟨?_, hfz _ (by omega) (by omega)⟩
      match vs, v1 with
      | [a], ⟨ha1, _⟩ =>
        rw [val_str ha1] at v3
        have h3 := (v3 0 _ rfl).1
        rw [Nat.mul_one, Nat.add_zero] at h3
        have e1 : encStr (l.map bl).toArray[j]! = .string l[j] := by
          rw [getElem!_pos _ j hj]
          simp only [List.getElem_toArray, List.getElem_map]
          show Value.string (lb (bl l[j])) = _
          rw [lb_bl]
        rw [e1]; exact h3
    have hb := Any.slices_Sort_string lays190 (ρ.t 0).blk (ρ.t 0).start cap (l.map bl) w hH (lt_of_heap hc) (by simp; omega)
    change Calls Try.prog 155 _ _ _ at hb
    refine hb.mono ?_
    rintro e' w' ⟨rfl, n, os, rfl⟩
    have hsl : (sortL (l.map bl)).length = l.length := by unfold sortL; rw [List.length_mergeSort]; simp
    have hww := sort_worldS (ρ.t 0).blk (ρ.t 0).start n (l.map bl).toArray (sortL (l.map bl)).toArray hH (by simp [hsl])
    rw [show ((l.map bl).mergeSort fun x y => decide (x ≤ y)) = sortL (l.map bl) from rfl, hww]
    have hnl : ((sortL (l.map bl)).toArray.map encStr).toList.length = l.length := by simp [hsl]
    have hcell : ∀ (k : Nat) (x : List UInt8), (sortL (l.map bl))[k]? = some x → ((sortL (l.map bl)).toArray.map encStr).toList[k]? = some (.string (lb x)) := by
      intro k x hx
      simp only [Array.toList_map, List.getElem?_map, hx]
      rfl
    have hlay := rel_lay hrel (id := 0) (s := 1) (xs := l.map nav) (ys := (sortS l).map nav) (p := 0) (news := ((sortL (l.map bl)).toArray.map encStr).toList) rfl (Nat.zero_le _)
      (by rw [List.length_map, sortS, List.length_map, hsl]; omega) (by rw [List.length_map, sortS, List.length_map, hsl, hnl]; omega) (fun u hu => ?_) (fun k y hy => ?_)
    · rw [Nat.zero_mul, Nat.add_zero, List.take_zero, List.nil_append, Nat.zero_add, List.drop_of_length_le (by simp [sortS, hsl]), List.append_nil] at hlay
      have h2 := rel_aheadS hlay.2 n
      have h3 := rel_growS h2.2 os.toList
      exact ⟨ρ, _, (hlay.1.trans' h2.1).trans' h3.1, h3.2, .junk, h, Val.junk⟩
    · obtain ⟨i, hi, rfl⟩ := List.getElem_of_mem hu
      simp
      rfl
    · rw [sortS, List.getElem?_map, List.getElem?_map] at hy
      obtain ⟨x', hx', rfl⟩ := Option.map_eq_some_iff.1 hy
      obtain ⟨x, hx, rfl⟩ := Option.map_eq_some_iff.1 hx'
      refine ⟨[.string (lb x)], ⟨⟨1, rfl⟩, trivial⟩, rfl, fun j u hu => ?_⟩
      match j, hu with
      | 0, hu => simp at hu; subst hu; rw [Nat.mul_one, Nat.add_zero]; exact hcell k x hx
      | j + 1, hu => simp at hu
end
end Go.Proofs.Ytjdbmfipciadfaa.A
