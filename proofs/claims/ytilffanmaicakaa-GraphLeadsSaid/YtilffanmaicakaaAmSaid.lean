/- From a call's answer to a row's: a law that gives true, and leaves its input as it was. -/
import Derived.Test.YtilffanmaicakaaAmCalls
import Derived.ProofKit
namespace Go.Pt
open Go Go.ChangeShapes Go.RowKit

section
variable {P : Program}

/-- Nothing is held. -/
def Ro.nil : Ro := ⟨fun _ => 0, fun _ => ⟨0, 0, 0, 0⟩, fun _ _ => False, 0⟩

theorem rel_nil (w : World) : Rel Ro.nil [] w :=
  ⟨fun i e h => by simp at h, fun i j e f b o h => by simp at h, fun b o h => h.elim, fun b o h => by obtain ⟨i, e, h, _⟩ := h; simp at h⟩

theorem stay_nil (b o : Nat) : Stay Ro.nil [] b o := ⟨fun h => by obtain ⟨i, e, h, _⟩ := h; simp at h, id⟩

theorem below_of {w w' : World} {ρ' : Ro} {σ' : List Ent} (h : Stp Ro.nil [] w ρ' σ' w') : Below w.heap.size w w' := by
  refine ⟨h.os, h.tape, h.output, h.size, fun k hk => ?_⟩
  obtain ⟨ob', h1, h2⟩ := h.frm k w.heap[k] (by simp [hk])
  rw [h1]
  have hno : ∀ o, ¬ Own Ro.nil [] k o := fun o ho => by obtain ⟨i, e, hh, _⟩ := ho; simp at hh
  have : ob' = w.heap[k] := by
    generalize w.heap[k] = a at h2
    cases a with
    | cells c e f =>
      obtain ⟨c', rfl, hs, hc⟩ := h2
      have : c' = c := Array.ext_getElem? fun o => hc o (hno o)
      rw [this]
    | loop r =>
      obtain ⟨r', rfl, _, h4⟩ := h2
      rcases h4 with h4 | h4
      · exact absurd h4 (hno 0)
      · rw [h4]
    | _ =>
      rcases h2 with h2 | h2
      · exact absurd h2 (hno 0)
      · exact h2
  rw [this]; simp [hk]

theorem trodAll_below {H : Type} {enc : TypeId × Value → H} (hl : laidOutB P = true) {W W' : World} (hb : Below W.heap.size W W') : ∀ {ts : List TypeId} {vs : List Value} {ds : List (DataW H)} {ps : List MemPlace},
    (∀ t ∈ ts, P.readableRec t = true ∧ t < P.types.size) → DataW.TrodAll enc P W 0 (fun _ => true) true ts vs ds ps → (∀ x ∈ ps, x.block < W.heap.size) → DataW.TrodAll enc P W' 0 (fun b => decide (b < W.heap.size)) true ts vs ds ps
  | [], [], [], _, _, h, _ => h
  | t :: ts, v :: vs, d :: ds, ps, hr, ⟨p, q, h1, h2, e⟩, hlt =>
    ⟨p, q, Below.trod hl (hr t List.mem_cons_self).1 (hr t List.mem_cons_self).2 h1 hb (fun x hx => hlt x (by rw [e]; exact List.mem_append_left _ hx)),
      trodAll_below hl hb (fun t ht => hr t (List.mem_cons_of_mem _ ht)) h2 (fun x hx => hlt x (by rw [e]; exact List.mem_append_right _ hx)), e⟩
  | [], [], _ :: _, _, _, h, _ => h.elim
  | [], _ :: _, _, _, _, h, _ => h.elim
  | _ :: _, [], _, _, _, h, _ => h.elim
  | _ :: _, _ :: _, [], _, _, h, _ => h.elim

/-- The law's answer. -/
theorem post_true {H : Type} {enc : TypeId × Value → H} {fn : Func} {s : ChangeSpec} {apart fresh handsOn : Bool} {W : World} {args : Array Value} {ds gs : List (DataW H)} {before : List MemPlace} {f : FuncId} {avs : List AV} {tb : TypeId}
    (hl : laidOutB P = true) (hr : ∀ t ∈ fn.params.toList, P.readableRec t = true ∧ t < P.types.size) (hvars : s.vars = []) (hres : fn.resultTypes = #[tb]) (hb : P.underlying tb = some .bool)
    (hfn : (s.fn H (ds ++ gs)).results = [.lit (.bool true)]) (hfa : (s.fn H (ds ++ gs)).args = ds) (hfv : (s.fn H (ds ++ gs)).vars = [])
    (hW : DataW.Whole enc P fn.params.toList s.vars apart W args.toList ds gs before)
    (hv : All2 (Val W (Stay Ro.nil []) Ro.nil 0) avs args.toList)
    (h : CallA P f avs [] (fun r _ => r = .bool true) (fun _ _ => False)) :
    Calls P f args W fun e W' => ∃ v, e = .returned v ∧ s.post enc P fn apart fresh handsOn false W args v W' := by
  have := h.2 Ro.nil W args.toList (rel_nil W) hv
  rw [show args.toList.toArray = args by simp] at this
  refine Calls.mono this fun e W' he => ?_
  obtain ⟨ρ', σ', hst, hrel, he⟩ := he
  cases e with
  | outgrown => exact he.elim
  | panicked ch => obtain ⟨_, _, _, h, _⟩ := he; exact h.elim
  | returned v =>
    have he : ∃ r, r = AV.bool true ∧ Val W' (Stay ρ' σ') ρ' σ'.length r v := he
    obtain ⟨r, hrk, hr'⟩ := he
    have hrk : r = .bool true := hrk
    subst hrk
    have hvb := val_bool hr'
    subst hvb
    have hbel := below_of hst
    have hWl := hW.lt
    obtain ⟨p, q, hA, hV, hpq, hfz, hnd⟩ := id hW
    rw [hvars] at hV
    have hq : gs = [] ∧ q = [] := by
      cases gs with
      | nil => exact ⟨rfl, hV⟩
      | cons g gs => exact hV.elim
    obtain ⟨rfl, rfl⟩ := hq
    refine ⟨_, rfl, ds, [], before, [], p, [], hW, ?_, ?_, ?_, ?_, fun h => by cases h⟩
    · rw [hfn, hres]
      exact trodAll_mk1 (shut_bool hb true)
    · rw [hfa]
      exact trodAll_below hl hbel hr hA fun x hx => by simpa using hWl x (by rw [hpq]; exact List.mem_append_left _ hx)
    · rw [hvars, hfv]; rfl
    · exact hbel.frame _
end
end Go.Pt
