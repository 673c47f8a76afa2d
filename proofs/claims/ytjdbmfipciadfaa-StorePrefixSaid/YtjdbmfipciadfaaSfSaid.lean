/- The row of the law StorePrefix: a crash keeps a prefix of the writes, the last one torn. It holds for all operations and every crash; no condition. -/import Derived.Test.YtjdbmfipciadfaaRows
import Derived.ProofKit
import Derived.SizedLaws
import Derived.Test.YtjdbmfipciadfaaMb8
namespace Go.Proofs.Ytjdbmfipciadfaa.A
open Go Go.Pt Go.ChangeShapes Go.WideShapes Go.ChangeAt Go.RowKit
set_option maxRecDepth 100000 in
theorem storePrefix_lifted {α0 : Type} {mk0 : α0 → AV} {ok0 : α0 → Prop} (r0 : Rd Try.prog 61 α0 mk0 ok0) (hk0 : ∀ x, ∃ l, mk0 x = .agg l)
    (hcall : ∀ (x0 : α0), ok0 x0 → CallA Try.prog 6 [mk0 x0] [.fam 0 []] (fun r _ => r = .bool true) (fun _ _ => False)) (os : Os) (started : os.Started) (H : Type) (enc : TypeId × Value → H) :
    ReturnsInHanded {} Try.checked os 6 .any (Rows.storePrefixSpec.pre6 enc Try.prog Try.f6 Rows.storePrefixRow.domain false) (Rows.storePrefixSpec.post enc Try.prog Try.f6 false true false false) := by
  refine returnsInHanded_of_change_sized (C := Try.checked) own started (by kernel_rfl) Try.func6
    (ChangeSpec.witness6 (enc := enc) (C := Try.checked) false ⟨#[], #[.agg #[.slice none 0 0, .slice none 0 0, .int .u8 0, .int .u8 0]], []⟩ 8 (by kernel_rfl) (by kernel_rfl) (by kernel_rfl) (by kernel_rfl)) ?_
  intro W base args ds gs before hval0 hW hcnd hsz0 _
  have hval : ∀ (j : Nat) t v, Try.f6.params[j]? = some t → args[j]? = some v → Value.okWide Try.prog W .any base t v := hval0
  have hW' := hW
  obtain ⟨p, q, hA0, hV, rfl, hfz, hnd⟩ := hW
  have hA : DataW.TrodAll enc Try.prog W 0 (fun _ => true) true Try.f6.params.toList args.toList ds p := hA0
  rw [Try.params6] at hA hval
  obtain ⟨v0, d0, rfl, rfl, ⟨f0, h0⟩⟩ := trodAll_one hA
  obtain ⟨rfl, rfl⟩ := trodVars_none hV
  have hsz := List.all_eq_true.1 hsz0
  have hw0 : ∀ n ∈ d0.weights Try.prog 61, n ≤ reachBytes := fun n hn => by simpa using hsz n (DataW.weights_mem_each (j := 0) (t := 61) (d := d0) rfl rfl n hn)
  obtain ⟨c0, rfl, _⟩ := okWide_struct Try.underlying61 (hval 0 61 v0 rfl rfl)
  obtain ⟨x0, hx0, hg0, _⟩ := r0.rd h0 hw0
  obtain ⟨l0, hl0⟩ := hk0 x0
  rw [hl0] at hg0
  have hv : All2 (V0 W) [mk0 x0] #[Value.agg c0].toList := ⟨(hl0 ▸ arg_agg hg0), trivial⟩
  refine post_trueB (P := Try.prog) (f := 6) (tb := 4) bare_fam laidOut ?_ rfl rfl Try.underlying4 rfl rfl rfl hW' hv (hcall x0 hx0)
  rw [Try.params6]
  intro t ht
  simp only [List.mem_cons, List.not_mem_nil, or_false] at ht
  subst ht
  exact ⟨by kernel_rfl, of_decide_eq_true (by kernel_rfl)⟩
theorem storePrefix_of {α0 : Type} {mk0 : α0 → AV} {ok0 : α0 → Prop} (r0 : Rd Try.prog 61 α0 mk0 ok0) (hk0 : ∀ x, ∃ l, mk0 x = .agg l)
    (hcall : ∀ (x0 : α0), ok0 x0 → CallA Try.prog 6 [mk0 x0] [.fam 0 []] (fun r _ => r = .bool true) (fun _ _ => False)) : Rows.StorePrefixSaid :=
  OpenClaim.holds_of_wide 6 Try.f6 rfl rfl rfl rfl rfl rfl rfl ⟨rfl, rfl, rfl, rfl, rfl⟩ rfl rfl rfl rfl rfl (by kernel_rfl) Try.func6 (by kernel_rfl)
    (of_decide_eq_true (by kernel_rfl)) (by unfold Func.isWrapper; first | (rw [if_pos (by decide +kernel)]; kernel_rfl) | (rw [if_neg (by decide +kernel)]; exact ⟨rfl, rfl⟩))
    (fun os started H enc _ => storePrefix_lifted r0 hk0 hcall os started H enc)
structure Cut where
  l : List Sop
  more : List Sop
  k : Int
  t : Int
def Cut.av (c : Cut) : AV := .agg [.sl 6 (c.l.map Sop.av) .no, .sl 6 (c.more.map Sop.av) .no, .int .u8 c.k, .int .u8 c.t]
structure Cut.Ok (c : Cut) : Prop where
  l : ∀ o ∈ c.l, o.Ok
  ll : c.l.length * 80 ≤ 2 ^ 47
  m : ∀ o ∈ c.more, o.Ok
  ml : (c.more.length + 1) * 80 ≤ 2 ^ 47
  k : 0 ≤ c.k ∧ c.k < 256
  t : 0 ≤ c.t ∧ c.t < 256
theorem sops_len1 {l : List Sop} (h : l.length * Try.prog.bytesOf 71 ≤ reachBytes) : (l.length + 1) * 80 ≤ 2 ^ 47 := by
  rw [show Try.prog.bytesOf 71 = 80 by kernel_rfl] at h
  unfold reachBytes at h
  omega
theorem rdCut : Rd Try.prog 61 Cut Cut.av Cut.Ok :=
  rd_conv (rd_struct Try.underlying61 (rdf_cons rfl rdSops (rdf_cons (by kernel_rfl) rdSops (rdf_cons (by kernel_rfl) (rd_int Try.underlying5) (rdf_cons (by kernel_rfl) (rd_int Try.underlying5) (rdf_end (by kernel_rfl)))))))
    (fun x => ⟨x.1, x.2.1, x.2.2.1, x.2.2.2.1⟩) (fun _ => rfl) (fun _ h => ⟨h.1.1, sops_len h.1.2, h.2.1.1, sops_len1 h.2.1.2, wf8 h.2.2.1, wf8 h.2.2.2.1⟩)
theorem storePrefix_holds : Rows.StorePrefixSaid := by
  refine storePrefix_of rdCut (fun c => ⟨_, rfl⟩) fun c h => ?_
  have h1 := h.ll
  have h2 := h.ml
  have h3 := h.k
  have h4 := h.t
  obtain ⟨A, hc⟩ := f6_is (fuel := c.l.length + c.more.length + 6000) h.l (by omega) h.m (by omega) (by omega) (by omega) (k := c.k.toNat) (T := c.t.toNat) (by omega) (by omega)
  rw [Int.toNat_of_nonneg h3.1, Int.toNat_of_nonneg h4.1] at hc
  exact f6_call stdOps rfl _ _ _ _ _ _ hc (fun r _ => r = .bool true) (fun _ _ => False) rfl
end Go.Proofs.Ytjdbmfipciadfaa.A
