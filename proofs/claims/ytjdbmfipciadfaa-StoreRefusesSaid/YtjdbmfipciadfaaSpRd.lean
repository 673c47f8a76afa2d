/- How the arguments of the laws of the store are read. -/import Derived.Test.YtjdbmfipciadfaaSpJ
import Derived.Test.YtjdbmfipciadfaaMa3
import Derived.Test.YtjdbmfipciadfaaProg
import Derived.ProofKit
namespace Go.Proofs.Ytjdbmfipciadfaa.A
open Go Go.Pt Go.ChangeShapes Go.WideShapes Go.ChangeAt Go.RowKit
theorem wf64 {n : Int} (h : (Lit.int .i64 n).wf = true) : -9223372036854775808 ≤ n ∧ n ≤ 9223372036854775807 := by
  simp only [Lit.wf, Bool.and_eq_true, decide_eq_true_eq] at h
  have h1 : IntKind.i64.min = -9223372036854775808 := by decide
  have h2 : IntKind.i64.max = 9223372036854775807 := by decide
  rw [h1, h2] at h
  exact h
theorem wf8 {n : Int} (h : (Lit.int .u8 n).wf = true) : 0 ≤ n ∧ n < 256 := by
  simp only [Lit.wf, Bool.and_eq_true, decide_eq_true_eq] at h
  have h1 : IntKind.u8.min = 0 := by decide
  have h2 : IntKind.u8.max = 255 := by decide
  rw [h1, h2] at h
  omega
theorem isB_of {l : List Int} (h : ∀ x ∈ l, (Lit.int .u8 x).wf = true) : isB (l.map fun x => AV.int .u8 x) := by
  intro x hx
  obtain ⟨n, hn, rfl⟩ := List.mem_map.1 hx
  have := wf8 (h n hn)
  refine ⟨UInt8.ofNat n.toNat, ?_⟩
  have e : (UInt8.ofNat n.toNat).toNat = n.toNat := by rw [UInt8.toNat_ofNat']; omega
  rw [e, show ((n.toNat : Nat) : Int) = n by omega]
theorem rdBytes : Rd Try.prog 69 (List Int) (fun l => .sl 1 (l.map fun x => AV.int .u8 x) .no) (fun l => (∀ x ∈ l, (Lit.int .u8 x).wf = true) ∧ l.length * Try.prog.bytesOf 5 ≤ reachBytes) := rd_slice Try.underlying69 (by kernel_rfl) (by decide) (rd_int Try.underlying5)
theorem rdSop : Rd Try.prog 71 Sop Sop.av Sop.Ok :=
  rd_conv (rd_struct Try.underlying71 (rdf_cons rfl (rd_int Try.underlying3) (rdf_cons (by kernel_rfl) (rd_str Try.underlying9) (rdf_cons (by kernel_rfl) (rd_str Try.underlying9) (rdf_cons (by kernel_rfl) (rd_int Try.underlying3) (rdf_cons (by kernel_rfl) (rd_int Try.underlying3) (rdf_cons (by kernel_rfl) rdBytes (rdf_end (by kernel_rfl)))))))))
    (fun x => ⟨x.1, x.2.1, x.2.2.1, x.2.2.2.1, x.2.2.2.2.1, x.2.2.2.2.2.1.map fun y => AV.int .u8 y⟩) (fun _ => rfl) (fun x h => ⟨wf64 h.2.2.2.1, wf64 h.2.2.2.2.1, isB_of h.2.2.2.2.2.1.1, by
      have h2 := h.2.2.2.2.2.1.2
      rw [show Try.prog.bytesOf 5 = 1 by kernel_rfl] at h2
      unfold reachBytes at h2
      simp only [List.length_map]
      omega⟩)
theorem rdSops : Rd Try.prog 59 (List Sop) (fun l => .sl 6 (l.map Sop.av) .no) (fun l => (∀ o ∈ l, o.Ok) ∧ l.length * Try.prog.bytesOf 71 ≤ reachBytes) := rd_slice Try.underlying59 (by kernel_rfl) (by decide) rdSop
theorem sops_len {l : List Sop} (h : l.length * Try.prog.bytesOf 71 ≤ reachBytes) : l.length * 80 ≤ 2 ^ 47 := by
  rw [show Try.prog.bytesOf 71 = 80 by kernel_rfl] at h
  unfold reachBytes at h
  omega
theorem own : ownKnob Try.prog.godebug = none := by kernel_rfl
theorem laidOut : laidOutB Try.prog = true := by kernel_rfl
end Go.Proofs.Ytjdbmfipciadfaa.A
