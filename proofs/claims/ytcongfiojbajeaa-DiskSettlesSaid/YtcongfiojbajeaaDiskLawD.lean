/- The law of the disk: small words on the one plain state. -/
import Derived.Test.YtcongfiojbajeaaDiskLawC
namespace Go.Proofs.YtcongfiojbajeaaK
open Go Go.RowKit Go.Maps Go.Proofs.YtcongfiojbajeaaM Go.Proofs.YtcongfiojbajeaaW.PrintWords Go.Proofs.YtcongfiojbajeaaN
variable {lo : Nat}
set_option linter.unusedVariables false
theorem IsD.rises {w : World} {db : Nat} {σ : PD} (h : IsD lo w db σ) : Rises σ.files := by
  obtain ⟨mb, L, e, h⟩ := h
  rw [e]
  exact (mapV_rises _ _).2 h.rises
theorem used_mass (σ : PD) : σ.used ≤ σ.mass := by
  unfold PD.used PD.mass
  generalize σ.files = l
  induction l with
  | nil => simp
  | cons p l ih =>
    have := p.2.now_size
    simp only [List.map_cons, List.sum_cons]
    omega
theorem IsR.turned {w w' : World} {vf : Value} {σ : PD} (h : IsR w vf σ) (hT : Turned lo w w') : IsR w' vf σ := R_turned h (by decide) hT
end Go.Proofs.YtcongfiojbajeaaK
