/- The law of the disk: the document's methods, said by the same plain state as the program's. -/
import Derived.Test.YtcongfiojbajeaaDiskLawB
namespace Go.Proofs.YtcongfiojbajeaaK
open Go Go.RowKit Go.Maps Go.Proofs.YtcongfiojbajeaaM Go.Proofs.YtcongfiojbajeaaW.PrintWords Go.Proofs.YtcongfiojbajeaaN
variable {lo : Nat}
set_option linter.unusedVariables false
set_option linter.unusedSimpArgs false
/-- The document's disk, as a value's fields. -/
abbrev rv (vf : Value) (σ : PD) : Array Value := #[vf, .int .i64 σ.room, .slice none 0 0, .int .i64 σ.next, .bool false]
/-- What the document says of the same state. -/
def IsR (w : World) (vf : Value) (σ : PD) : Prop := Kd.R kF 75 w 0 (fun _ => True) vf σ.files
theorem IsR.below {w w' : World} {vf : Value} {σ : PD} (h : IsR w vf σ) (hb : Below w.heap.size w w') : IsR w' vf σ := R_below2 h hb
theorem rcut_pd (σ : PD) (vf : Value) (w : World) (h : IsR w vf σ) (hp : σ.power = true) (hl : σ.files.length ≤ 1000000) (hr : Rises σ.files) (hs : ∀ p ∈ σ.files, p.2.vol ≤ 1000000 ∧ p.2.loose.length ≤ 1000000) (hn : 0 ≤ σ.next ∧ σ.next ≤ 1000000) (nme : ByteArray) (hnme : nme.size ≤ 9223372036854775807) (k : Int) (gone : Bool) :
    Calls Try.prog 43 #[.agg (rv vf σ), .string nme, .int .i64 k, .bool gone] w fun e' w' => ∃ vf', e' = .returned (.tuple #[.agg (rv vf' (σ.cut nme k gone).1), .int .i64 (σ.cut nme k gone).2]) ∧ IsR w' vf' (σ.cut nme k gone).1 ∧ Below w.heap.size w w' := by
  refine (rcut σ.files vf σ.room σ.next nme k gone w h hl hr hs hn hnme).mono ?_
  rintro e' w' ⟨h1, h2, h3⟩
  have same : ∀ e : Int, σ.cut nme k gone = (σ, e) → (e' = .returned (.tuple #[.agg (rv vf σ), .int .i64 e]) ∧ Below w.heap.size w w') → ∃ vf', e' = .returned (.tuple #[.agg (rv vf' (σ.cut nme k gone).1), .int .i64 (σ.cut nme k gone).2]) ∧ IsR w' vf' (σ.cut nme k gone).1 ∧ Below w.heap.size w w' := by
    rintro e he ⟨hx, hb⟩
    rw [he]
    exact ⟨vf, hx, IsR.below h hb, hb⟩
  cases hnm : nm nme with
  | false => exact same 60 (by unfold PD.cut PD.there; simp [hp, hnm]) (h1 60 (.inl ⟨rfl, hnm⟩))
  | true =>
    cases hg : get σ.files nme with
    | none => exact same 2 (by unfold PD.cut PD.there; simp [hp, hnm, hg]) (h1 2 (.inr (.inl ⟨rfl, hnm, hg⟩)))
    | some f =>
      have hth : σ.there nme = 0 := by unfold PD.there; simp [hp, hnm, hg]
      have hat : σ.at nme = f := by unfold PD.at; rw [hg]; rfl
      cases gone with
      | true =>
        obtain ⟨vf', he, hR, hb⟩ := h2 f hnm hg rfl
        have hc : σ.cut nme k true = ({ σ with files := delL σ.files nme, next := σ.next + 1 }, 0) := by unfold PD.cut; rw [if_pos hth, if_pos rfl]
        rw [hc]
        exact ⟨vf', he, hR, hb⟩
      | false =>
        by_cases hk : k < 0 ∨ (f.now.size : Int) < k
        · exact same 1 (by unfold PD.cut; rw [if_pos hth, if_neg (by decide), hat, if_pos hk]) (h1 1 (.inr (.inr ⟨rfl, hnm, f, hg, rfl, hk⟩)))
        · obtain ⟨vf', he, hR, hb⟩ := h3 f hnm hg rfl (by omega) (by omega)
          have hc : σ.cut nme k false = ({ σ with files := putS σ.files nme ⟨f.now.extract 0 k.toNat, true, []⟩, next := σ.next + 1 }, 0) := by unfold PD.cut; rw [if_pos hth, if_neg (by decide), hat, if_neg hk]
          rw [hc]
          exact ⟨vf', he, hR, hb⟩
theorem rmove_pd (σ : PD) (vf : Value) (w : World) (h : IsR w vf σ) (hp : σ.power = true) (hl : σ.files.length ≤ 1000000) (hr : Rises σ.files) (hs : ∀ p ∈ σ.files, p.2.vol ≤ 1000000 ∧ p.2.loose.length ≤ 1000000) (hn : 0 ≤ σ.next ∧ σ.next ≤ 1000000) (nme tn : ByteArray) (hnme : nme.size ≤ 9223372036854775807) (hto : tn.size ≤ 9223372036854775807) :
    Calls Try.prog 41 #[.agg (rv vf σ), .string nme, .string tn] w fun e' w' => ∃ vf', e' = .returned (.tuple #[.agg (rv vf' (σ.move nme tn).1), .int .i64 (σ.move nme tn).2]) ∧ IsR w' vf' (σ.move nme tn).1 ∧ Below w.heap.size w w' := by
  refine (rmove σ.files vf σ.room σ.next nme tn w h hl hr hs hn hnme hto).mono ?_
  rintro e' w' ⟨h1, h2⟩
  have same : ∀ e : Int, σ.move nme tn = (σ, e) → (e' = .returned (.tuple #[.agg (rv vf σ), .int .i64 e]) ∧ Below w.heap.size w w') → ∃ vf', e' = .returned (.tuple #[.agg (rv vf' (σ.move nme tn).1), .int .i64 (σ.move nme tn).2]) ∧ IsR w' vf' (σ.move nme tn).1 ∧ Below w.heap.size w w' := by
    rintro e he ⟨hx, hb⟩
    rw [he]
    exact ⟨vf, hx, IsR.below h hb, hb⟩
  cases hnm : nm nme with
  | false => exact same 60 (by unfold PD.move PD.there; simp [hp, hnm]) (h1 60 (.inl ⟨rfl, hnm⟩))
  | true =>
    cases hg : get σ.files nme with
    | none => exact same 2 (by unfold PD.move PD.there; simp [hp, hnm, hg]) (h1 2 (.inr (.inl ⟨rfl, hnm, hg⟩)))
    | some f =>
      have hth : σ.there nme = 0 := by unfold PD.there; simp [hp, hnm, hg]
      have hat : σ.at nme = f := by unfold PD.at; rw [hg]; rfl
      have hgs : (get σ.files nme).isSome = true := by rw [hg]; rfl
      cases hnt : nm tn with
      | false => exact same 60 (by unfold PD.move; rw [if_pos hth, if_pos hnt]) (h1 60 (.inr (.inr (.inl ⟨rfl, hnm, hgs, hnt⟩))))
      | true =>
        by_cases hst : nme = tn
        · exact same 1 (by unfold PD.move; rw [if_pos hth, if_neg (by rw [hnt]; decide), if_pos hst]) (h1 1 (.inr (.inr (.inr ⟨rfl, hnm, hgs, hnt, hst⟩))))
        · obtain ⟨vf', he, hR, hb⟩ := h2 f hnm hg hnt hst
          have hc : σ.move nme tn = ({ σ with files := putS (delL σ.files nme) tn f.settled, next := σ.next + 1 }, 0) := by
            unfold PD.move; rw [if_pos hth, if_neg (by rw [hnt]; decide), if_neg hst, hat]
            congr 2
            first | exact put_del hr _ hst | exact (put_del hr _ hst).symm | exact put_del hr hst _ | exact (put_del hr hst _).symm | exact put_del _ _ hst
          rw [hc]
          exact ⟨vf', he, hR, hb⟩
theorem rput_pd (σ : PD) (vf : Value) (w : World) (h : IsR w vf σ) (hp : σ.power = true) (hl : σ.files.length ≤ 1000000) (hr : Rises σ.files) (hs : ∀ p ∈ σ.files, p.2.vol ≤ 1000000 ∧ p.2.loose.length ≤ 1000000) (hsum : σ.used ≤ 1000000) (hn : 0 ≤ σ.next ∧ σ.next ≤ 1000000) (hroom : σ.room ≤ 9223372036854775807) (nme : ByteArray) (p : ByteArray × Bool) (hnme : nme.size ≤ 9223372036854775807) (hps : p.1.size ≤ 1000000) :
    Calls Try.prog 40 #[.agg (rv vf σ), .string nme, .agg #[.string p.1, .bool p.2]] w fun e' w' => ∃ vf', e' = .returned (.tuple #[.agg (rv vf' (σ.put nme p).1), .int .i64 (σ.put nme p).2]) ∧ IsR w' vf' (σ.put nme p).1 ∧ Below w.heap.size w w' := by
  cases hnm : nm nme with
  | false =>
    obtain ⟨A, c, rfl⟩ := Kd.R_slice h
    refine (rput_no A σ.files.length c σ.room σ.next nme p w hnme hnm).mono ?_
    rintro e' w' ⟨he, hb⟩
    have hc : σ.put nme p = (σ, 60) := by unfold PD.put PD.may; simp [hp, hnm]
    rw [hc]
    exact ⟨_, he, IsR.below h hb, hb⟩
  | true =>
    refine (rput σ.files vf σ.room σ.next nme p w h hl hr hs hsum hn hroom hnme hnm hps).mono ?_
    rintro e' w' ⟨h1, h2⟩
    have hm : σ.may nme = 0 := by unfold PD.may; simp [hp, hnm]
    by_cases hf : full σ.room σ.used (σ.at nme).now.size (onP (σ.at nme).now p).size
    · obtain ⟨he, hb⟩ := h1 hf
      have hc : σ.put nme p = (σ, 61) := by
        unfold PD.put; rw [if_pos hm, if_pos ?_]
        unfold full at hf; exact ⟨by omega, hf.2.1, by omega⟩
      rw [hc]
      exact ⟨vf, he, IsR.below h hb, hb⟩
    · obtain ⟨vf', he, hR, hb⟩ := h2 hf
      have hc : σ.put nme p = ({ σ with files := putS σ.files nme ((σ.at nme).put p), next := σ.next + 1 }, 0) := by
        unfold PD.put; rw [if_pos hm, if_neg ?_]
        intro hx; exact hf ⟨by omega, hx.2.1, by omega⟩
      rw [hc]
      exact ⟨vf', he, hR, hb⟩
end Go.Proofs.YtcongfiojbajeaaK
