/- What an argument reads as (data), told in the print's words (kinds): one lemma a kind. -/
import Derived.Test.YtcongfiojbajeaaWWords
import Derived.ChangeSlices
import Derived.SizedLaws
import Derived.DataReads
import Derived.WalkKit
namespace Go.Proofs.YtcongfiojbajeaaO
open Go.RowKit Go.Proofs.YtcongfiojbajeaaW.PrintWords Go.ChangeShapes Go.WideShapes

/-- Whatever reads as data of type t is a value of kind d, and fine. -/
def Opens {α : Type} (P : Program) (t : TypeId) (d : Kd α) (ok : α → Prop) : Prop :=
  ∀ (H : Type) (enc : TypeId × Value → H) (w : World) (base : Nat) (spare : Nat → Bool) (held : Bool) (fuel : Nat) (cs : List Value) (x : DataW H × List MemPlace),
    DataW.trod enc P w base spare held fuel t cs = some x → ∃ a, d.K w a cs ∧ ok a

theorem opens_string {P : Program} {t : TypeId} (hu : P.underlying t = some .string) : Opens P t Kd.string (fun s => s.size ≤ maxLen) := by
  intro H enc w base spare held fuel cs x h
  obtain ⟨s, rfl, _, hs⟩ := DataW.trod_string hu h
  exact ⟨s, rfl, hs⟩
theorem opens_int {P : Program} {t : TypeId} {k : IntKind} (hu : P.underlying t = some (.int k)) : Opens P t (Kd.int k) (fun n => (Lit.int k n).wf = true) := by
  intro H enc w base spare held fuel cs x h
  obtain ⟨s, rfl, _, hs⟩ := DataW.trod_int hu h
  exact ⟨s, rfl, hs⟩
theorem opens_bool {P : Program} {t : TypeId} (hu : P.underlying t = some .bool) : Opens P t Kd.bool (fun _ => True) := by
  intro H enc w base spare held fuel cs x h
  obtain ⟨s, rfl, _⟩ := DataW.trod_bool hu h
  exact ⟨s, rfl, trivial⟩

theorem list_of {α : Type} : ∀ {n : Nat} {Q : Nat → α → Prop}, (∀ i, i < n → ∃ p, Q i p) → ∃ l : List α, l.length = n ∧ ∀ i p, l[i]? = some p → Q i p
  | 0, _, _ => ⟨[], rfl, fun i p h => by simp at h⟩
  | n + 1, Q, h => by
    obtain ⟨p, hp⟩ := h 0 (by omega)
    obtain ⟨l, hl, hq⟩ := list_of (n := n) (Q := fun i => Q (i + 1)) (fun i hi => h (i + 1) (by omega))
    refine ⟨p :: l, by simp [hl], fun i q hi => ?_⟩
    cases i with
    | zero => simp at hi; subst hi; exact hp
    | succ j => exact hq j q (by simpa using hi)

theorem opens_slice {α : Type} {P : Program} {t e : TypeId} {d : Kd α} {ok : α → Prop} (hu : P.underlying t = some (.slice e)) (hs : P.cellsOf e = d.sz) (he : Opens P e d ok) :
    Opens P t (Kd.slice e d) (fun l => l.length ≤ maxLen ∧ ∀ x ∈ l, ok x) := by
  intro H enc w base spare held fuel cs x h
  rcases DataW.trod_slice hu h with ⟨rfl, _⟩ | ⟨a, len, cap, elems, rest, n, _, rfl, rfl, hb, hl, hm, hlen, hel, _, _⟩
  · refine ⟨[], ⟨none, 0, rfl, Nat.le_refl _, ⟨rfl, by simp, fun h => by simp at h⟩⟩, by simp [maxLen], by simp⟩
  · have each : ∀ i, i < len → ∃ p : α, ok p ∧ ∃ c : List Value, c.length = d.sz ∧ d.K w p c ∧ ∀ j u, c[j]? = some u → w.cell? (a.add (i * d.sz + j)) = some u := by
      intro i hi
      have h1 := hel i hi
      rw [List.getElem?_eq_getElem (by omega), Option.bind_eq_some_iff] at h1
      obtain ⟨c, hc, hx⟩ := h1
      obtain ⟨p, hp, hok⟩ := he H enc w base spare held n c _ hx
      obtain ⟨_, hcl, hcc⟩ := World.cells?_some hc
      refine ⟨p, hok, c, d.K_len hp, hp, fun j u hu => ?_⟩
      have hj : j < c.length := (List.getElem?_eq_some_iff.1 hu).1
      have h2 := hcc j (by omega)
      rw [hs] at h2
      have h3 : (a.add (i * d.sz)).add j = a.add (i * d.sz + j) := add_add _ _ _
      rw [h3] at h2
      rw [h2]; exact hu
    obtain ⟨l, hll, hlq⟩ := list_of each
    refine ⟨l, ⟨some a, cap, by simp [hll], by omega, ⟨rfl, by unfold maxLen at hm; omega, fun _ => ⟨a, rfl, fun j p hp => (hlq j p hp).2⟩⟩⟩, by omega, fun x hx => ?_⟩
    obtain ⟨i, hi⟩ := List.getElem?_of_mem hx
    exact (hlq i x hi).1
end Go.Proofs.YtcongfiojbajeaaO
