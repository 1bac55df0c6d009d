/- Names that are assigned may be, and are all unlike. Conditions: none. -/
import Derived.Test.YtojeadkhahmllaaDoorLibNameTexts
namespace Go.Proofs.YtojeadkhahmllaaDoor.XNameTexts
set_option linter.unusedVariables false
set_option linter.unusedSimpArgs false
open Go.RowKit Go.Proofs.YtojeadkhahmllaaDoorW.PrintWords Go.Proofs.YtojeadkhahmllaaDoorW.PrintLast Go.Proofs.YtojeadkhahmllaaDoorW.PrintMore Go.Proofs.YtojeadkhahmllaaDoorB
theorem legal_other (s : ByteArray) (n : Nat) (hn : n < 1000000) (h : ∀ x ∈ s.data.toList, fineB x = true) : legalB (otherB s n) = true := by
  have hd := digits_len 5 n (by omega)
  refine legal_of (l := otherL s.data.toList n) ?_ ?_ ?_ ?_
  · unfold otherL; simp only [List.length_append, List.length_cons]; omega
  · unfold otherL; simp only [List.length_append, List.length_cons, List.length_take]; omega
  · unfold otherL
    have hne : Lib.decDigits n ≠ [] := by unfold Lib.decDigits; split <;> simp
    rw [List.getLast?_append, List.getLast?_cons]
    obtain ⟨d, hdl⟩ : ∃ d, (Lib.decDigits n).getLast? = some d := by
      cases hg : (Lib.decDigits n).getLast? with
      | none => exact absurd (List.getLast?_eq_none_iff.1 hg) hne
      | some d => exact ⟨d, rfl⟩
    have hm := digits_are n d (List.mem_of_getLast? hdl)
    rw [hdl]
    simp only [Option.getD_some, Option.some_or, ne_eq, Option.some.injEq]
    rintro rfl
    simp at hm
  · unfold otherL
    intro x hx
    rcases List.mem_append.1 hx with h1 | h1
    · exact h x (List.mem_of_mem_take h1)
    · rcases List.mem_cons.1 h1 with h2 | h2
      · subst h2; decide
      · exact fine_digit (digits_are n x h2)
theorem legal_try (s : ByteArray) (j : Nat) (hj : j < 1000000) : legalB (tryB (fixB s) j) = true := by
  unfold tryB
  split
  · exact legal_fixed s
  · exact legal_other _ j hj (fix_all s)
theorem assign_all (l : List ByteArray) (hl : l.length ≤ 10000) : (∀ x ∈ assignB l, legalB x = true ∧ x.size ≤ 32) ∧ ((assignB l).map foldB).Nodup := by
  have : ∀ n, n ≤ l.length → (∀ x ∈ assignB (l.take n), legalB x = true ∧ x.size ≤ 32) ∧ ((assignB (l.take n)).map foldB).Nodup := by
    intro n
    induction n with
    | zero => intro _; simp [assignB]
    | succ n ih =>
      intro hn
      obtain ⟨h1, h2⟩ := ih (by omega)
      rw [List.take_succ_eq_append_getElem (by omega), assign_snoc]
      have hle := next_le (assignB (l.take n)) (fixB (l[n]'(by omega)))
      rw [assign_length, List.length_take] at hle
      refine ⟨fun x hx => ?_, ?_⟩
      · rcases List.mem_append.1 hx with hx | hx
        · exact h1 x hx
        · obtain rfl := List.mem_singleton.1 hx
          exact ⟨legal_try _ _ (by omega), try_size _ _ (fix_size _) (by omega)⟩
      · rw [List.map_append, List.map_singleton, List.nodup_append]
        refine ⟨h2, by simp, fun a ha b hb e => ?_⟩
        obtain rfl := List.mem_singleton.1 hb
        exact (next_free (assignB (l.take n)) (fixB (l[n]'(by omega)))).1 (by rw [e] at ha; exact ha)
  have h := this l.length (Nat.le_refl _)
  rwa [List.take_length] at h

end Go.Proofs.YtojeadkhahmllaaDoor.XNameTexts
