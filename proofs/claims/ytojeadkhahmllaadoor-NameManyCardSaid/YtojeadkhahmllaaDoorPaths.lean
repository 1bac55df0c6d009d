/- Paths, name by name: what Split makes of a text. Conditions: none. -/
import Derived.Lib.SplitLaws
import Derived.Lib.IndexBytes
namespace Go.Proofs.YtojeadkhahmllaaDoorB
open Go
set_option linter.unusedVariables false
set_option linter.unusedSimpArgs false
/-- A text's parts between the slashes. -/
def pcs : List UInt8 → List (List UInt8)
  | [] => [[]]
  | c :: s => if c = 47 then [] :: pcs s else match pcs s with
    | [] => [[c]]
    | p :: ps => (c :: p) :: ps
theorem pcs_ne : ∀ s, pcs s ≠ []
  | [] => by simp [pcs]
  | c :: s => by
    unfold pcs
    split
    · simp
    · split <;> simp
theorem pcs_hit : ∀ (s : List UInt8) (i : Nat), Lib.indexByte s 47 = (i : Int) → pcs s = s.take i :: pcs (s.drop (i + 1))
  | [], i, h => by
    have h : (-1 : Int) = (i : Int) := h
    omega
  | b :: l, i, h => by
    unfold Lib.indexByte at h
    by_cases hb : b = 47
    · rw [if_pos (by simp [hb])] at h
      obtain rfl : i = 0 := by omega
      simp [pcs, hb]
    · rw [if_neg (by simp [hb])] at h
      split at h
      · omega
      · rename_i hm
        have hge := Lib.indexByte_ge l 47
        obtain ⟨j, rfl⟩ : ∃ j, i = j + 1 := ⟨i - 1, by have : Lib.indexByte l 47 ≠ -1 := by simpa using hm
                                                       omega⟩
        have ih := pcs_hit l j (by omega)
        rw [pcs, if_neg hb, ih]
        simp
theorem pcs_miss : ∀ (s : List UInt8), Lib.indexByte s 47 = -1 → pcs s = [s]
  | [], _ => rfl
  | b :: l, h => by
    unfold Lib.indexByte at h
    by_cases hb : b = 47
    · rw [if_pos (by simp [hb])] at h; omega
    · rw [if_neg (by simp [hb])] at h
      have hge := Lib.indexByte_ge l 47
      have hm : Lib.indexByte l 47 = -1 := by
        by_cases hq : Lib.indexByte l 47 = -1
        · exact hq
        · rw [if_neg (by simpa using hq)] at h; omega
      rw [pcs, if_neg hb, pcs_miss l hm]
theorem split_pcs : ∀ (k : Nat) (s : List UInt8), Lib.count s [47] = k → Lib.splitK [47] 0 k s = pcs s := by
  intro k
  induction k with
  | zero =>
    intro s h
    show [s] = pcs s
    by_cases hm : Lib.index s [47] = -1
    · rw [pcs_miss s (by rw [← Lib.index_one]; exact hm)]
    · have hge := Lib.index_ge s [47]
      have := Lib.count_hit (s := s) (sub := [47]) (i := (Lib.index s [47]).toNat) (by simp) (by omega)
      omega
  | succ k ih =>
    intro s h
    by_cases hm : Lib.index s [47] = -1
    · have := Lib.count_miss hm; omega
    · have hge := Lib.index_ge s [47]
      have hi : Lib.index s [47] = ((Lib.index s [47]).toNat : Int) := by omega
      have hc := Lib.count_hit (s := s) (sub := [47]) (by simp) hi
      rw [Lib.splitK, if_neg (by simpa using hm), pcs_hit s (Lib.index s [47]).toNat (by rw [← Lib.index_one]; exact hi), Nat.add_zero]
      congr 1
      exact ih _ (by simp at hc ⊢; omega)
/-- What Split makes of a text. -/
theorem splitB_pcs (a : ByteArray) : (Lib.splitB ⟨#[47]⟩ 0 (Lib.countB a ⟨#[47]⟩) a).map (·.data.toList) = pcs a.data.toList := by
  rw [Lib.splitB_data]
  exact split_pcs _ _ rfl
/-- A beginning, put aheadP of the first part. -/
def aheadP (p : List UInt8) : List (List UInt8) → List (List UInt8)
  | [] => [p]
  | q :: qs => (p ++ q) :: qs
theorem aheadP_nil (s : List UInt8) : aheadP [] (pcs s) = pcs s := by
  cases h : pcs s with
  | nil => exact absurd h (pcs_ne s)
  | cons q qs => simp [aheadP]
theorem aheadP_cons (p : List UInt8) (c : UInt8) (s : List UInt8) : aheadP p (pcs (c :: s)) = if c = 47 then p :: pcs s else aheadP (p ++ [c]) (pcs s) := by
  by_cases h : c = 47
  · rw [if_pos h, pcs, if_pos h]; simp [aheadP]
  · rw [if_neg h, pcs, if_neg h]
    cases h2 : pcs s with
    | nil => exact absurd h2 (pcs_ne s)
    | cons q qs => simp [aheadP]
end Go.Proofs.YtojeadkhahmllaaDoorB
