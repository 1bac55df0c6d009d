/- A row that rises: where a name stands in it, or would stand; a file put in, taken out: plain laws. Conditions: none. -/
import Derived.Test.YtcongfiojbajeaaDiskSets
namespace Go.Proofs.YtcongfiojbajeaaK
open Go Go.RowKit Go.Maps Go.Proofs.YtcongfiojbajeaaM Go.Proofs.YtcongfiojbajeaaW.PrintWords Go.Proofs.YtcongfiojbajeaaN
set_option linter.unusedVariables false
set_option linter.unusedSimpArgs false
section
variable {ν : Type}
/-- Where a name stands, or would stand. -/
def idx : List (ByteArray × ν) → ByteArray → Nat
  | [], _ => 0
  | p :: l, n => if ltB p.1 n = true then idx l n + 1 else 0
/-- Does it stand there? -/
def isI : List (ByteArray × ν) → ByteArray → Bool
  | [], _ => false
  | p :: l, n => if ltB p.1 n = true then isI l n else decide (p.1 = n)
theorem idx_le (l : List (ByteArray × ν)) (n : ByteArray) : idx l n ≤ l.length := by
  induction l with
  | nil => simp [idx]
  | cons p l ih =>
    unfold idx
    split
    · simp only [List.length_cons]; omega
    · omega
theorem idx_below {l : List (ByteArray × ν)} {n : ByteArray} {k : Nat} (hk : k < idx l n) (hl : k < l.length) : ltB l[k].1 n = true := by
  induction l generalizing k with
  | nil => cases hl
  | cons p l ih =>
    unfold idx at hk
    by_cases h : ltB p.1 n = true
    · rw [if_pos h] at hk
      cases k with
      | zero => exact h
      | succ k => exact ih (by omega) (by simpa using hl)
    · rw [if_neg h] at hk; omega
theorem idx_at {l : List (ByteArray × ν)} {n : ByteArray} (hl : idx l n < l.length) : ltB (l[idx l n]).1 n = false := by
  induction l with
  | nil => cases hl
  | cons p l ih =>
    by_cases h : ltB p.1 n = true
    · have e : idx (p :: l) n = idx l n + 1 := by rw [idx, if_pos h]
      simp only [e, List.getElem_cons_succ]
      exact ih (by rw [e] at hl; simpa using hl)
    · have e : idx (p :: l) n = 0 := by rw [idx, if_neg h]
      simp only [e, List.getElem_cons_zero]
      simpa using h
theorem isI_lt {l : List (ByteArray × ν)} {n : ByteArray} (h : isI l n = true) : idx l n < l.length := by
  induction l with
  | nil => cases h
  | cons p l ih =>
    unfold isI at h
    unfold idx
    by_cases h1 : ltB p.1 n = true
    · rw [if_pos h1] at h ⊢
      have := ih h
      simp only [List.length_cons]; omega
    · rw [if_neg h1]; simp
theorem isI_is {l : List (ByteArray × ν)} {n : ByteArray} (hl : idx l n < l.length) : isI l n = decide ((l[idx l n]).1 = n) := by
  induction l with
  | nil => cases hl
  | cons p l ih =>
    by_cases h : ltB p.1 n = true
    · have e : idx (p :: l) n = idx l n + 1 := by rw [idx, if_pos h]
      simp only [e, List.getElem_cons_succ]
      rw [isI, if_pos h]
      exact ih (by rw [e] at hl; simpa using hl)
    · have e : idx (p :: l) n = 0 := by rw [idx, if_neg h]
      simp only [e, List.getElem_cons_zero]
      rw [isI, if_neg h]
theorem isI_out {l : List (ByteArray × ν)} {n : ByteArray} (hl : ¬ idx l n < l.length) : isI l n = false := by
  cases h : isI l n with
  | false => rfl
  | true => exact absurd (isI_lt h) hl
theorem isI_get {l : List (ByteArray × ν)} (hr : Rises l) (n : ByteArray) : (isI l n = true → ∃ h : idx l n < l.length, ∃ v, l[idx l n] = (n, v) ∧ get l n = some v) ∧ (isI l n = false → get l n = none) := by
  induction l with
  | nil => exact ⟨fun h => (by cases h), fun _ => rfl⟩
  | cons p l ih =>
    have h' := List.pairwise_cons.1 hr
    obtain ⟨i1, i2⟩ := ih h'.2
    by_cases h : ltB p.1 n = true
    · have e : idx (p :: l) n = idx l n + 1 := by rw [idx, if_pos h]
      rw [isI, if_pos h, get_cons, if_neg (ltB_ne h)]
      refine ⟨fun hi => ?_, i2⟩
      obtain ⟨hl, v, h1, h2⟩ := i1 hi
      exact ⟨by rw [e]; simpa using hl, v, by simp only [e, List.getElem_cons_succ]; exact h1, h2⟩
    · have e : idx (p :: l) n = 0 := by rw [idx, if_neg h]
      rw [isI, if_neg h, get_cons]
      by_cases hn : p.1 = n
      · rw [decide_eq_true hn, if_pos hn]
        refine ⟨fun _ => ⟨by rw [e]; simp, p.2, by simp only [e, List.getElem_cons_zero]; exact Prod.ext hn rfl, rfl⟩, fun h => (by cases h)⟩
      · rw [decide_eq_false hn, if_neg hn]
        refine ⟨fun h => (by cases h), fun _ => ?_⟩
        refine get_none_of_rises fun q hq => ltB_trans ?_ (h'.1 q hq)
        cases h3 : ltB n p.1 with
        | true => rfl
        | false => exact absurd (ltB_tri (by simpa using h) h3) hn
theorem putS_split (l : List (ByteArray × ν)) (n : ByteArray) (v : ν) : putS l n v = l.take (idx l n) ++ (n, v) :: l.drop (if isI l n = true then idx l n + 1 else idx l n) := by
  induction l with
  | nil => rfl
  | cons p l ih =>
    simp only [putS]
    by_cases h : ltB p.1 n = true
    · have e : idx (p :: l) n = idx l n + 1 := by rw [idx, if_pos h]
      rw [if_pos h, e, isI, if_pos h, ih, List.take_succ_cons, List.cons_append]
      congr 3
      by_cases hi : isI l n = true
      · rw [if_pos hi, if_pos hi]; rfl
      · rw [if_neg hi, if_neg hi]; rfl
    · have e : idx (p :: l) n = 0 := by rw [idx, if_neg h]
      rw [if_neg h, e, isI, if_neg h]
      by_cases hn : p.1 = n
      · rw [if_pos hn, decide_eq_true hn]; rfl
      · rw [if_neg hn, decide_eq_false hn]; rfl
theorem delL_split {l : List (ByteArray × ν)} (hr : Rises l) (n : ByteArray) : delL l n = if isI l n = true then l.take (idx l n) ++ l.drop (idx l n + 1) else l := by
  induction l with
  | nil => rfl
  | cons p l ih =>
    have h' := List.pairwise_cons.1 hr
    have ih := ih h'.2
    have step : ∀ (m : List (ByteArray × ν)), delL (p :: m) n = if p.1 = n then delL m n else p :: delL m n := fun m => by
      unfold delL
      rw [List.filter_cons]
      by_cases hn : p.1 = n
      · rw [if_pos hn, if_neg (by simp [hn])]
      · rw [if_neg hn, if_pos (by simp [hn])]
    rw [step]
    by_cases h : ltB p.1 n = true
    · have e : idx (p :: l) n = idx l n + 1 := by rw [idx, if_pos h]
      rw [if_neg (ltB_ne h), e, isI, if_pos h, ih]
      by_cases hi : isI l n = true
      · rw [if_pos hi, if_pos hi]; rfl
      · rw [if_neg hi, if_neg hi]
    · have e : idx (p :: l) n = 0 := by rw [idx, if_neg h]
      rw [e, isI, if_neg h]
      by_cases hn : p.1 = n
      · rw [if_pos hn, decide_eq_true hn, if_pos rfl]
        have : get l n = none := get_none_of_rises fun q hq => hn ▸ h'.1 q hq
        unfold delL
        rw [List.filter_eq_self.2]
        · rfl
        · intro q hq
          have := ltB_ne (h'.1 q hq)
          rw [hn] at this
          simpa using this.symm
      · rw [if_neg hn, decide_eq_false hn, if_neg (by simp), ih]
        have hno : isI l n = false := by
          cases hi : isI l n with
          | false => rfl
          | true =>
            obtain ⟨hl, v, _, hg⟩ := (isI_get h'.2 n).1 hi
            have h4 := h'.1 _ (get_mem hg)
            have h5 : ltB n p.1 = true := by
              cases h3 : ltB n p.1 with
              | true => rfl
              | false => exact absurd (ltB_tri (by simpa using h) h3) hn
            have := ltB_trans h4 h5
            rw [ltB_irrefl] at this; cases this
        rw [hno, if_neg (by simp)]
/-- A file gets another name: put in and taken out, in whichever order. -/
theorem put_del {l : List (ByteArray × ν)} (hr : Rises l) {s t : ByteArray} (h : s ≠ t) (v : ν) : putS (delL l s) t v = delL (putS l t v) s := by
  refine rises_ext ((hr.delL s).putS t v) ((hr.putS t v).delL s) fun y => ?_
  have e1 : get (putS (delL l s) t v) y = if t = y then some v else if s = y then none else get l y := by
    rw [get_putS (hr.delL s)]
    by_cases ht : t = y
    · rw [if_pos ht, if_pos ht]
    · rw [if_neg ht, if_neg ht, get_delL]
  have e2 : get (delL (putS l t v) s) y = if s = y then none else if t = y then some v else get l y := by
    rw [get_delL, get_putS hr]
  rw [e1, e2]
  by_cases ht : t = y
  · rw [if_pos ht, if_neg (fun e => h (e.trans ht.symm)), if_pos ht]
  · rw [if_neg ht]
    by_cases hs : s = y
    · rw [if_pos hs, if_pos hs]
    · rw [if_neg hs, if_neg hs, if_neg ht]
end
end Go.Proofs.YtcongfiojbajeaaK
