/- The names' other: the n-th other name; what two others have apart. -/
import Derived.Test.YtojeadkhahmllaaDoorNameFix
import Derived.Test.YtojeadkhahmllaaDoorShelf
import Derived.Lib.ItoaNum
namespace Go.Proofs.YtojeadkhahmllaaDoorB
set_option linter.unusedVariables false
set_option linter.unusedSimpArgs false
open Go.RowKit Go.Proofs.YtojeadkhahmllaaDoorW.PrintWords Go.Proofs.YtojeadkhahmllaaDoorW.PrintMore

/-- The table that strconv's long numbers read. -/
def Tab (w : World) : Prop := Lib.TabIs Tryd.prog w "internal/strconv.uint64pow10" .u64 Lib.pow10Tab
def CanSay (n : Nat) (w : World) : Prop := n < 100 ∨ (n < 1000000 ∧ Tab w)
theorem tab_below {w w' : World} (h : Tab w) (hb : Below w.heap.size w w') : Tab w' := by
  have hg : Tryd.prog.globalNamed "internal/strconv.uint64pow10" = some 1 := by kernel_rfl
  unfold Tab Lib.TabIs World.var? at h ⊢
  rw [hg] at h ⊢
  simp only [Option.bind_some] at h ⊢
  by_cases hlt : 1 < w.heap.size
  · rw [hb.block _ hlt]; exact h
  · rw [Array.getElem?_eq_none (by omega)] at h; cases h
theorem CanSay.below {n : Nat} {w w' : World} (h : CanSay n w) (hb : Below w.heap.size w w') : CanSay n w' := h.imp id (fun h => ⟨h.1, tab_below h.2 hb⟩)
theorem CanSay.less {n m : Nat} {w : World} (h : CanSay n w) (hm : m ≤ n) : CanSay m w := h.imp (fun h => by omega) (fun h => ⟨by omega, h.2⟩)
theorem digits_len : ∀ (k n : Nat), n < 10 ^ (k + 1) → (Lib.decDigits n).length ≤ k + 1
  | 0, n, h => by unfold Lib.decDigits; rw [dif_pos (by omega)]; simp
  | k + 1, n, h => by
    unfold Lib.decDigits
    split
    · simp
    · have := digits_len k (n / 10) (by rw [Nat.pow_succ] at h; omega)
      simp only [List.length_append, List.length_singleton]; omega
theorem digits_len6 {n : Nat} {w : World} (h : CanSay n w) : (Lib.decDigits n).length ≤ 6 := digits_len 5 n (by rcases h with h | h <;> omega)
theorem itoa_any (n : Nat) (w : World) (h : CanSay n w) : Calls Tryd.prog 24 #[.int .i64 n] w fun e w' => e = .returned (.string ⟨(Lib.decDigits n).toArray⟩) ∧ Below w.heap.size w w' := by
  rcases h with h | ⟨h, ht⟩
  · exact (Tryd.strconv_Itoa_small n h w).mono fun e w' ⟨h1, h2⟩ => by subst h2; exact ⟨h1, Below.refl _ _⟩
  · refine (Tryd.strconv_Itoa n (by omega) (by omega) w ht).mono fun e w' ⟨h1, k, os, h2⟩ => ?_
    subst h2
    refine ⟨?_, ?_⟩
    · rw [h1]; simp [Lib.itoa]
    · refine ⟨rfl, rfl, rfl, by simp [Sort.grow], fun k hk => ?_⟩
      simp only [Sort.grow]
      rw [Array.getElem?_append]
      rw [if_pos (by simpa using hk)]
      rfl

def otherL (l : List UInt8) (n : Nat) : List UInt8 := l.take (31 - (Lib.decDigits n).length) ++ 126 :: Lib.decDigits n
def otherB (s : ByteArray) (n : Nat) : ByteArray := ⟨(otherL s.data.toList n).toArray⟩
attribute [local go_sem] max2_int min2_int max_two min_two
set_option maxRecDepth 100000 in
theorem other_any (s : ByteArray) (hs : s.size ≤ 1000000) (n : Nat) (w : World) (h : CanSay n w) : Calls Tryd.prog 18 #[.string s, .int .i64 n] w fun e w' => e = .returned (.string (otherB s n)) ∧ Below w.heap.size w w' := by
  have hdl := digits_len6 h
  obtain ⟨D, hD⟩ : ∃ D, D = Lib.decDigits n := ⟨_, rfl⟩
  rw [← hD] at hdl
  have hit := itoa_any n w h
  rw [← hD] at hit
  have hsl : s.data.toList.length = s.size := by simp
  have hz : ((⟨#[126]⟩ : ByteArray) ++ ⟨D.toArray⟩).size = 1 + D.length := by rw [ByteArray.size_append]; simp [ByteArray.size]
  have hz0 : (⟨#[126]⟩ : ByteArray).size = 1 := rfl
  have hz1 : (⟨D.toArray⟩ : ByteArray).size = D.length := by simp [ByteArray.size]
  obtain ⟨E, hE⟩ : ∃ E : ByteArray, E = (⟨#[126]⟩ : ByteArray) ++ ⟨D.toArray⟩ := ⟨_, rfl⟩
  have hEl : E.data.toList = 126 :: D := by rw [hE]; simp
  rw [← hE] at hz
  have HE := Lib.hid hE
  have hbyte : ∀ a b : ByteArray, a.data.toList = b.data.toList → a = b := fun a b h => by
    cases a; cases b; congr 1; exact Array.toList_inj.1 h
  have hadd : (1 : Nat) + D.length ≤ 9223372036854775807 := by omega
  have HO : Hid (otherB s n = ⟨(s.data.toList.take (31 - D.length) ++ 126 :: D).toArray⟩) := by unfold otherB otherL; rw [← hD]; rfl
  have HY := Lib.hid hbyte
  clear hD h hbyte hz hE hEl HE
  clear E
  by_cases hm : s.size ≤ 31 - D.length
  · have hadd2 : s.size + (1 + D.length) ≤ 9223372036854775807 := by omega
    go_enter Tryd.func18, Tryd.ntmps18
    go_wp2_with fail
    refine hit.mono ?_
    rintro e w1 ⟨rfl, hb⟩
    have HB := Lib.hid hb
    clear hb hit
    go_wp2
    go_ret
    refine ⟨?_, HB.out⟩
    rw [HO.out, List.take_of_length_le (by omega)]
    show Ending.returned (Value.string (s ++ ((⟨#[126]⟩ : ByteArray) ++ ⟨D.toArray⟩))) = _
    rw [HY.out (s ++ ((⟨#[126]⟩ : ByteArray) ++ ⟨D.toArray⟩)) ⟨(s.data.toList ++ 126 :: D).toArray⟩ (by simp)]
  · have hadd2 : 32 - (1 + D.length) + (1 + D.length) ≤ 9223372036854775807 := by omega
    have hx : (s.extract 0 (32 - (1 + D.length))).size = 32 - (1 + D.length) := by rw [ByteArray.size_extract]; omega
    go_enter Tryd.func18, Tryd.ntmps18
    go_wp2_with fail
    refine hit.mono ?_
    rintro e w1 ⟨rfl, hb⟩
    have HB := Lib.hid hb
    clear hb hit
    go_wp2
    go_ret
    refine ⟨?_, HB.out⟩
    rw [HO.out]
    show Ending.returned (Value.string (s.extract 0 (32 - (1 + D.length)) ++ ((⟨#[126]⟩ : ByteArray) ++ ⟨D.toArray⟩))) = _
    rw [HY.out (s.extract 0 (32 - (1 + D.length)) ++ ((⟨#[126]⟩ : ByteArray) ++ ⟨D.toArray⟩)) ⟨(s.data.toList.take (31 - D.length) ++ 126 :: D).toArray⟩ (by
      rw [show 31 - D.length = 32 - (1 + D.length) from by omega]
      simp [List.extract])]

/-! ### What others have apart. -/
def dval (l : List UInt8) : Nat := l.foldl (fun a d => a * 10 + (d.toNat - 48)) 0
theorem dval_digits (n : Nat) : dval (Lib.decDigits n) = n := by
  induction n using Nat.strongRecOn with
  | _ n ih =>
    unfold Lib.decDigits
    split
    · rename_i h
      have e : (UInt8.ofNat (48 + n)).toNat = 48 + n := by simp; omega
      show 0 * 10 + ((UInt8.ofNat (48 + n)).toNat - 48) = n
      rw [e]; omega
    · have h2 := ih (n / 10) (by omega)
      have e : (UInt8.ofNat (48 + n % 10)).toNat = 48 + n % 10 := by simp; omega
      unfold dval at h2 ⊢
      rw [List.foldl_append, h2]
      simp only [List.foldl_cons, List.foldl_nil, e]
      omega
theorem digits_are (n : Nat) : ∀ x ∈ Lib.decDigits n, 48 ≤ x.toNat ∧ x.toNat ≤ 57 := by
  induction n using Nat.strongRecOn with
  | _ n ih =>
    intro x hx
    unfold Lib.decDigits at hx
    split at hx
    · obtain rfl := List.mem_singleton.1 hx
      have e : (UInt8.ofNat (48 + n)).toNat = 48 + n := by simp; omega
      rw [e]; omega
    · rcases List.mem_append.1 hx with h | h
      · exact ih (n / 10) (by omega) x h
      · obtain rfl := List.mem_singleton.1 h
        have e : (UInt8.ofNat (48 + n % 10)).toNat = 48 + n % 10 := by simp; omega
        rw [e]; omega
theorem small_digit {x : UInt8} (h : x.toNat ≤ 64 ∨ 91 ≤ x.toNat) : small x = x := if_neg (by omega)
theorem last_part {α : Type} {c : α} {p q d e : List α} (h : p ++ c :: d = q ++ c :: e) (hd : c ∉ d) (he : c ∉ e) : d = e := by
  rcases List.append_eq_append_iff.1 h with ⟨ps, h1, h2⟩ | ⟨ps, h1, h2⟩
  · cases ps with
    | nil => simpa using h2
    | cons a ps =>
      simp only [List.cons_append, List.cons.injEq] at h2
      exact absurd (by rw [h2.2]; simp) hd
  · cases ps with
    | nil => simpa using h2.symm
    | cons a ps =>
      simp only [List.cons_append, List.cons.injEq] at h2
      exact absurd (by rw [h2.2]; simp) he
theorem fold_other (s : ByteArray) (n : Nat) : (foldB (otherB s n)).data.toList = (s.data.toList.take (31 - (Lib.decDigits n).length)).map small ++ 126 :: Lib.decDigits n := by
  have e : (Lib.decDigits n).map small = Lib.decDigits n := by
    rw [List.map_congr_left (f := small) (g := id) (fun x hx => by have h := digits_are n x hx; show small x = x; exact small_digit (by omega))]; simp
  simp only [foldB, otherB, otherL, List.map_append, List.map_cons, e]
  rfl
theorem others_apart (s : ByteArray) (a b : Nat) (h : foldB (otherB s a) = foldB (otherB s b)) : a = b := by
  have h1 := congrArg (fun x : ByteArray => x.data.toList) h
  simp only [fold_other] at h1
  have hn : ∀ n, (126 : UInt8) ∉ Lib.decDigits n := fun n hx => by have := digits_are n _ hx; simp at this
  have h2 := last_part h1 (hn a) (hn b)
  rw [← dval_digits a, ← dval_digits b, h2]
/-- The j-th name tried. -/
def tryB (first : ByteArray) (j : Nat) : ByteArray := if j = 0 then first else otherB first j
theorem nodup_len {α : Type} [DecidableEq α] : ∀ (l u : List α), l.Nodup → l ⊆ u → l.length ≤ u.length
  | [], _, _, _ => by simp
  | a :: l, u, hn, hs => by
    have ha : a ∈ u := hs (by simp)
    have h1 := nodup_len l (u.erase a) (List.nodup_cons.1 hn).2 (fun x hx => (List.mem_erase_of_ne (fun e => (List.nodup_cons.1 hn).1 (by rw [← e]; exact hx))).2 (hs (List.mem_cons_of_mem _ hx)))
    rw [List.length_erase_of_mem ha] at h1
    have := List.length_pos_of_mem ha
    simp only [List.length_cons]; omega
theorem least {p : Nat → Prop} (h : ∃ j, p j) : ∃ j, p j ∧ ∀ i, i < j → ¬ p i := by
  obtain ⟨j, hj⟩ := h
  induction j using Nat.strongRecOn with
  | _ j ih =>
    by_cases h2 : ∃ i, i < j ∧ p i
    · obtain ⟨i, hi, hpi⟩ := h2; exact ih i hi hpi
    · exact ⟨j, hj, fun i hi hp => h2 ⟨i, hi, hp⟩⟩
/-- More names than the used ones are not all used. -/
theorem some_free (u : List ByteArray) (first : ByteArray) (h : ∀ j, j ≤ u.length + 1 → foldB (tryB first j) ∈ u) : False := by
  have hn : ((List.range (u.length + 1)).map fun j => foldB (tryB first (j + 1))).Nodup := by
    rw [List.nodup_iff_pairwise_ne, List.pairwise_map]
    refine List.Pairwise.imp ?_ (List.nodup_iff_pairwise_ne.1 List.nodup_range)
    intro a b hne he
    simp only [tryB, Nat.add_one_ne_zero, if_false] at he
    exact hne (by have := others_apart first _ _ he; omega)
  have hs : ((List.range (u.length + 1)).map fun j => foldB (tryB first (j + 1))) ⊆ u := by
    intro x hx
    obtain ⟨j, hj, rfl⟩ := List.mem_map.1 hx
    rw [List.mem_range] at hj
    exact h (j + 1) (by omega)
  have := nodup_len _ _ hn hs
  simp only [List.length_map, List.length_range] at this
  omega
theorem free_ex (out : List ByteArray) (first : ByteArray) : ∃ j, foldB (tryB first j) ∉ out.map foldB :=
  Classical.byContradiction fun h => some_free (out.map foldB) first fun j _ => Classical.byContradiction fun h2 => h ⟨j, h2⟩
theorem bytes_inj {a b : ByteArray} (h : a.data.toList = b.data.toList) : a = b := by
  cases a; cases b; congr 1; exact Array.toList_inj.1 h
def isUsed (out : List ByteArray) (s : ByteArray) : Bool := (out.map fun y => (foldB y).data.toList).contains (foldB s).data.toList
theorem isUsed_iff (out : List ByteArray) (s : ByteArray) : isUsed out s = true ↔ foldB s ∈ out.map foldB := by
  unfold isUsed
  rw [List.contains_iff_mem, List.mem_map, List.mem_map]
  constructor
  · rintro ⟨y, hy, e⟩; exact ⟨y, hy, bytes_inj e⟩
  · rintro ⟨y, hy, e⟩; exact ⟨y, hy, by rw [e]⟩
/-- The name that comes behind those that are there: the first of those tried that is not used. -/
def nextJ (out : List ByteArray) (first : ByteArray) : Nat := ((List.range (out.length + 2)).find? fun j => !isUsed out (tryB first j)).getD 0
def nextB (out : List ByteArray) (x : ByteArray) : ByteArray := tryB (fixB x) (nextJ out (fixB x))
def assignB (l : List ByteArray) : List ByteArray := l.foldl (fun out x => out ++ [nextB out x]) []
theorem next_free (out : List ByteArray) (first : ByteArray) : foldB (tryB first (nextJ out first)) ∉ out.map foldB ∧ (∀ i, i < nextJ out first → foldB (tryB first i) ∈ out.map foldB) := by
  obtain ⟨j, hj, hmin0⟩ := least (free_ex out first)
  have hmin : ∀ i, i < j → foldB (tryB first i) ∈ out.map foldB := fun i hi => Classical.byContradiction fun h2 => hmin0 i hi h2
  have hjl : j ≤ out.length + 1 := by
    rcases Nat.lt_or_ge (out.length + 1) j with h | h
    · exact (some_free (out.map foldB) first fun i hi => hmin i (by simp at hi; omega)).elim
    · exact h
  have e : (List.range (out.length + 2)).find? (fun j => !isUsed out (tryB first j)) = some j := by
    rw [List.find?_range_eq_some]
    refine ⟨?_, by rw [List.mem_range]; omega, fun i hi => ?_⟩
    · cases h : isUsed out (tryB first j) with
      | false => rfl
      | true => exact absurd ((isUsed_iff _ _).1 h) hj
    · rw [(isUsed_iff _ _).2 (hmin i hi)]; rfl
  have e2 : nextJ out first = j := by rw [nextJ, e]; rfl
  rw [e2]
  exact ⟨hj, hmin⟩
theorem next_le (out : List ByteArray) (first : ByteArray) : nextJ out first ≤ out.length + 1 := by
  rcases Nat.lt_or_ge (out.length + 1) (nextJ out first) with h | h
  · exact (some_free (out.map foldB) first fun i hi => (next_free out first).2 i (by simp at hi; omega)).elim
  · exact h
theorem next_is {out : List ByteArray} {first : ByteArray} {j : Nat} (hb : ∀ i, i < j → foldB (tryB first i) ∈ out.map foldB) (hf : foldB (tryB first j) ∉ out.map foldB) : nextJ out first = j := by
  have h := next_free out first
  rcases Nat.lt_trichotomy (nextJ out first) j with h1 | h1 | h1
  · exact absurd (hb _ h1) h.1
  · exact h1
  · exact absurd (h.2 _ h1) hf
theorem assign_snoc (l : List ByteArray) (x : ByteArray) : assignB (l ++ [x]) = assignB l ++ [nextB (assignB l) x] := by simp [assignB, List.foldl_append]
theorem assign_length (l : List ByteArray) : (assignB l).length = l.length := by
  have : ∀ (l out : List ByteArray), (l.foldl (fun out x => out ++ [nextB out x]) out).length = out.length + l.length := by
    intro l
    induction l with
    | nil => intro out; rfl
    | cons x l ih => intro out; rw [List.foldl_cons, ih]; simp; omega
  simpa [assignB] using this l []
end Go.Proofs.YtojeadkhahmllaaDoorB
