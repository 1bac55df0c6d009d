/- The document's Parts and Before of any paths: a path's pieces; which comes first. Conditions: paths of at most 250 bytes. -/
import Derived.Test.YtdhpolneplbhjaaGreatDoorImgPure
import Derived.Test.YtdhpolneplbhjaaGreatDoorXBeforex1
namespace Go.Proofs.YtdhpolneplbhjaaGreatDoorG
open Go Go.RowKit Go.Proofs.YtdhpolneplbhjaaGreatDoorW.PrintWords Go.Proofs.YtdhpolneplbhjaaGreatDoorW.PrintLast Go.Proofs.YtdhpolneplbhjaaGreatDoorW.PrintMore Go.Proofs.YtdhpolneplbhjaaGreatDoor.XBefore
set_option linter.unusedVariables false
set_option linter.unusedSimpArgs false
theorem bt_get (s : ByteArray) (i : Nat) (h : i < s.data.toList.length) : bt s (i : Int) = ((s.data.toList[i]).toNat : Int) := by
  have h2 : i < s.size := by simpa using h
  have := bt_at s (i : Int) (by simpa using h2)
  rw [← this]
  simp [ByteArray.getElem_eq_getElem_data]
theorem wrap_next (i : Nat) (h : i ≤ 1000000000) : wrap64 ((i : Int) + 1) = ((i + 1 : Nat) : Int) := by unfold wrap64; omega
theorem ext_one (a : ByteArray) (i : Nat) (h : i < a.data.toList.length) : (a.extract i (i + 1)).data.toList = [a.data.toList[i]] := by
  rw [ByteArray.data_extract, Array.toList_extract]
  simp only [List.extract, List.drop_eq_getElem_cons h]
  simp
theorem ext_size (a : ByteArray) (i : Nat) (h : i < a.size) : (a.extract i (i + 1)).size = 1 := by
  rw [ByteArray.size_extract]; omega
theorem parts_run (a : ByteArray) (ha : a.size ≤ 250) : ∀ (k i : Nat) (init : List ByteArray) (last : ByteArray), i ≤ a.size → a.size < k + i → init.length ≤ i → last.size ≤ i →
    ∃ r, arbourref14_Parts.l0 k a (init ++ [last]) (i : Int) = some r ∧ r.map (·.data.toList) = init.map (·.data.toList) ++ ahead last.data.toList (pcs (a.data.toList.drop i)) := by
  intro k
  induction k with
  | zero => intro i init last hi hk; omega
  | succ k ih =>
    intro i init last hi hk hin hla
    by_cases h : i < a.size
    · have hil : i < a.data.toList.length := by simpa using h
      have hd : a.data.toList.drop i = a.data.toList[i] :: a.data.toList.drop (i + 1) := List.drop_eq_getElem_cons hil
      have hw := wrap_next i (by omega)
      have hlen : (init ++ [last]).length = init.length + 1 := by simp
      rw [arbourref14_Parts.l0, if_pos (by omega), if_pos (by omega), bt_get a i hil, hd, ahead_cons, hw]
      by_cases hc : a.data.toList[i] = 47
      · rw [if_pos (by rw [hc]; rfl), if_pos (by omega), if_pos hc]
        obtain ⟨r, h1, h2⟩ := ih (i + 1) (init ++ [last]) ⟨#[]⟩ (by omega) (by omega) (by omega) (by show 0 ≤ _; omega)
        refine ⟨r, h1, ?_⟩
        have e0 : (⟨#[]⟩ : ByteArray).data.toList = [] := rfl
        rw [h2, e0, ahead_nil]
        simp
      · have hc2 : ¬ ((a.data.toList[i]).toNat : Int) = 47 := fun h => hc (UInt8.toNat_inj.1 (show _ = 47 by omega))
        have hj : wrap64 (((init ++ [last]).length : Int) - 1) = (init.length : Int) := by rw [hlen]; unfold wrap64; omega
        have hrd : rdOf ByteArray.empty (init ++ [last]) (init.length : Int) = last := by simp [rdOf]
        have hset : ∀ x : ByteArray, (init ++ [last]).set init.length x = init ++ [x] := fun x => by simp
        have hes := ext_size a i h
        rw [if_neg hc2, hj, hrd, if_pos (by omega), if_pos (by omega), if_pos (by omega), if_pos (by omega), Int.toNat_natCast, Int.toNat_natCast, hes, if_pos (by omega)]
        simp only [Int.toNat_natCast]
        rw [hset, if_neg hc]
        obtain ⟨r, h1, h2⟩ := ih (i + 1) init (last ++ a.extract i (i + 1)) (by omega) (by omega) (by omega) (by rw [ByteArray.size_append, hes]; omega)
        refine ⟨r, h1, ?_⟩
        rw [h2, ByteArray.data_append, Array.toList_append, ext_one a i hil]
    · obtain rfl : i = a.size := by omega
      rw [arbourref14_Parts.l0, if_neg (by omega)]
      refine ⟨_, rfl, ?_⟩
      rw [List.drop_of_length_le (by simp)]
      simp [pcs, ahead]
theorem parts_any (a : ByteArray) (ha : a.size ≤ 250) (k : Nat) (hk : 250 < k) : ∃ r, arbourref14_Parts.f k a = some r ∧ r.map (·.data.toList) = pcs a.data.toList := by
  obtain ⟨r, h1, h2⟩ := parts_run a ha k 0 [] ⟨#[]⟩ (by omega) (by omega) (by simp) (by show 0 ≤ _; omega)
  refine ⟨r, h1, ?_⟩
  have e0 : (⟨#[]⟩ : ByteArray).data.toList = [] := rfl
  rw [h2, e0, ahead_nil]
  simp
theorem pcs_len : ∀ s : List UInt8, (pcs s).length ≤ s.length + 1
  | [] => by simp [pcs]
  | c :: s => by
    have := pcs_len s
    unfold pcs
    split
    · simp; omega
    · split <;> rename_i h <;> rw [h] at this <;> simp at this ⊢
      omega
theorem before_run (l m : List ByteArray) (hl : l.length ≤ 1000) (hm : m.length ≤ 1000) : ∀ (k i : Nat), i ≤ l.length → i ≤ m.length → 2 * (l.length - i) + 1 < k →
    arbourref15_Before.l0 k l m (i : Int) = some (decide (cmpD ((l.drop i).map (·.data.toList)) ((m.drop i).map (·.data.toList)) < 0)) := by
  intro k
  induction k using Nat.strongRecOn with
  | ind k ih =>
    intro i hi hj hk
    obtain ⟨k, rfl⟩ : ∃ q, k = q + 2 := ⟨k - 2, by omega⟩
    by_cases h : i < l.length
    · have hd : l.drop i = l[i] :: l.drop (i + 1) := List.drop_eq_getElem_cons h
      rw [arbourref15_Before.l0, if_pos (by omega), arbourref15_Before.j1]
      by_cases h2 : i < m.length
      · have hd2 : m.drop i = m[i] :: m.drop (i + 1) := List.drop_eq_getElem_cons h2
        have e1 : rdOf ByteArray.empty l (i : Int) = l[i] := by simp [rdOf, List.getD, h]
        have e2 : rdOf ByteArray.empty m (i : Int) = m[i] := by simp [rdOf, List.getD, h2]
        rw [if_pos (decide_eq_true (by omega)), if_pos (by omega), if_pos (by omega), if_pos (by omega), e1, e2, hd, hd2, List.map_cons, List.map_cons, cmpD, wrap_next i (by omega), toList_data, toList_data]
        by_cases he : l[i].data.toList = m[i].data.toList
        · rw [if_pos he, if_pos he]
          exact ih k (by omega) (i + 1) (by omega) (by omega) (by omega)
        · rw [if_neg he, if_neg he]
          cases Op.bytesLess l[i].data.toList m[i].data.toList <;> rfl
      · obtain rfl : i = m.length := by omega
        rw [if_neg (by simp), hd, List.drop_length, List.map_cons, List.map_nil, cmpD]
        congr 1
        rw [decide_eq_false (by omega), decide_eq_false (by omega)]
    · obtain rfl : i = l.length := by omega
      rw [arbourref15_Before.l0, if_neg (by omega), arbourref15_Before.j1, if_neg (by simp), List.drop_length, List.map_nil]
      congr 1
      by_cases h2 : l.length < m.length
      · rw [List.drop_eq_getElem_cons h2, List.map_cons, cmpD, decide_eq_true (by omega), decide_eq_true (by omega)]
      · rw [List.drop_of_length_le (by omega), List.map_nil, cmpD, decide_eq_false (by omega), decide_eq_false (by omega)]
/-- Which of two paths comes first, as the document has it. -/
theorem before_any (a b : ByteArray) (ha : a.size ≤ 250) (hb : b.size ≤ 250) : arbourref15_Before.f 1000 a b = some (decide (cmpD (pcs a.data.toList) (pcs b.data.toList) < 0)) := by
  obtain ⟨l, h1, h2⟩ := parts_any a ha 1000 (by omega)
  obtain ⟨m, h3, h4⟩ := parts_any b hb 1000 (by omega)
  have len : ∀ (s : ByteArray) (r : List ByteArray), s.size ≤ 250 → r.map (·.data.toList) = pcs s.data.toList → r.length ≤ 251 := fun s r hs hr => by
    have h5 := congrArg List.length hr
    have h6 := pcs_len s.data.toList
    have h7 : s.data.toList.length = s.size := by simp
    rw [List.length_map] at h5
    omega
  have n1 := len a l ha h2
  have n2 := len b m hb h4
  unfold arbourref15_Before.f
  rw [h1, Option.bind_some, h3, Option.bind_some, ← h2, ← h4]
  exact before_run l m (by omega) (by omega) 1000 0 (by omega) (by omega) (by omega)
theorem less_asymm : ∀ s t : List UInt8, Op.bytesLess s t = true → Op.bytesLess t s = false
  | [], [], h => by cases h
  | [], b :: y, _ => rfl
  | a :: x, [], h => by cases h
  | a :: x, b :: y, h => by
    rw [Op.bytesLess, Bool.or_eq_true] at h
    rw [Op.bytesLess, Bool.or_eq_false_iff]
    rcases h with h | h
    · have h := of_decide_eq_true h
      have hn : (b == a) = false := beq_eq_false_iff_ne.2 fun e => by subst e; exact UInt8.lt_irrefl _ h
      refine ⟨decide_eq_false fun q => ?_, by rw [hn]; rfl⟩
      have h1 := UInt8.lt_iff_toNat_lt.1 h
      have h2 := UInt8.lt_iff_toNat_lt.1 q
      omega
    · obtain ⟨h1, h2⟩ := Bool.and_eq_true_iff.1 h
      have e := eq_of_beq h1
      subst e
      exact ⟨decide_eq_false (UInt8.lt_irrefl _), by rw [less_asymm x y h2]; simp⟩
theorem cmpD_flip : ∀ x y : List (List UInt8), cmpD y x = - cmpD x y
  | [], [] => rfl
  | [], _ :: _ => rfl
  | _ :: _, [] => rfl
  | s :: l, t :: m => by
    rw [cmpD, cmpD, cmpD_flip l m]
    by_cases h : s = t
    · rw [if_pos h, if_pos h.symm]
    · rw [if_neg h, if_neg (fun e => h e.symm)]
      have hne : (s == t) = false := beq_eq_false_iff_ne.2 h
      have hne2 : (t == s) = false := beq_eq_false_iff_ne.2 fun e => h e.symm
      cases h1 : Op.bytesLess s t with
      | true =>
        cases h2 : Op.bytesLess t s with
        | true => exact absurd h1 (by rw [less_asymm t s h2]; simp)
        | false => rfl
      | false =>
        have h3 := less_not_gt s t h1
        rw [h1, hne] at h3
        rw [← h3]; rfl
end Go.Proofs.YtdhpolneplbhjaaGreatDoorG
