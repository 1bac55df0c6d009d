/- Plain facts on the printed functions of layer 14 that the statement NameTexts reaches. -/
import Derived.Test.YtojeadkhahmllaaDoorXNameTextsx0
import Derived.Test.YtojeadkhahmllaaDoorXNameTextsx1
import Derived.Test.YtojeadkhahmllaaDoorXNameTextsx2
import Derived.Test.YtojeadkhahmllaaDoorXNameTextsx3
import Derived.Test.YtojeadkhahmllaaDoorXNameTextsx4
import Derived.Test.YtojeadkhahmllaaDoorPaths
namespace Go.Proofs.YtojeadkhahmllaaDoor.XNameTexts
set_option linter.unusedVariables false
set_option linter.unusedSimpArgs false
open Go.RowKit Go.Proofs.YtojeadkhahmllaaDoorW.PrintWords Go.Proofs.YtojeadkhahmllaaDoorW.PrintLast Go.Proofs.YtojeadkhahmllaaDoorW.PrintMore Go.Proofs.YtojeadkhahmllaaDoorB

theorem toList_data (s : ByteArray) : s.toList = s.data.toList := ByteArray.toList_eq s
theorem toList_same (a b : ByteArray) : a.toList = b.toList ↔ a = b := by
  constructor
  · intro h; rw [toList_data, toList_data] at h; exact bytes_inj h
  · rintro rfl; rfl
theorem size_data (s : ByteArray) : s.data.toList.length = s.size := by simp
theorem bt_get (s : ByteArray) (i : Nat) (h : i < s.data.toList.length) : bt s (i : Int) = ((s.data.toList[i]).toNat : Int) := by
  have h2 : i < s.size := by rw [← size_data]; exact h
  have := bt_at s (i : Int) (by simpa using h2)
  rw [← this]
  simp [ByteArray.getElem_eq_getElem_data]
theorem rdOf_get (l : List ByteArray) (i : Nat) (h : i < l.length) : rdOf ByteArray.empty l (i : Int) = l[i] := by simp [rdOf, List.getD, h]
theorem wrap_next (i : Nat) (h : i ≤ 1000000000) : wrap64 ((i : Int) + 1) = ((i + 1 : Nat) : Int) := by unfold wrap64; omega

/-! ### Fold, as the document has it -/
theorem rfold_ev (s : ByteArray) (hs : s.size ≤ 1000000) : Ev (fun k => arbourref14_Fold.f k s) (foldB s) := by
  have e0 : foldB s = strOfNums ((s.data.toList.map small).map fun x => (x.toNat : Int)) := by
    unfold foldB strOfNums
    simp only [List.map_map, Function.comp_def]
    congr 2
    apply List.map_congr_left
    intro x _
    simp
  have loop : ∀ (d i : Nat), i + d = s.size → Ev (fun k => arbourref14_Fold.l0 k s (((s.data.toList.map small).map fun x => (x.toNat : Int)).take i) (i : Int)) (foldB s) := by
    intro d
    induction d with
    | zero =>
      intro i hi
      refine Ev.step (f := fun _ => some (foldB s)) (fun k => ?_) (Ev.now _)
      simp only [arbourref14_Fold.l0]
      rw [if_neg (by omega), e0, List.take_of_length_le (by simp; omega)]
    | succ d ih =>
      intro i hi
      have hil : i < s.data.toList.length := by rw [size_data]; omega
      refine Ev.step (fun k => ?_) (ih (i + 1) (by omega))
      simp only [arbourref14_Fold.l0]
      have hlen : (((s.data.toList.map small).map fun x => (x.toNat : Int)).take i).length = i := by simp; omega
      have hnx : ((s.data.toList.map small).map fun x => (x.toNat : Int)).take (i + 1) = ((s.data.toList.map small).map fun x => (x.toNat : Int)).take i ++ [((small s.data.toList[i]).toNat : Int)] := by
        rw [List.take_succ_eq_append_getElem (by simpa using hil)]; simp
      rw [if_pos (by omega), if_pos (by omega), bt_get s i hil, hnx, wrap_next i (by omega)]
      generalize s.data.toList[i] = x
      by_cases h1 : 65 ≤ x.toNat
      · rw [if_pos (by omega)]
        by_cases h2 : x.toNat ≤ 90
        · rw [if_pos (by omega), if_pos (by rw [hlen]; omega)]
          have : ((small x).toNat : Int) = (x.toNat + 32) % 256 := by
            have e : small x = x + 32 := if_pos ⟨h1, h2⟩
            rw [e, UInt8.toNat_add]; simp
          rw [this]
        · rw [if_neg (by omega), if_pos (by rw [hlen]; omega), show small x = x from if_neg (by omega)]
      · rw [if_neg (by omega), if_pos (by rw [hlen]; omega), show small x = x from if_neg (by omega)]
  exact loop s.size 0 (by omega)

/-! ### Which bytes may stand in a name, as the document has it -/
theorem rfine_ev (x : UInt8) : Ev (fun k => arbourref14_fine.f k (x.toNat : Int)) (fineB x) := by
  have key : ∀ n : Fin 256, arbourref14_fine.f 12 (n.val : Int) = some (fineB (UInt8.ofNat n.val)) := by decide +kernel
  have h := key ⟨x.toNat, UInt8.toNat_lt x⟩
  exact Ev.of (k := 12) (fun k => arbourref14_fine.mono _ k) (by simpa using h)
/-- May a text be a name? -/
def legalB (s : ByteArray) : Bool := decide (1 ≤ s.size) && decide (s.size ≤ 32) && (s.data.toList.getLast? != some 46) && s.data.toList.all fineB
theorem rlegal_ev (s : ByteArray) (hs : s.size ≤ 1000000) : Ev (fun k => arbourref14_Legal.f k s) (legalB s) := by
  have loop : ∀ (d i : Nat), i + d = s.size → Ev (fun k => arbourref14_Legal.l0 k s (i : Int)) ((s.data.toList.drop i).all fineB) := by
    intro d
    induction d with
    | zero =>
      intro i hi
      refine Ev.step (f := fun _ => some true) (fun k => ?_) ?_
      · simp only [arbourref14_Legal.l0]; rw [if_neg (by omega)]
      · rw [List.drop_of_length_le (by rw [size_data]; omega)]; exact Ev.now _
    | succ d ih =>
      intro i hi
      have hil : i < s.data.toList.length := by rw [size_data]; omega
      rw [List.drop_eq_getElem_cons hil, List.all_cons]
      refine Ev.step (f := fun k => (arbourref14_fine.f k ((s.data.toList[i]).toNat : Int)).bind fun t => if t = true then arbourref14_Legal.l0 k s ((i + 1 : Nat) : Int) else some false) (fun k => ?_) ?_
      · simp only [arbourref14_Legal.l0]
        rw [if_pos (by omega), if_pos (by omega), bt_get s i hil, wrap_next i (by omega)]
      · refine Ev.bind (rfine_ev _) ?_
        cases fineB s.data.toList[i] with
        | true => simpa using ih (i + 1) (by omega)
        | false => simpa using Ev.now false
  have tail : ∀ b : Bool, Ev (fun k => arbourref14_Legal.j0 k s b) (!b && s.data.toList.all fineB) := by
    intro b
    cases b with
    | true => exact Ev.step (f := fun _ => some false) (fun k => by simp [arbourref14_Legal.j0]) (Ev.now _)
    | false => exact Ev.step (f := fun k => arbourref14_Legal.l0 k s 0) (fun k => by simp [arbourref14_Legal.j0]) (by simpa using loop s.size 0 (by omega))
  unfold legalB
  by_cases h0 : s.size = 0
  · have e : s.toList = [] := by rw [toList_data]; exact List.eq_nil_of_length_eq_zero (by rw [size_data]; exact h0)
    refine Ev.congr (f := fun k => arbourref14_Legal.j0 k s true) (fun k => ?_) ?_
    · simp only [arbourref14_Legal.f]; rw [if_pos e]
    · have := tail true
      simpa [h0] using this
  · have e : s.toList ≠ [] := fun e => h0 (by rw [← size_data, ← toList_data, e]; rfl)
    by_cases h32 : s.size ≤ 32
    · have hl : s.size - 1 < s.data.toList.length := by rw [size_data]; omega
      refine Ev.congr (f := fun k => arbourref14_Legal.j0 k s (((s.data.toList[s.size - 1]).toNat : Int) == 46)) (fun k => ?_) ?_
      · simp only [arbourref14_Legal.f]
        have hw : wrap64 ((s.size : Int) - 1) = ((s.size - 1 : Nat) : Int) := by unfold wrap64; omega
        rw [if_neg e, if_neg (by omega), hw, if_pos (by omega), if_pos (by omega), bt_get s _ hl]
      · have hg : s.data.toList.getLast? = some s.data.toList[s.size - 1] := by
          rw [List.getLast?_eq_getElem?, size_data, List.getElem?_eq_getElem hl]
        have e2 : (s.data.toList.getLast? != some 46) = !(((s.data.toList[s.size - 1]).toNat : Int) == 46) := by
          rw [hg]
          generalize s.data.toList[s.size - 1] = y
          by_cases hy : y = 46
          · subst hy; rfl
          · have : ¬ ((y.toNat : Int) = 46) := fun h => hy (UInt8.toNat_inj.1 (by show y.toNat = 46; omega))
            rw [show ((some y : Option UInt8) != some 46) = true from bne_iff_ne.2 (fun h => hy (Option.some.inj h)), show ((y.toNat : Int) == 46) = false from beq_eq_false_iff_ne.2 this]
            rfl
        rw [e2, decide_eq_true (by omega), decide_eq_true h32, Bool.true_and, Bool.true_and]
        exact tail (((s.data.toList[s.size - 1]).toNat : Int) == 46)
    · refine Ev.congr (f := fun k => arbourref14_Legal.j0 k s true) (fun k => ?_) ?_
      · simp only [arbourref14_Legal.f]; rw [if_neg e, if_pos (by omega)]
      · have := tail true
        simpa [h32] using this
theorem undot_get (l : List UInt8) (i : Nat) (h : i < l.length) : (undot l)[i]? = some (if i + 1 = l.length ∧ l[i] = 46 then 95 else l[i]) := by
  obtain ⟨n, hn⟩ : ∃ n, l.length = n + 1 := ⟨l.length - 1, by omega⟩
  by_cases h46 : l[n]'(by omega) = 46
  · rw [undot_dot hn h46, List.getElem?_set]
    by_cases e : n = i
    · subst e
      rw [if_pos rfl, if_pos (by omega), if_pos ⟨by omega, h46⟩]
    · rw [if_neg e, if_neg (by omega), List.getElem?_eq_getElem h]
  · rw [undot_none hn h46, List.getElem?_eq_getElem h, if_neg]
    rintro ⟨e, h2⟩
    have : i = n := by omega
    subst this
    exact h46 h2
theorem undot_length (l : List UInt8) : (undot l).length = l.length := by unfold undot; split <;> simp
theorem rfix_ev (s : ByteArray) (hs : s.size ≤ 1000000) : Ev (fun k => arbourref14_Fix.f k s) (fixB s) := by
  have body : ∀ (t : ByteArray) (L : List UInt8), t.data.toList = L → L.length ≤ 32 → Ev (fun k => arbourref14_Fix.j0 k t) ⟨(undot (L.map mend)).toArray⟩ := by
    intro t L hL h32
    have htl : t.size = L.length := by rw [← size_data, hL]
    obtain ⟨G, hG⟩ : ∃ G, G = undot (L.map mend) := ⟨_, rfl⟩
    have hGl : G.length = L.length := by rw [hG, undot_length, List.length_map]
    have eG : strOfNums (G.map fun x => (x.toNat : Int)) = ⟨G.toArray⟩ := by
      unfold strOfNums
      simp only [List.map_map, Function.comp_def]
      congr 2
      rw [List.map_congr_left (g := id) (fun x _ => by simp)]; simp
    have loop : ∀ (d i : Nat), i + d = L.length → Ev (fun k => arbourref14_Fix.l0 k t ((G.map fun x => (x.toNat : Int)).take i) (i : Int)) ⟨G.toArray⟩ := by
      intro d
      induction d with
      | zero =>
        intro i hi
        refine Ev.step (f := fun _ => some (⟨G.toArray⟩ : ByteArray)) (fun k => ?_) (Ev.now _)
        simp only [arbourref14_Fix.l0]
        rw [if_neg (by omega), List.take_of_length_le (by simp; omega), eG]
      | succ d ih =>
        intro i hi
        have hil : i < L.length := by omega
        have hlen : ((G.map fun x => (x.toNat : Int)).take i).length = i := by simp; omega
        have hgi := undot_get (L.map mend) i (by simpa using hil)
        rw [← hG, List.getElem?_eq_getElem (by omega)] at hgi
        simp only [List.getElem_map, List.length_map] at hgi
        have hgi2 := Option.some.inj hgi
        have hnx : (G.map fun x => (x.toNat : Int)).take (i + 1) = (G.map fun x => (x.toNat : Int)).take i ++ [((if i + 1 = L.length ∧ mend L[i] = 46 then (95 : UInt8) else mend L[i]).toNat : Int)] := by
          rw [List.take_succ_eq_append_getElem (by simp; omega), List.getElem_map, hgi2]
        have hbt : bt t (i : Int) = ((L[i]).toNat : Int) := by
          rw [bt_get t i (by rw [hL]; exact hil)]; simp only [hL]
        have hw : wrap64 ((t.size : Int) - 1) = ((L.length : Int) - 1) := by unfold wrap64; omega
        have hst := ih (i + 1) (by omega)
        rw [hnx] at hst
        refine Ev.step (f := fun k => (arbourref14_fine.f k ((L[i]).toNat : Int)).bind fun t119 => if t119 = true then (if (i : Int) = (L.length : Int) - 1 then (if ((L[i]).toNat : Int) = 46 then arbourref14_Fix.l0 k t ((G.map fun x => (x.toNat : Int)).take i ++ [95]) ((i + 1 : Nat) : Int) else arbourref14_Fix.l0 k t ((G.map fun x => (x.toNat : Int)).take i ++ [((L[i]).toNat : Int)]) ((i + 1 : Nat) : Int)) else arbourref14_Fix.l0 k t ((G.map fun x => (x.toNat : Int)).take i ++ [((L[i]).toNat : Int)]) ((i + 1 : Nat) : Int)) else arbourref14_Fix.l0 k t ((G.map fun x => (x.toNat : Int)).take i ++ [95]) ((i + 1 : Nat) : Int)) (fun k => ?_) ?_
        · simp only [arbourref14_Fix.l0]
          rw [if_pos (by omega), if_pos (by omega), hbt, hw, wrap_next i (by omega)]
          have hlt : ((G.map fun x => (x.toNat : Int)).take i).length < 140737488355328 := by omega
          simp only [if_pos hlt]
        · refine Ev.bind (rfine_ev _) ?_
          generalize L[i] = x at hst
          cases hf : fineB x with
          | true =>
            rw [mend_fine hf] at hst
            by_cases h1 : (i : Int) = (L.length : Int) - 1
            · by_cases h2 : (x.toNat : Int) = 46
              · have hx : x = 46 := UInt8.toNat_inj.1 (by show x.toNat = 46; omega)
                rw [if_pos ⟨by omega, hx⟩] at hst
                exact Ev.congr (fun k => by rw [if_pos rfl, if_pos h1, if_pos h2]; rfl) hst
              · rw [if_neg (fun h => h2 (by rw [h.2]; rfl))] at hst
                exact Ev.congr (fun k => by rw [if_pos rfl, if_pos h1, if_neg h2]) hst
            · rw [if_neg (fun h => h1 (by omega))] at hst
              exact Ev.congr (fun k => by rw [if_pos rfl, if_neg h1]) hst
          | false =>
            rw [mend_not hf] at hst
            rw [if_neg (fun h => absurd h.2 (by decide))] at hst
            exact Ev.congr (fun k => by rw [if_neg (by simp)]; rfl) hst
    have h0 := loop L.length 0 (by omega)
    rw [hG] at h0
    exact Ev.step (f := fun k => arbourref14_Fix.l0 k t [] 0) (fun k => rfl) (by simpa [← hG] using h0)
  by_cases h0 : s.size = 0
  · have e : s.toList = [] := by rw [toList_data]; exact List.eq_nil_of_length_eq_zero (by rw [size_data]; exact h0)
    refine Ev.congr (f := fun _ => some (⟨#[95]⟩ : ByteArray)) (fun k => ?_) ?_
    · simp only [arbourref14_Fix.f]; rw [if_pos e]
    · rw [fix_empty h0]; exact Ev.now _
  · have e : s.toList ≠ [] := fun e => h0 (by rw [← size_data, ← toList_data, e]; rfl)
    rw [fix_some (by omega)]
    by_cases h32 : s.size ≤ 32
    · refine Ev.congr (f := fun k => arbourref14_Fix.j0 k s) (fun k => ?_) (body s (s.data.toList.take 32) (by rw [List.take_of_length_le (by rw [size_data]; exact h32)]) (by rw [List.length_take]; omega))
      simp only [arbourref14_Fix.f]; rw [if_neg e, if_neg (by omega)]
    · refine Ev.congr (f := fun k => arbourref14_Fix.j0 k (s.extract 0 32)) (fun k => ?_) (body (s.extract 0 32) (s.data.toList.take 32) (by rw [ByteArray.data_extract, Array.toList_extract]; rfl) (by rw [List.length_take]; omega))
      simp only [arbourref14_Fix.f]; rw [if_neg e, if_pos (by omega), if_pos (by omega), if_pos (by omega)]
theorem awake_some : arbourlaw14_awake.f = some true := by decide +kernel
def fewB (s : ByteArray) : ByteArray := if s.size > 300 then s.extract 0 300 else s
theorem few_some (s : ByteArray) : arbourlaw14_few.f s = some (fewB s) := by
  unfold arbourlaw14_few.f fewB
  by_cases h : s.size > 300
  · rw [if_pos (by omega), if_pos (by omega), if_pos (by omega), if_pos h]
  · rw [if_neg (by omega), if_neg h]
theorem few_size (s : ByteArray) : (fewB s).size ≤ 300 := by
  unfold fewB
  split
  · rw [ByteArray.size_extract]; omega
  · omega

/-! ### What is assigned may be, and no two are the same, small -/
theorem fine_digit {x : UInt8} (h : 48 ≤ x.toNat ∧ x.toNat ≤ 57) : fineB x = true := by
  have key : ∀ n : Fin 256, 48 ≤ n.val → n.val ≤ 57 → fineB (UInt8.ofNat n.val) = true := by decide +kernel
  have := key ⟨x.toNat, UInt8.toNat_lt x⟩ h.1 h.2
  simpa using this
theorem mend_is_fine (x : UInt8) : fineB (mend x) = true := by
  cases h : fineB x with
  | true => rw [mend_fine h]; exact h
  | false => rw [mend_not h]; decide
theorem undot_all {l : List UInt8} (h : ∀ x ∈ l, fineB x = true) : ∀ x ∈ undot l, fineB x = true := by
  unfold undot
  split
  · intro x hx
    rcases List.mem_or_eq_of_mem_set hx with h1 | h1
    · exact h x h1
    · subst h1; decide
  · exact h
theorem undot_last (l : List UInt8) : (undot l).getLast? ≠ some 46 := by
  unfold undot
  split
  · rename_i h
    have hl : l ≠ [] := by rintro rfl; simp at h
    have hp : 0 < l.length := List.length_pos_iff.2 hl
    rw [List.getLast?_eq_getElem?, List.length_set, List.getElem?_set, if_pos rfl, if_pos (by omega)]
    decide
  · assumption
theorem legal_of {l : List UInt8} (h1 : 1 ≤ l.length) (h2 : l.length ≤ 32) (h3 : l.getLast? ≠ some 46) (h4 : ∀ x ∈ l, fineB x = true) : legalB ⟨l.toArray⟩ = true := by
  have hs : (⟨l.toArray⟩ : ByteArray).size = l.length := by show l.toArray.size = _; simp
  unfold legalB
  rw [hs, decide_eq_true h1, decide_eq_true h2]
  simp only [Bool.true_and, Bool.and_eq_true]
  exact ⟨bne_iff_ne.2 h3, List.all_eq_true.2 h4⟩
theorem fix_all (s : ByteArray) : ∀ x ∈ (fixB s).data.toList, fineB x = true := by
  show ∀ x ∈ fixL s.data.toList, fineB x = true
  unfold fixL
  split
  · decide
  · refine undot_all fun x hx => ?_
    obtain ⟨y, _, rfl⟩ := List.mem_map.1 hx
    exact mend_is_fine y
theorem legal_fixed (s : ByteArray) : legalB (fixB s) = true := by
  refine legal_of (l := fixL s.data.toList) ?_ ?_ ?_ (fix_all s)
  · unfold fixL
    split
    · decide
    · rename_i h
      have : s.data.toList ≠ [] := fun e => h (by rw [e]; rfl)
      have hp := List.length_pos_iff.2 this
      rw [show (undot ((s.data.toList.take 32).map mend)).length = ((s.data.toList.take 32).map mend).length from by unfold undot; split <;> simp, List.length_map, List.length_take]
      omega
  · have h := fix_size s
    have e : (fixB s).size = (fixL s.data.toList).length := by show (fixL s.data.toList).toArray.size = _; simp
    rw [← e]; exact h
  · unfold fixL
    split
    · decide
    · exact undot_last _

/-! ### Legal, as the program has it -/
theorem pfine_ev (x : UInt8) : Ev (fun k => name_fine.f k (x.toNat : Int)) (fineB x) := by
  have key : ∀ n : Fin 256, name_fine.f 12 (n.val : Int) = some (fineB (UInt8.ofNat n.val)) := by decide +kernel
  have h := key ⟨x.toNat, UInt8.toNat_lt x⟩
  exact Ev.of (k := 12) (fun k => name_fine.mono _ k) (by simpa using h)
def tailB (s : ByteArray) : Bool := decide (1 ≤ s.size) && decide (s.size ≤ 32) && (s.data.toList.getLast? != some 46)
theorem legal_tail (s : ByteArray) : legalB s = (s.data.toList.all fineB && tailB s) := by
  unfold legalB tailB
  cases s.data.toList.all fineB <;> simp
theorem plegal_ev (s : ByteArray) (hs : s.size ≤ 1000000) : Ev (fun k => name_Legal.f k s) (legalB s) := by
  have last : Ev (fun k => name_Legal.l0 (k + 1) s (s.size : Int) (s.size : Int)) (tailB s) := by
    refine Ev.congr (f := fun _ => some (tailB s)) (fun k => ?_) (Ev.now _)
    simp only [name_Legal.l0]
    rw [if_neg (by omega)]
    unfold tailB
    by_cases h1 : 1 ≤ s.size
    · rw [if_pos (by omega)]
      by_cases h2 : s.size ≤ 32
      · have hl : s.size - 1 < s.data.toList.length := by rw [size_data]; omega
        have hw : wrap64 ((s.size : Int) - 1) = ((s.size - 1 : Nat) : Int) := by unfold wrap64; omega
        have hg : s.data.toList.getLast? = some s.data.toList[s.size - 1] := by
          rw [List.getLast?_eq_getElem?, size_data, List.getElem?_eq_getElem hl]
        rw [if_pos (by omega), hw, if_pos (by omega), if_pos (by omega), bt_get s _ hl, hg, decide_eq_true h1, decide_eq_true h2]
        generalize s.data.toList[s.size - 1] = y
        by_cases hy : y = 46
        · subst hy; rfl
        · have hn : ¬ ((y.toNat : Int) = 46) := fun h => hy (UInt8.toNat_inj.1 (by show y.toNat = 46; omega))
          rw [show ((some y : Option UInt8) != some 46) = true from bne_iff_ne.2 (fun h => hy (Option.some.inj h)), show ((y.toNat : Int) != 46) = true from bne_iff_ne.2 hn]
          rfl
      · rw [if_neg (by omega), decide_eq_false h2]; simp
    · rw [if_neg (by omega), decide_eq_false h1]; simp
  have loop : ∀ (d i : Nat), i + d = s.size → Ev (fun k => name_Legal.l0 k s (s.size : Int) (i : Int)) ((s.data.toList.drop i).all fineB && tailB s) := by
    intro d
    induction d with
    | zero =>
      intro i hi
      obtain rfl : i = s.size := by omega
      rw [List.drop_of_length_le (by rw [size_data]; omega)]
      exact Ev.step (fun k => rfl) last
    | succ d ih =>
      intro i hi
      have hil : i < s.data.toList.length := by rw [size_data]; omega
      rw [List.drop_eq_getElem_cons hil, List.all_cons]
      refine Ev.step (f := fun k => (name_fine.f k ((s.data.toList[i]).toNat : Int)).bind fun t => if t = true then name_Legal.l0 k s (s.size : Int) ((i + 1 : Nat) : Int) else some false) (fun k => ?_) ?_
      · simp only [name_Legal.l0]
        rw [if_pos (by omega), if_pos (by omega), if_pos (by omega), bt_get s i hil, wrap_next i (by omega)]
      · refine Ev.bind (pfine_ev _) ?_
        cases fineB s.data.toList[i] with
        | true => simpa using ih (i + 1) (by omega)
        | false => simpa using Ev.now false
  have := loop s.size 0 (by omega)
  rw [List.drop_zero, ← legal_tail] at this
  exact this

/-! ### where a path is cut -/
def lst (l : List UInt8) : Nat → Option Nat
  | 0 => none
  | n + 1 => if l[n]? = some 47 then some n else lst l n
theorem lst_lt (l : List UInt8) : ∀ (n j : Nat), lst l n = some j → j < n
  | 0, j, h => by simp [lst] at h
  | n + 1, j, h => by
    unfold lst at h
    split at h
    · obtain rfl := Option.some.inj h; omega
    · have := lst_lt l n j h; omega
def cutP (s : ByteArray) : Option Nat → ByteArray × ByteArray
  | some j => (s.extract 0 j, s.extract (j + 1) s.size)
  | none => (⟨#[]⟩, s)
theorem hit_iff (s : ByteArray) (n : Nat) (h : n < s.data.toList.length) : ((s.data.toList[n]).toNat : Int) = 47 ↔ s.data.toList[n]? = some 47 := by
  rw [List.getElem?_eq_getElem h]
  constructor
  · intro e; exact congrArg some (UInt8.toNat_inj.1 (by show _ = 47; omega))
  · intro e; rw [Option.some.inj e]; rfl
theorem lastb_ev (s : ByteArray) (hs : s.size ≤ 1000000) : ∀ n, n ≤ s.size → Ev (fun k => bytealg_LastIndexByteString.l0 k s 47 ((n : Int) - 1)) (match lst s.data.toList n with | some j => (j : Int) | none => -1) := by
  intro n
  induction n with
  | zero =>
    intro _
    refine Ev.step (f := fun _ => some (-1)) (fun k => ?_) (Ev.now _)
    simp only [bytealg_LastIndexByteString.l0]
    rw [if_neg (by omega)]
  | succ n ih =>
    intro hn
    have hl : n < s.data.toList.length := by rw [size_data]; omega
    have e : ((n + 1 : Nat) : Int) - 1 = (n : Int) := by omega
    have hw : wrap64 ((n : Int) - 1) = (n : Int) - 1 := by unfold wrap64; omega
    rw [e]
    by_cases hc : s.data.toList[n]? = some 47
    · refine Ev.step (f := fun _ => some (n : Int)) (fun k => ?_) ?_
      · simp only [bytealg_LastIndexByteString.l0]
        rw [if_pos (by omega), if_pos (by omega), if_pos (by omega), bt_get s n hl, if_pos ((hit_iff s n hl).2 hc)]
      · rw [lst, if_pos hc]; exact Ev.now _
    · refine Ev.step (fun k => ?_) (by rw [lst, if_neg hc]; exact ih (by omega))
      simp only [bytealg_LastIndexByteString.l0]
      rw [if_pos (by omega), if_pos (by omega), if_pos (by omega), bt_get s n hl, if_neg (fun h => hc ((hit_iff s n hl).1 h)), hw]
theorem rsplit_ev (s : ByteArray) (hs : s.size ≤ 1000000) : Ev (fun k => arbourref14_Split.f k s) (cutP s (lst s.data.toList s.size)) := by
  have loop : ∀ n, n ≤ s.size → Ev (fun k => arbourref14_Split.l0 k s ((n : Int) - 1)) (cutP s (lst s.data.toList n)) := by
    intro n
    induction n with
    | zero =>
      intro _
      refine Ev.step (f := fun _ => some ((⟨#[]⟩ : ByteArray), s)) (fun k => ?_) (Ev.now _)
      simp only [arbourref14_Split.l0]
      rw [if_neg (by omega)]
    | succ n ih =>
      intro hn
      have hl : n < s.data.toList.length := by rw [size_data]; omega
      have e : ((n + 1 : Nat) : Int) - 1 = (n : Int) := by omega
      have hw : wrap64 ((n : Int) - 1) = (n : Int) - 1 := by unfold wrap64; omega
      rw [e]
      by_cases hc : s.data.toList[n]? = some 47
      · refine Ev.step (f := fun _ => some (s.extract 0 n, s.extract (n + 1) s.size)) (fun k => ?_) ?_
        · simp only [arbourref14_Split.l0]
          rw [if_pos (by omega), if_pos (by omega), if_pos (by omega), bt_get s n hl, if_pos ((hit_iff s n hl).2 hc), if_pos (by omega), wrap_next n (by omega), if_pos (by omega), if_pos (by omega), Int.toNat_natCast, Int.toNat_natCast]
        · rw [lst, if_pos hc]; exact Ev.now _
      · refine Ev.step (fun k => ?_) (by rw [lst, if_neg hc]; exact ih (by omega))
        simp only [arbourref14_Split.l0]
        rw [if_pos (by omega), if_pos (by omega), if_pos (by omega), bt_get s n hl, if_neg (fun h => hc ((hit_iff s n hl).1 h)), hw]
  have hw : wrap64 ((s.size : Int) - 1) = (s.size : Int) - 1 := by unfold wrap64; omega
  have := loop s.size (Nat.le_refl _)
  refine Ev.congr (fun k => ?_) this
  simp only [arbourref14_Split.f, hw]
theorem psplit_ev (s : ByteArray) (hs : s.size ≤ 1000000) : Ev (fun k => name_Split.f k s) (cutP s (lst s.data.toList s.size)) := by
  have hw : wrap64 ((s.size : Int) - 1) = (s.size : Int) - 1 := by unfold wrap64; omega
  have h := lastb_ev s hs s.size (Nat.le_refl _)
  unfold name_Split.f strings_LastIndexByte.f bytealg_LastIndexByteString.f
  simp only [hw]
  refine Ev.bind (Ev.bind h (Ev.now _)) ?_
  have hlt := lst_lt s.data.toList s.size
  cases hq : lst s.data.toList s.size with
  | some j =>
    have hj := hlt j hq
    have hm : mx (j : Int) 0 = (j : Int) := by unfold mx; omega
    simp only [hm]
    rw [if_pos (by omega), if_pos (by omega), wrap_next j (by omega), if_pos (by omega), if_pos (by omega), Int.toNat_natCast, Int.toNat_natCast]
    exact Ev.now _
  | none =>
    have hm : mx (-1) 0 = 0 := by decide
    have hw1 : wrap64 (-1 + 1) = 0 := by unfold wrap64; omega
    simp only [hm, hw1]
    rw [if_pos (by omega), if_pos (by omega), if_pos (by omega), if_pos (by omega)]
    have e0 : s.extract 0 (0 : Int).toNat = ⟨#[]⟩ := bytes_inj (by simp)
    have e1 : s.extract (0 : Int).toNat s.size = s := bytes_inj (by simp)
    rw [e0, e1]
    exact Ev.now _

/-! ### paths -/
theorem ext_one (a : ByteArray) (i : Nat) (h : i < a.data.toList.length) : (a.extract i (i + 1)).data.toList = [a.data.toList[i]] := by
  rw [ByteArray.data_extract, Array.toList_extract]
  simp only [List.extract, List.drop_eq_getElem_cons h]
  simp
theorem ext_size (a : ByteArray) (i : Nat) (h : i < a.size) : (a.extract i (i + 1)).size = 1 := by
  rw [ByteArray.size_extract]; omega
theorem parts_run (a : ByteArray) (ha : a.size ≤ 250) : ∀ (d i : Nat) (init : List ByteArray) (last : ByteArray), i + d = a.size → init.length ≤ i → last.size ≤ i →
    ∃ r, Ev (fun k => arbourref14_Parts.l0 k a (init ++ [last]) (i : Int)) r ∧ r.map (·.data.toList) = init.map (·.data.toList) ++ aheadP last.data.toList (pcs (a.data.toList.drop i)) := by
  intro d
  induction d with
  | zero =>
    intro i init last hi hin hla
    obtain rfl : i = a.size := by omega
    refine ⟨init ++ [last], Ev.step (f := fun _ => some (init ++ [last])) (fun k => ?_) (Ev.now _), ?_⟩
    · simp only [arbourref14_Parts.l0]; rw [if_neg (by omega)]
    · rw [List.drop_of_length_le (by simp)]
      simp [pcs, aheadP]
  | succ d ih =>
    intro i init last hi hin hla
    have h : i < a.size := by omega
    have hil : i < a.data.toList.length := by simpa using h
    have hd : a.data.toList.drop i = a.data.toList[i] :: a.data.toList.drop (i + 1) := List.drop_eq_getElem_cons hil
    have hw := wrap_next i (by omega)
    have hlen : (init ++ [last]).length = init.length + 1 := by simp
    rw [hd, aheadP_cons]
    by_cases hc : a.data.toList[i] = 47
    · obtain ⟨r, h1, h2⟩ := ih (i + 1) (init ++ [last]) ⟨#[]⟩ (by omega) (by omega) (by show 0 ≤ _; omega)
      refine ⟨r, Ev.step (fun k => ?_) h1, ?_⟩
      · simp only [arbourref14_Parts.l0]
        rw [if_pos (by omega), if_pos (by omega), bt_get a i hil, hw, if_pos (by rw [hc]; rfl), if_pos (by omega)]
      · have e0 : (⟨#[]⟩ : ByteArray).data.toList = [] := rfl
        rw [h2, e0, aheadP_nil, if_pos hc]
        simp
    · have hc2 : ¬ ((a.data.toList[i]).toNat : Int) = 47 := fun h => hc (UInt8.toNat_inj.1 (show _ = 47 by omega))
      have hj : wrap64 (((init ++ [last]).length : Int) - 1) = (init.length : Int) := by rw [hlen]; unfold wrap64; omega
      have hrd : rdOf ByteArray.empty (init ++ [last]) (init.length : Int) = last := by simp [rdOf]
      have hset : ∀ x : ByteArray, (init ++ [last]).set init.length x = init ++ [x] := fun x => by simp
      have hes := ext_size a i h
      obtain ⟨r, h1, h2⟩ := ih (i + 1) init (last ++ a.extract i (i + 1)) (by omega) (by omega) (by rw [ByteArray.size_append, hes]; omega)
      refine ⟨r, Ev.step (fun k => ?_) h1, ?_⟩
      · simp only [arbourref14_Parts.l0]
        rw [if_pos (by omega), if_pos (by omega), bt_get a i hil, hw, if_neg hc2, hj, hrd, if_pos (by omega), if_pos (by omega), if_pos (by omega), if_pos (by omega), Int.toNat_natCast, Int.toNat_natCast, hes, if_pos (by omega)]
        simp only [Int.toNat_natCast]
        rw [hset]
      · rw [h2, if_neg hc, ByteArray.data_append, Array.toList_append, ext_one a i hil]
theorem parts_ev (a : ByteArray) (ha : a.size ≤ 250) : ∃ r, Ev (fun k => arbourref14_Parts.f k a) r ∧ r.map (·.data.toList) = pcs a.data.toList := by
  obtain ⟨r, h1, h2⟩ := parts_run a ha a.size 0 [] ⟨#[]⟩ (by omega) (by simp) (by show 0 ≤ _; omega)
  refine ⟨r, h1, ?_⟩
  have e0 : (⟨#[]⟩ : ByteArray).data.toList = [] := rfl
  rw [h2, e0, aheadP_nil]
  simp
theorem pcs_len : ∀ s : List UInt8, (pcs s).length ≤ s.length + 1
  | [] => by simp [pcs]
  | c :: s => by
    have := pcs_len s
    unfold pcs
    split
    · simp; omega
    · split <;> rename_i h <;> rw [h] at this <;> simp at this ⊢
      omega
theorem pcs_sizes : ∀ (s : List UInt8) (p : List UInt8), p ∈ pcs s → p.length ≤ s.length
  | [], p, h => by simp [pcs] at h; simp [h]
  | c :: s, p, h => by
    unfold pcs at h
    split at h
    · rcases List.mem_cons.1 h with rfl | h
      · simp
      · have := pcs_sizes s p h; simp; omega
    · cases hp : pcs s with
      | nil => exact absurd hp (pcs_ne s)
      | cons q qs =>
        rw [hp] at h
        rcases List.mem_cons.1 h with rfl | h
        · have := pcs_sizes s q (by rw [hp]; exact List.mem_cons_self ..); simp; omega
        · have := pcs_sizes s p (by rw [hp]; exact List.mem_cons_of_mem _ h); simp; omega
theorem all_ev (l : List ByteArray) (hl : l.length ≤ 1000000) (hs : ∀ x ∈ l, x.size ≤ 1000000) : Ev (fun k => name_Path.l0 k l (l.length : Int) 0) (l.all legalB) ∧ Ev (fun k => arbourref14_Path.l0 k l 0) (l.all legalB) := by
  have loop : ∀ (d i : Nat), i + d = l.length → Ev (fun k => name_Path.l0 k l (l.length : Int) (i : Int)) ((l.drop i).all legalB) ∧ Ev (fun k => arbourref14_Path.l0 k l (i : Int)) ((l.drop i).all legalB) := by
    intro d
    induction d with
    | zero =>
      intro i hi
      obtain rfl : i = l.length := by omega
      rw [List.drop_of_length_le (by omega)]
      refine ⟨Ev.step (f := fun _ => some true) (fun k => ?_) (Ev.now _), Ev.step (f := fun _ => some true) (fun k => ?_) (Ev.now _)⟩
      · simp only [name_Path.l0]; rw [if_neg (by omega)]
      · simp only [arbourref14_Path.l0]; rw [if_neg (by omega)]
    | succ d ih =>
      intro i hi
      have hil : i < l.length := by omega
      obtain ⟨h1, h2⟩ := ih (i + 1) (by omega)
      have hz := hs l[i] (List.getElem_mem hil)
      rw [List.drop_eq_getElem_cons hil, List.all_cons]
      constructor
      · refine Ev.step (f := fun k => (name_Legal.f k l[i]).bind fun t => if t = true then name_Path.l0 k l (l.length : Int) ((i + 1 : Nat) : Int) else some false) (fun k => ?_) (Ev.bind (plegal_ev _ hz) ?_)
        · simp only [name_Path.l0]
          rw [if_pos (by omega), if_pos (by omega), if_pos (by omega), rdOf_get l i hil, wrap_next i (by omega)]
        · cases legalB l[i] with
          | true => simpa using h1
          | false => simpa using Ev.now false
      · refine Ev.step (f := fun k => (arbourref14_Legal.f k l[i]).bind fun t => if t = true then arbourref14_Path.l0 k l ((i + 1 : Nat) : Int) else some false) (fun k => ?_) (Ev.bind (rlegal_ev _ hz) ?_)
        · simp only [arbourref14_Path.l0]
          rw [if_pos (by omega), if_pos (by omega), rdOf_get l i hil, wrap_next i (by omega)]
        · cases legalB l[i] with
          | true => simpa using h2
          | false => simpa using Ev.now false
  have := loop l.length 0 (by omega)
  rwa [List.drop_zero] at this
theorem paths_ev (s : ByteArray) (hs : s.size ≤ 1000000) : ∃ b, Ev (fun k => name_Path.f k s) b ∧ Ev (fun k => arbourref14_Path.f k s) b := by
  by_cases h : s.size ≤ 238
  · obtain ⟨r, h1, h2⟩ := parts_ev s (by omega)
    have h3 := splitB_pcs s
    rw [← h2] at h3
    obtain ⟨l, hl⟩ : ∃ l, l = Lib.splitB ⟨#[47]⟩ 0 (Lib.countB s ⟨#[47]⟩) s := ⟨_, rfl⟩
    rw [← hl] at h3
    have back : ∀ x : List ByteArray, (x.map (·.data.toList)).map (fun c => (⟨c.toArray⟩ : ByteArray)) = x := fun x => by
      rw [List.map_map]
      conv => rhs; rw [← List.map_id x]
      exact List.map_congr_left fun c _ => by cases c; simp
    have e : l = r := by rw [← back l, h3, back r]
    have hlen : l.length ≤ 1000 := by
      have q1 := congrArg List.length h2
      have q2 := pcs_len s.data.toList
      rw [List.length_map] at q1
      rw [size_data] at q2
      rw [e]; omega
    have hsz : ∀ x ∈ l, x.size ≤ 1000000 := fun x hx => by
      have q1 : x.data.toList ∈ pcs s.data.toList := by rw [← h2, ← h3]; exact List.mem_map.2 ⟨x, hx, rfl⟩
      have q2 := pcs_sizes _ _ q1
      rw [size_data, size_data] at q2
      omega
    obtain ⟨a1, a2⟩ := all_ev l (by omega) hsz
    refine ⟨l.all legalB, ?_, ?_⟩
    · refine Ev.congr (f := fun k => name_Path.l0 k l (l.length : Int) 0) (fun k => ?_) a1
      unfold name_Path.f strings_Split.f
      rw [if_neg (by omega), if_pos rfl, if_pos hs, ← hl, Option.bind_some]
    · refine Ev.congr (f := fun k => (arbourref14_Parts.f k s).bind fun t => arbourref14_Path.l0 k t 0) (fun k => ?_) (Ev.bind h1 (by rw [← e]; exact a2))
      unfold arbourref14_Path.f
      rw [if_neg (by omega)]
  · refine ⟨false, Ev.congr (f := fun _ => some false) (fun k => ?_) (Ev.now _), Ev.congr (f := fun _ => some false) (fun k => ?_) (Ev.now _)⟩
    · unfold name_Path.f; rw [if_pos (by omega)]
    · unfold arbourref14_Path.f; rw [if_pos (by omega)]
end Go.Proofs.YtojeadkhahmllaaDoor.XNameTexts
