/- Plain facts on the printed functions of layer 14 that the statement used reaches. -/
import Derived.Test.YtobkpglenpoacaaDoorXusedx
namespace Go.Proofs.YtobkpglenpoacaaDoor.Xused
set_option linter.unusedVariables false
set_option linter.unusedSimpArgs false
open Go.RowKit Go.Proofs.YtobkpglenpoacaaDoorW.PrintWords Go.Proofs.YtobkpglenpoacaaDoorW.PrintLast Go.Proofs.YtobkpglenpoacaaDoorW.PrintMore Go.Proofs.YtobkpglenpoacaaDoorB

theorem toList_data (s : ByteArray) : s.toList = s.data.toList := ByteArray.toList_eq s
theorem toList_same (a b : ByteArray) : a.toList = b.toList ↔ a = b := by
  constructor
  · intro h; rw [toList_data, toList_data] at h; exact bytes_inj h
  · rintro rfl; rfl
theorem size_data (s : ByteArray) : s.data.toList.length = s.size := by simp
theorem bt_get (s : ByteArray) (i : Nat) (h : i < s.data.toList.length) : bt s (i : Int) = ((s.data.toList[i]).toNat : Int) := by
  have h2 : i < s.size := by rw [← size_data]; exact h
  have := bt_at s (i : Int) (by simpa using h2)
  rw [← this]
  simp [ByteArray.getElem_eq_getElem_data]
theorem rdOf_get (l : List ByteArray) (i : Nat) (h : i < l.length) : rdOf ByteArray.empty l (i : Int) = l[i] := by simp [rdOf, List.getD, h]
theorem wrap_next (i : Nat) (h : i ≤ 1000000000) : wrap64 ((i : Int) + 1) = ((i + 1 : Nat) : Int) := by unfold wrap64; omega

/-! ### Fold, as the document has it -/
theorem rfold_ev (s : ByteArray) (hs : s.size ≤ 1000000) : Ev (fun k => arbourref14_Fold.f k s) (foldB s) := by
  have e0 : foldB s = strOfNums ((s.data.toList.map small).map fun x => (x.toNat : Int)) := by
    unfold foldB strOfNums
    simp only [List.map_map, Function.comp_def]
    congr 2
    apply List.map_congr_left
    intro x _
    simp
  have loop : ∀ (d i : Nat), i + d = s.size → Ev (fun k => arbourref14_Fold.l0 k s (((s.data.toList.map small).map fun x => (x.toNat : Int)).take i) (i : Int)) (foldB s) := by
    intro d
    induction d with
    | zero =>
      intro i hi
      refine Ev.step (f := fun _ => some (foldB s)) (fun k => ?_) (Ev.now _)
      simp only [arbourref14_Fold.l0]
      rw [if_neg (by omega), e0, List.take_of_length_le (by simp; omega)]
    | succ d ih =>
      intro i hi
      have hil : i < s.data.toList.length := by rw [size_data]; omega
      refine Ev.step (fun k => ?_) (ih (i + 1) (by omega))
      simp only [arbourref14_Fold.l0]
      have hlen : (((s.data.toList.map small).map fun x => (x.toNat : Int)).take i).length = i := by simp; omega
      have hnx : ((s.data.toList.map small).map fun x => (x.toNat : Int)).take (i + 1) = ((s.data.toList.map small).map fun x => (x.toNat : Int)).take i ++ [((small s.data.toList[i]).toNat : Int)] := by
        rw [List.take_succ_eq_append_getElem (by simpa using hil)]; simp
      rw [if_pos (by omega), if_pos (by omega), bt_get s i hil, hnx, wrap_next i (by omega)]
      generalize s.data.toList[i] = x
      by_cases h1 : 65 ≤ x.toNat
      · rw [if_pos (by omega)]
        by_cases h2 : x.toNat ≤ 90
        · rw [if_pos (by omega), if_pos (by rw [hlen]; omega)]
          have : ((small x).toNat : Int) = (x.toNat + 32) % 256 := by
            have e : small x = x + 32 := if_pos ⟨h1, h2⟩
            rw [e, UInt8.toNat_add]; simp
          rw [this]
        · rw [if_neg (by omega), if_pos (by rw [hlen]; omega), show small x = x from if_neg (by omega)]
      · rw [if_neg (by omega), if_pos (by rw [hlen]; omega), show small x = x from if_neg (by omega)]
  exact loop s.size 0 (by omega)

/-! ### Which bytes may stand in a name, as the document has it -/
theorem rfine_ev (x : UInt8) : Ev (fun k => arbourref14_fine.f k (x.toNat : Int)) (fineB x) := by
  have key : ∀ n : Fin 256, arbourref14_fine.f 12 (n.val : Int) = some (fineB (UInt8.ofNat n.val)) := by decide +kernel
  have h := key ⟨x.toNat, UInt8.toNat_lt x⟩
  exact Ev.of (k := 12) (fun k => arbourref14_fine.mono _ k) (by simpa using h)
/-- May a text be a name? -/
def legalB (s : ByteArray) : Bool := decide (1 ≤ s.size) && decide (s.size ≤ 32) && (s.data.toList.getLast? != some 46) && s.data.toList.all fineB
theorem rlegal_ev (s : ByteArray) (hs : s.size ≤ 1000000) : Ev (fun k => arbourref14_Legal.f k s) (legalB s) := by
  have loop : ∀ (d i : Nat), i + d = s.size → Ev (fun k => arbourref14_Legal.l0 k s (i : Int)) ((s.data.toList.drop i).all fineB) := by
    intro d
    induction d with
    | zero =>
      intro i hi
      refine Ev.step (f := fun _ => some true) (fun k => ?_) ?_
      · simp only [arbourref14_Legal.l0]; rw [if_neg (by omega)]
      · rw [List.drop_of_length_le (by rw [size_data]; omega)]; exact Ev.now _
    | succ d ih =>
      intro i hi
      have hil : i < s.data.toList.length := by rw [size_data]; omega
      rw [List.drop_eq_getElem_cons hil, List.all_cons]
      refine Ev.step (f := fun k => (arbourref14_fine.f k ((s.data.toList[i]).toNat : Int)).bind fun t => if t = true then arbourref14_Legal.l0 k s ((i + 1 : Nat) : Int) else some false) (fun k => ?_) ?_
      · simp only [arbourref14_Legal.l0]
        rw [if_pos (by omega), if_pos (by omega), bt_get s i hil, wrap_next i (by omega)]
      · refine Ev.bind (rfine_ev _) ?_
        cases fineB s.data.toList[i] with
        | true => simpa using ih (i + 1) (by omega)
        | false => simpa using Ev.now false
  have tail : ∀ b : Bool, Ev (fun k => arbourref14_Legal.j0 k s b) (!b && s.data.toList.all fineB) := by
    intro b
    cases b with
    | true => exact Ev.step (f := fun _ => some false) (fun k => by simp [arbourref14_Legal.j0]) (Ev.now _)
    | false => exact Ev.step (f := fun k => arbourref14_Legal.l0 k s 0) (fun k => by simp [arbourref14_Legal.j0]) (by simpa using loop s.size 0 (by omega))
  unfold legalB
  by_cases h0 : s.size = 0
  · have e : s.toList = [] := by rw [toList_data]; exact List.eq_nil_of_length_eq_zero (by rw [size_data]; exact h0)
    refine Ev.congr (f := fun k => arbourref14_Legal.j0 k s true) (fun k => ?_) ?_
    · simp only [arbourref14_Legal.f]; rw [if_pos e]
    · have := tail true
      simpa [h0] using this
  · have e : s.toList ≠ [] := fun e => h0 (by rw [← size_data, ← toList_data, e]; rfl)
    by_cases h32 : s.size ≤ 32
    · have hl : s.size - 1 < s.data.toList.length := by rw [size_data]; omega
      refine Ev.congr (f := fun k => arbourref14_Legal.j0 k s (((s.data.toList[s.size - 1]).toNat : Int) == 46)) (fun k => ?_) ?_
      · simp only [arbourref14_Legal.f]
        have hw : wrap64 ((s.size : Int) - 1) = ((s.size - 1 : Nat) : Int) := by unfold wrap64; omega
        rw [if_neg e, if_neg (by omega), hw, if_pos (by omega), if_pos (by omega), bt_get s _ hl]
      · have hg : s.data.toList.getLast? = some s.data.toList[s.size - 1] := by
          rw [List.getLast?_eq_getElem?, size_data, List.getElem?_eq_getElem hl]
        have e2 : (s.data.toList.getLast? != some 46) = !(((s.data.toList[s.size - 1]).toNat : Int) == 46) := by
          rw [hg]
          generalize s.data.toList[s.size - 1] = y
          by_cases hy : y = 46
          · subst hy; rfl
          · have : ¬ ((y.toNat : Int) = 46) := fun h => hy (UInt8.toNat_inj.1 (by show y.toNat = 46; omega))
            rw [show ((some y : Option UInt8) != some 46) = true from bne_iff_ne.2 (fun h => hy (Option.some.inj h)), show ((y.toNat : Int) == 46) = false from beq_eq_false_iff_ne.2 this]
            rfl
        rw [e2, decide_eq_true (by omega), decide_eq_true h32, Bool.true_and, Bool.true_and]
        exact tail (((s.data.toList[s.size - 1]).toNat : Int) == 46)
    · refine Ev.congr (f := fun k => arbourref14_Legal.j0 k s true) (fun k => ?_) ?_
      · simp only [arbourref14_Legal.f]; rw [if_neg e, if_pos (by omega)]
      · have := tail true
        simpa [h32] using this

/-! ### digits, as the document has them -/
theorem strOf_one (n : Nat) (h : n < 10) : strOfNums [wrap64 (48 + (n : Int)) % 256] = ⟨#[UInt8.ofNat (48 + n)]⟩ := by
  have : wrap64 (48 + (n : Int)) % 256 = ((48 + n : Nat) : Int) := by unfold wrap64; omega
  rw [this]; rfl
theorem rdigits_ev (n : Nat) (h : n ≤ 1000000) : Ev (fun k => arbourref14_digits.f k (n : Int)) ⟨(Lib.decDigits n).toArray⟩ := by
  induction n using Nat.strongRecOn with
  | _ n ih =>
    unfold Lib.decDigits
    by_cases h1 : n < 10
    · rw [dif_pos h1]
      refine Ev.step (f := fun _ => some (⟨#[UInt8.ofNat (48 + n)]⟩ : ByteArray)) (fun k => ?_) (Ev.now _)
      simp only [arbourref14_digits.f]
      rw [if_pos (by omega), strOf_one n h1]
    · rw [dif_neg h1]
      have hd : wrap64 (Int.tdiv (n : Int) 10) = ((n / 10 : Nat) : Int) := by
        rw [Int.tdiv_eq_ediv_of_nonneg (by omega)]; unfold wrap64; omega
      have hm : Int.tmod (n : Int) 10 = ((n % 10 : Nat) : Int) := by
        rw [Int.tmod_eq_emod_of_nonneg (by omega)]; omega
      have h2 := ih (n / 10) (by omega) (by omega)
      have hl := digits_len 6 (n / 10) (by omega)
      refine Ev.step (f := fun k => (arbourref14_digits.f k ((n / 10 : Nat) : Int)).bind fun t => if t.size + (⟨#[UInt8.ofNat (48 + n % 10)]⟩ : ByteArray).size ≤ 9223372036854775807 then some (t ++ ⟨#[UInt8.ofNat (48 + n % 10)]⟩) else none) (fun k => ?_) ?_
      · simp only [arbourref14_digits.f]
        rw [if_neg (by omega), hd]
        simp only [Option.bind_some, hm, strOf_one (n % 10) (by omega)]
      · refine Ev.bind h2 ?_
        have hs : (⟨(Lib.decDigits (n / 10)).toArray⟩ : ByteArray).size + (⟨#[UInt8.ofNat (48 + n % 10)]⟩ : ByteArray).size ≤ 9223372036854775807 := by
          show ((Lib.decDigits (n / 10)).toArray).size + 1 ≤ _
          rw [List.size_toArray]; omega
        rw [if_pos hs]
        have e : (⟨(Lib.decDigits (n / 10)).toArray⟩ : ByteArray) ++ ⟨#[UInt8.ofNat (48 + n % 10)]⟩ = ⟨(Lib.decDigits (n / 10) ++ [UInt8.ofNat (48 + n % 10)]).toArray⟩ := bytes_inj (by simp)
        rw [e]
        exact Ev.now _

/-! ### used, as the document has it -/
theorem rused_ev (out : List ByteArray) (s : ByteArray) (ho : ∀ x ∈ out, x.size ≤ 1000000) (hs : s.size ≤ 1000000) (hl : out.length ≤ 1000000) : Ev (fun k => arbourref14_used.f k out s) (isUsed out s) := by
  have loop : ∀ (d i : Nat), i + d = out.length → Ev (fun k => arbourref14_used.l0 k out s (i : Int)) ((out.drop i).any fun y => (foldB y).data.toList == (foldB s).data.toList) := by
    intro d
    induction d with
    | zero =>
      intro i hi
      refine Ev.step (f := fun _ => some false) (fun k => ?_) ?_
      · simp only [arbourref14_used.l0]; rw [if_neg (by omega)]
      · rw [List.drop_of_length_le (by omega)]; exact Ev.now _
    | succ d ih =>
      intro i hi
      have hil : i < out.length := by omega
      rw [List.drop_eq_getElem_cons hil, List.any_cons]
      refine Ev.step (f := fun k => (arbourref14_Fold.f k out[i]).bind fun t114 => (arbourref14_Fold.f k s).bind fun t115 => if t114.toList = t115.toList then some true else arbourref14_used.l0 k out s ((i + 1 : Nat) : Int)) (fun k => ?_) ?_
      · simp only [arbourref14_used.l0]
        rw [if_pos (by omega), if_pos (by omega), rdOf_get out i hil, wrap_next i (by omega)]
      · refine Ev.bind (rfold_ev _ (ho _ (List.getElem_mem hil))) (Ev.bind (rfold_ev _ hs) ?_)
        by_cases h : (foldB out[i]).toList = (foldB s).toList
        · refine Ev.congr (f := fun _ => some true) (fun k => if_pos h) ?_
          rw [toList_data, toList_data] at h
          rw [show ((foldB out[i]).data.toList == (foldB s).data.toList) = true from beq_iff_eq.2 h]
          exact Ev.now _
        · refine Ev.congr (f := fun k => arbourref14_used.l0 k out s ((i + 1 : Nat) : Int)) (fun k => if_neg h) ?_
          rw [toList_data, toList_data] at h
          rw [show ((foldB out[i]).data.toList == (foldB s).data.toList) = false from beq_eq_false_iff_ne.2 h, Bool.false_or]
          exact ih (i + 1) (by omega)
  have e : isUsed out s = out.any fun y => (foldB y).data.toList == (foldB s).data.toList := by
    unfold isUsed
    rw [Bool.eq_iff_iff, List.contains_iff_mem, List.mem_map, List.any_eq_true]
    constructor
    · rintro ⟨y, hy, h⟩; exact ⟨y, hy, beq_iff_eq.2 h⟩
    · rintro ⟨y, hy, h⟩; exact ⟨y, hy, beq_iff_eq.1 h⟩
  rw [e]
  exact loop out.length 0 (by omega)

/-! ### Fix, as the document has it -/
theorem undot_get (l : List UInt8) (i : Nat) (h : i < l.length) : (undot l)[i]? = some (if i + 1 = l.length ∧ l[i] = 46 then 95 else l[i]) := by
  obtain ⟨n, hn⟩ : ∃ n, l.length = n + 1 := ⟨l.length - 1, by omega⟩
  by_cases h46 : l[n]'(by omega) = 46
  · rw [undot_dot hn h46, List.getElem?_set]
    by_cases e : n = i
    · subst e
      rw [if_pos rfl, if_pos (by omega), if_pos ⟨by omega, h46⟩]
    · rw [if_neg e, if_neg (by omega), List.getElem?_eq_getElem h]
  · rw [undot_none hn h46, List.getElem?_eq_getElem h, if_neg]
    rintro ⟨e, h2⟩
    have : i = n := by omega
    subst this
    exact h46 h2
theorem undot_length (l : List UInt8) : (undot l).length = l.length := by unfold undot; split <;> simp
theorem rfix_ev (s : ByteArray) (hs : s.size ≤ 1000000) : Ev (fun k => arbourref14_Fix.f k s) (fixB s) := by
  have body : ∀ (t : ByteArray) (L : List UInt8), t.data.toList = L → L.length ≤ 32 → Ev (fun k => arbourref14_Fix.j0 k t) ⟨(undot (L.map mend)).toArray⟩ := by
    intro t L hL h32
    have htl : t.size = L.length := by rw [← size_data, hL]
    obtain ⟨G, hG⟩ : ∃ G, G = undot (L.map mend) := ⟨_, rfl⟩
    have hGl : G.length = L.length := by rw [hG, undot_length, List.length_map]
    have eG : strOfNums (G.map fun x => (x.toNat : Int)) = ⟨G.toArray⟩ := by
      unfold strOfNums
      simp only [List.map_map, Function.comp_def]
      congr 2
      rw [List.map_congr_left (g := id) (fun x _ => by simp)]; simp
    have loop : ∀ (d i : Nat), i + d = L.length → Ev (fun k => arbourref14_Fix.l0 k t ((G.map fun x => (x.toNat : Int)).take i) (i : Int)) ⟨G.toArray⟩ := by
      intro d
      induction d with
      | zero =>
        intro i hi
        refine Ev.step (f := fun _ => some (⟨G.toArray⟩ : ByteArray)) (fun k => ?_) (Ev.now _)
        simp only [arbourref14_Fix.l0]
        rw [if_neg (by omega), List.take_of_length_le (by simp; omega), eG]
      | succ d ih =>
        intro i hi
        have hil : i < L.length := by omega
        have hlen : ((G.map fun x => (x.toNat : Int)).take i).length = i := by simp; omega
        have hgi := undot_get (L.map mend) i (by simpa using hil)
        rw [← hG, List.getElem?_eq_getElem (by omega)] at hgi
        simp only [List.getElem_map, List.length_map] at hgi
        have hgi2 := Option.some.inj hgi
        have hnx : (G.map fun x => (x.toNat : Int)).take (i + 1) = (G.map fun x => (x.toNat : Int)).take i ++ [((if i + 1 = L.length ∧ mend L[i] = 46 then (95 : UInt8) else mend L[i]).toNat : Int)] := by
          rw [List.take_succ_eq_append_getElem (by simp; omega), List.getElem_map, hgi2]
        have hbt : bt t (i : Int) = ((L[i]).toNat : Int) := by
          rw [bt_get t i (by rw [hL]; exact hil)]; simp only [hL]
        have hw : wrap64 ((t.size : Int) - 1) = ((L.length : Int) - 1) := by unfold wrap64; omega
        have hst := ih (i + 1) (by omega)
        rw [hnx] at hst
        refine Ev.step (f := fun k => (arbourref14_fine.f k ((L[i]).toNat : Int)).bind fun t119 => if t119 = true then (if (i : Int) = (L.length : Int) - 1 then (if ((L[i]).toNat : Int) = 46 then arbourref14_Fix.l0 k t ((G.map fun x => (x.toNat : Int)).take i ++ [95]) ((i + 1 : Nat) : Int) else arbourref14_Fix.l0 k t ((G.map fun x => (x.toNat : Int)).take i ++ [((L[i]).toNat : Int)]) ((i + 1 : Nat) : Int)) else arbourref14_Fix.l0 k t ((G.map fun x => (x.toNat : Int)).take i ++ [((L[i]).toNat : Int)]) ((i + 1 : Nat) : Int)) else arbourref14_Fix.l0 k t ((G.map fun x => (x.toNat : Int)).take i ++ [95]) ((i + 1 : Nat) : Int)) (fun k => ?_) ?_
        · simp only [arbourref14_Fix.l0]
          rw [if_pos (by omega), if_pos (by omega), hbt, hw, wrap_next i (by omega)]
          have hlt : ((G.map fun x => (x.toNat : Int)).take i).length < 140737488355328 := by omega
          simp only [if_pos hlt]
        · refine Ev.bind (rfine_ev _) ?_
          generalize L[i] = x at hst
          cases hf : fineB x with
          | true =>
            rw [mend_fine hf] at hst
            by_cases h1 : (i : Int) = (L.length : Int) - 1
            · by_cases h2 : (x.toNat : Int) = 46
              · have hx : x = 46 := UInt8.toNat_inj.1 (by show x.toNat = 46; omega)
                rw [if_pos ⟨by omega, hx⟩] at hst
                exact Ev.congr (fun k => by rw [if_pos rfl, if_pos h1, if_pos h2]; rfl) hst
              · rw [if_neg (fun h => h2 (by rw [h.2]; rfl))] at hst
                exact Ev.congr (fun k => by rw [if_pos rfl, if_pos h1, if_neg h2]) hst
            · rw [if_neg (fun h => h1 (by omega))] at hst
              exact Ev.congr (fun k => by rw [if_pos rfl, if_neg h1]) hst
          | false =>
            rw [mend_not hf] at hst
            rw [if_neg (fun h => absurd h.2 (by decide))] at hst
            exact Ev.congr (fun k => by rw [if_neg (by simp)]; rfl) hst
    have h0 := loop L.length 0 (by omega)
    rw [hG] at h0
    exact Ev.step (f := fun k => arbourref14_Fix.l0 k t [] 0) (fun k => rfl) (by simpa [← hG] using h0)
  by_cases h0 : s.size = 0
  · have e : s.toList = [] := by rw [toList_data]; exact List.eq_nil_of_length_eq_zero (by rw [size_data]; exact h0)
    refine Ev.congr (f := fun _ => some (⟨#[95]⟩ : ByteArray)) (fun k => ?_) ?_
    · simp only [arbourref14_Fix.f]; rw [if_pos e]
    · rw [fix_empty h0]; exact Ev.now _
  · have e : s.toList ≠ [] := fun e => h0 (by rw [← size_data, ← toList_data, e]; rfl)
    rw [fix_some (by omega)]
    by_cases h32 : s.size ≤ 32
    · refine Ev.congr (f := fun k => arbourref14_Fix.j0 k s) (fun k => ?_) (body s (s.data.toList.take 32) (by rw [List.take_of_length_le (by rw [size_data]; exact h32)]) (by rw [List.length_take]; omega))
      simp only [arbourref14_Fix.f]; rw [if_neg e, if_neg (by omega)]
    · refine Ev.congr (f := fun k => arbourref14_Fix.j0 k (s.extract 0 32)) (fun k => ?_) (body (s.extract 0 32) (s.data.toList.take 32) (by rw [ByteArray.data_extract, Array.toList_extract]; rfl) (by rw [List.length_take]; omega))
      simp only [arbourref14_Fix.f]; rw [if_neg e, if_pos (by omega), if_pos (by omega), if_pos (by omega)]
end Go.Proofs.YtobkpglenpoacaaDoor.Xused
