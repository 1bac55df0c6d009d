/- Plain facts on the printed functions of layer 14 that the statement NameAssigns reaches. -/
import Derived.Test.YtobkpglenpoacaaDoorXNameAssignsx
namespace Go.Proofs.YtobkpglenpoacaaDoor.XNameAssigns
set_option linter.unusedVariables false
set_option linter.unusedSimpArgs false
open Go.RowKit Go.Proofs.YtobkpglenpoacaaDoorW.PrintWords Go.Proofs.YtobkpglenpoacaaDoorW.PrintLast Go.Proofs.YtobkpglenpoacaaDoorW.PrintMore Go.Proofs.YtobkpglenpoacaaDoorB

theorem toList_data (s : ByteArray) : s.toList = s.data.toList := ByteArray.toList_eq s
theorem toList_same (a b : ByteArray) : a.toList = b.toList ↔ a = b := by
  constructor
  · intro h; rw [toList_data, toList_data] at h; exact bytes_inj h
  · rintro rfl; rfl
theorem size_data (s : ByteArray) : s.data.toList.length = s.size := by simp
theorem bt_get (s : ByteArray) (i : Nat) (h : i < s.data.toList.length) : bt s (i : Int) = ((s.data.toList[i]).toNat : Int) := by
  have h2 : i < s.size := by rw [← size_data]; exact h
  have := bt_at s (i : Int) (by simpa using h2)
  rw [← this]
  simp [ByteArray.getElem_eq_getElem_data]
theorem rdOf_get (l : List ByteArray) (i : Nat) (h : i < l.length) : rdOf ByteArray.empty l (i : Int) = l[i] := by simp [rdOf, List.getD, h]
theorem wrap_next (i : Nat) (h : i ≤ 1000000000) : wrap64 ((i : Int) + 1) = ((i + 1 : Nat) : Int) := by unfold wrap64; omega

/-! ### Fold, as the document has it -/
theorem rfold_ev (s : ByteArray) (hs : s.size ≤ 1000000) : Ev (fun k => arbourref14_Fold.f k s) (foldB s) := by
  have e0 : foldB s = strOfNums ((s.data.toList.map small).map fun x => (x.toNat : Int)) := by
    unfold foldB strOfNums
    simp only [List.map_map, Function.comp_def]
    congr 2
    apply List.map_congr_left
    intro x _
    simp
  have loop : ∀ (d i : Nat), i + d = s.size → Ev (fun k => arbourref14_Fold.l0 k s (((s.data.toList.map small).map fun x => (x.toNat : Int)).take i) (i : Int)) (foldB s) := by
    intro d
    induction d with
    | zero =>
      intro i hi
      refine Ev.step (f := fun _ => some (foldB s)) (fun k => ?_) (Ev.now _)
      simp only [arbourref14_Fold.l0]
      rw [if_neg (by omega), e0, List.take_of_length_le (by simp; omega)]
    | succ d ih =>
      intro i hi
      have hil : i < s.data.toList.length := by rw [size_data]; omega
      refine Ev.step (fun k => ?_) (ih (i + 1) (by omega))
      simp only [arbourref14_Fold.l0]
      have hlen : (((s.data.toList.map small).map fun x => (x.toNat : Int)).take i).length = i := by simp; omega
      have hnx : ((s.data.toList.map small).map fun x => (x.toNat : Int)).take (i + 1) = ((s.data.toList.map small).map fun x => (x.toNat : Int)).take i ++ [((small s.data.toList[i]).toNat : Int)] := by
        rw [List.take_succ_eq_append_getElem (by simpa using hil)]; simp
      rw [if_pos (by omega), if_pos (by omega), bt_get s i hil, hnx, wrap_next i (by omega)]
      generalize s.data.toList[i] = x
      by_cases h1 : 65 ≤ x.toNat
      · rw [if_pos (by omega)]
        by_cases h2 : x.toNat ≤ 90
        · rw [if_pos (by omega), if_pos (by rw [hlen]; omega)]
          have : ((small x).toNat : Int) = (x.toNat + 32) % 256 := by
            have e : small x = x + 32 := if_pos ⟨h1, h2⟩
            rw [e, UInt8.toNat_add]; simp
          rw [this]
        · rw [if_neg (by omega), if_pos (by rw [hlen]; omega), show small x = x from if_neg (by omega)]
      · rw [if_neg (by omega), if_pos (by rw [hlen]; omega), show small x = x from if_neg (by omega)]
  exact loop s.size 0 (by omega)

/-! ### Which bytes may stand in a name, as the document has it -/
theorem rfine_ev (x : UInt8) : Ev (fun k => arbourref14_fine.f k (x.toNat : Int)) (fineB x) := by
  have key : ∀ n : Fin 256, arbourref14_fine.f 12 (n.val : Int) = some (fineB (UInt8.ofNat n.val)) := by decide +kernel
  have h := key ⟨x.toNat, UInt8.toNat_lt x⟩
  exact Ev.of (k := 12) (fun k => arbourref14_fine.mono _ k) (by simpa using h)
/-- May a text be a name? -/
def legalB (s : ByteArray) : Bool := decide (1 ≤ s.size) && decide (s.size ≤ 32) && (s.data.toList.getLast? != some 46) && s.data.toList.all fineB
theorem rlegal_ev (s : ByteArray) (hs : s.size ≤ 1000000) : Ev (fun k => arbourref14_Legal.f k s) (legalB s) := by
  have loop : ∀ (d i : Nat), i + d = s.size → Ev (fun k => arbourref14_Legal.l0 k s (i : Int)) ((s.data.toList.drop i).all fineB) := by
    intro d
    induction d with
    | zero =>
      intro i hi
      refine Ev.step (f := fun _ => some true) (fun k => ?_) ?_
      · simp only [arbourref14_Legal.l0]; rw [if_neg (by omega)]
      · rw [List.drop_of_length_le (by rw [size_data]; omega)]; exact Ev.now _
    | succ d ih =>
      intro i hi
      have hil : i < s.data.toList.length := by rw [size_data]; omega
      rw [List.drop_eq_getElem_cons hil, List.all_cons]
      refine Ev.step (f := fun k => (arbourref14_fine.f k ((s.data.toList[i]).toNat : Int)).bind fun t => if t = true then arbourref14_Legal.l0 k s ((i + 1 : Nat) : Int) else some false) (fun k => ?_) ?_
      · simp only [arbourref14_Legal.l0]
        rw [if_pos (by omega), if_pos (by omega), bt_get s i hil, wrap_next i (by omega)]
      · refine Ev.bind (rfine_ev _) ?_
        cases fineB s.data.toList[i] with
        | true => simpa using ih (i + 1) (by omega)
        | false => simpa using Ev.now false
  have tail : ∀ b : Bool, Ev (fun k => arbourref14_Legal.j0 k s b) (!b && s.data.toList.all fineB) := by
    intro b
    cases b with
    | true => exact Ev.step (f := fun _ => some false) (fun k => by simp [arbourref14_Legal.j0]) (Ev.now _)
    | false => exact Ev.step (f := fun k => arbourref14_Legal.l0 k s 0) (fun k => by simp [arbourref14_Legal.j0]) (by simpa using loop s.size 0 (by omega))
  unfold legalB
  by_cases h0 : s.size = 0
  · have e : s.toList = [] := by rw [toList_data]; exact List.eq_nil_of_length_eq_zero (by rw [size_data]; exact h0)
    refine Ev.congr (f := fun k => arbourref14_Legal.j0 k s true) (fun k => ?_) ?_
    · simp only [arbourref14_Legal.f]; rw [if_pos e]
    · have := tail true
      simpa [h0] using this
  · have e : s.toList ≠ [] := fun e => h0 (by rw [← size_data, ← toList_data, e]; rfl)
    by_cases h32 : s.size ≤ 32
    · have hl : s.size - 1 < s.data.toList.length := by rw [size_data]; omega
      refine Ev.congr (f := fun k => arbourref14_Legal.j0 k s (((s.data.toList[s.size - 1]).toNat : Int) == 46)) (fun k => ?_) ?_
      · simp only [arbourref14_Legal.f]
        have hw : wrap64 ((s.size : Int) - 1) = ((s.size - 1 : Nat) : Int) := by unfold wrap64; omega
        rw [if_neg e, if_neg (by omega), hw, if_pos (by omega), if_pos (by omega), bt_get s _ hl]
      · have hg : s.data.toList.getLast? = some s.data.toList[s.size - 1] := by
          rw [List.getLast?_eq_getElem?, size_data, List.getElem?_eq_getElem hl]
        have e2 : (s.data.toList.getLast? != some 46) = !(((s.data.toList[s.size - 1]).toNat : Int) == 46) := by
          rw [hg]
          generalize s.data.toList[s.size - 1] = y
          by_cases hy : y = 46
          · subst hy; rfl
          · have : ¬ ((y.toNat : Int) = 46) := fun h => hy (UInt8.toNat_inj.1 (by show y.toNat = 46; omega))
            rw [show ((some y : Option UInt8) != some 46) = true from bne_iff_ne.2 (fun h => hy (Option.some.inj h)), show ((y.toNat : Int) == 46) = false from beq_eq_false_iff_ne.2 this]
            rfl
        rw [e2, decide_eq_true (by omega), decide_eq_true h32, Bool.true_and, Bool.true_and]
        exact tail (((s.data.toList[s.size - 1]).toNat : Int) == 46)
    · refine Ev.congr (f := fun k => arbourref14_Legal.j0 k s true) (fun k => ?_) ?_
      · simp only [arbourref14_Legal.f]; rw [if_neg e, if_pos (by omega)]
      · have := tail true
        simpa [h32] using this
theorem awake_some : arbourlaw14_awake.f = some true := by decide +kernel
def fewB (s : ByteArray) : ByteArray := if s.size > 300 then s.extract 0 300 else s
theorem few_some (s : ByteArray) : arbourlaw14_few.f s = some (fewB s) := by
  unfold arbourlaw14_few.f fewB
  by_cases h : s.size > 300
  · rw [if_pos (by omega), if_pos (by omega), if_pos (by omega), if_pos h]
  · rw [if_neg (by omega), if_neg h]
theorem few_size (s : ByteArray) : (fewB s).size ≤ 300 := by
  unfold fewB
  split
  · rw [ByteArray.size_extract]; omega
  · omega
theorem legal_fix {x : ByteArray} (h : legalB x = true) : fixB x = x := by
  simp only [legalB, Bool.and_eq_true, decide_eq_true_eq] at h
  obtain ⟨⟨⟨h1, h2⟩, h3⟩, h4⟩ := h
  rw [fix_some (by omega), List.take_of_length_le (by rw [size_data]; exact h2)]
  have e : x.data.toList.map mend = x.data.toList := by
    rw [List.map_congr_left (f := mend) (g := id) (fun y hy => mend_fine (List.all_eq_true.1 h4 y hy))]; simp
  rw [e, undot, if_neg (bne_iff_ne.1 h3)]
theorem next_own {out : List ByteArray} {x : ByteArray} (hl : legalB x = true) (hf : foldB x ∉ out.map foldB) : nextB out x = x := by
  rw [nextB, legal_fix hl]
  have h := next_free out x
  have : nextJ out x = 0 := by
    rcases Nat.eq_zero_or_pos (nextJ out x) with h0 | h0
    · exact h0
    · exact absurd (by simpa [tryB] using h.2 0 h0) hf
  rw [this]; rfl
theorem assign_some (g : List S27) (h : g.length ≤ 98) (hs : ∀ x ∈ g, x.f1.size ≤ 1000000) : name_Assign.f g = some (assignB (g.map (fun x => x.f1))) := by
  unfold name_Assign.f
  rw [if_pos h, if_pos (List.all_eq_true.2 fun x hx => decide_eq_true (hs x hx))]

/-! ### What is assigned may be, and no two are the same, small -/
theorem fine_digit {x : UInt8} (h : 48 ≤ x.toNat ∧ x.toNat ≤ 57) : fineB x = true := by
  have key : ∀ n : Fin 256, 48 ≤ n.val → n.val ≤ 57 → fineB (UInt8.ofNat n.val) = true := by decide +kernel
  have := key ⟨x.toNat, UInt8.toNat_lt x⟩ h.1 h.2
  simpa using this
theorem mend_is_fine (x : UInt8) : fineB (mend x) = true := by
  cases h : fineB x with
  | true => rw [mend_fine h]; exact h
  | false => rw [mend_not h]; decide
theorem undot_all {l : List UInt8} (h : ∀ x ∈ l, fineB x = true) : ∀ x ∈ undot l, fineB x = true := by
  unfold undot
  split
  · intro x hx
    rcases List.mem_or_eq_of_mem_set hx with h1 | h1
    · exact h x h1
    · subst h1; decide
  · exact h
theorem undot_last (l : List UInt8) : (undot l).getLast? ≠ some 46 := by
  unfold undot
  split
  · rename_i h
    have hl : l ≠ [] := by rintro rfl; simp at h
    have hp : 0 < l.length := List.length_pos_iff.2 hl
    rw [List.getLast?_eq_getElem?, List.length_set, List.getElem?_set, if_pos rfl, if_pos (by omega)]
    decide
  · assumption
theorem legal_of {l : List UInt8} (h1 : 1 ≤ l.length) (h2 : l.length ≤ 32) (h3 : l.getLast? ≠ some 46) (h4 : ∀ x ∈ l, fineB x = true) : legalB ⟨l.toArray⟩ = true := by
  have hs : (⟨l.toArray⟩ : ByteArray).size = l.length := by show l.toArray.size = _; simp
  unfold legalB
  rw [hs, decide_eq_true h1, decide_eq_true h2]
  simp only [Bool.true_and, Bool.and_eq_true]
  exact ⟨bne_iff_ne.2 h3, List.all_eq_true.2 h4⟩
theorem fix_all (s : ByteArray) : ∀ x ∈ (fixB s).data.toList, fineB x = true := by
  show ∀ x ∈ fixL s.data.toList, fineB x = true
  unfold fixL
  split
  · decide
  · refine undot_all fun x hx => ?_
    obtain ⟨y, _, rfl⟩ := List.mem_map.1 hx
    exact mend_is_fine y
theorem legal_fixed (s : ByteArray) : legalB (fixB s) = true := by
  refine legal_of (l := fixL s.data.toList) ?_ ?_ ?_ (fix_all s)
  · unfold fixL
    split
    · decide
    · rename_i h
      have : s.data.toList ≠ [] := fun e => h (by rw [e]; rfl)
      have hp := List.length_pos_iff.2 this
      rw [show (undot ((s.data.toList.take 32).map mend)).length = ((s.data.toList.take 32).map mend).length from by unfold undot; split <;> simp, List.length_map, List.length_take]
      omega
  · have h := fix_size s
    have e : (fixB s).size = (fixL s.data.toList).length := by show (fixL s.data.toList).toArray.size = _; simp
    rw [← e]; exact h
  · unfold fixL
    split
    · decide
    · exact undot_last _
theorem legal_other (s : ByteArray) (n : Nat) (hn : n < 1000000) (h : ∀ x ∈ s.data.toList, fineB x = true) : legalB (otherB s n) = true := by
  have hd := digits_len 5 n (by omega)
  refine legal_of (l := otherL s.data.toList n) ?_ ?_ ?_ ?_
  · unfold otherL; simp only [List.length_append, List.length_cons]; omega
  · unfold otherL; simp only [List.length_append, List.length_cons, List.length_take]; omega
  · unfold otherL
    have hne : Lib.decDigits n ≠ [] := by unfold Lib.decDigits; split <;> simp
    rw [List.getLast?_append, List.getLast?_cons]
    obtain ⟨d, hdl⟩ : ∃ d, (Lib.decDigits n).getLast? = some d := by
      cases hg : (Lib.decDigits n).getLast? with
      | none => exact absurd (List.getLast?_eq_none_iff.1 hg) hne
      | some d => exact ⟨d, rfl⟩
    have hm := digits_are n d (List.mem_of_getLast? hdl)
    rw [hdl]
    simp only [Option.getD_some, Option.some_or, ne_eq, Option.some.injEq]
    rintro rfl
    simp at hm
  · unfold otherL
    intro x hx
    rcases List.mem_append.1 hx with h1 | h1
    · exact h x (List.mem_of_mem_take h1)
    · rcases List.mem_cons.1 h1 with h2 | h2
      · subst h2; decide
      · exact fine_digit (digits_are n x h2)
theorem legal_try (s : ByteArray) (j : Nat) (hj : j < 1000000) : legalB (tryB (fixB s) j) = true := by
  unfold tryB
  split
  · exact legal_fixed s
  · exact legal_other _ j hj (fix_all s)
theorem assign_all (l : List ByteArray) (hl : l.length ≤ 10000) : (∀ x ∈ assignB l, legalB x = true ∧ x.size ≤ 32) ∧ ((assignB l).map foldB).Nodup := by
  have : ∀ n, n ≤ l.length → (∀ x ∈ assignB (l.take n), legalB x = true ∧ x.size ≤ 32) ∧ ((assignB (l.take n)).map foldB).Nodup := by
    intro n
    induction n with
    | zero => intro _; simp [assignB]
    | succ n ih =>
      intro hn
      obtain ⟨h1, h2⟩ := ih (by omega)
      rw [List.take_succ_eq_append_getElem (by omega), assign_snoc]
      have hle := next_le (assignB (l.take n)) (fixB (l[n]'(by omega)))
      rw [assign_length, List.length_take] at hle
      refine ⟨fun x hx => ?_, ?_⟩
      · rcases List.mem_append.1 hx with hx | hx
        · exact h1 x hx
        · obtain rfl := List.mem_singleton.1 hx
          exact ⟨legal_try _ _ (by omega), try_size _ _ (fix_size _) (by omega)⟩
      · rw [List.map_append, List.map_singleton, List.nodup_append]
        refine ⟨h2, by simp, fun a ha b hb e => ?_⟩
        obtain rfl := List.mem_singleton.1 hb
        exact (next_free (assignB (l.take n)) (fixB (l[n]'(by omega)))).1 (by rw [e] at ha; exact ha)
  have h := this l.length (Nat.le_refl _)
  rwa [List.take_length] at h

/-! ### The law -/
theorem assigns_end (A : List ByteArray) (hA : ∀ x ∈ A, legalB x = true ∧ x.size ≤ 32) (hN : (A.map foldB).Nodup) (hn : A.length ≤ 1000000) : ∀ (d i : Nat), i + d = A.length → Ev (fun k => arbourlaw14_NameAssigns.l1 k A A (i : Int)) true := by
  intro d
  induction d with
  | zero =>
    intro i hi
    refine Ev.step (f := fun _ => some true) (fun k => ?_) (Ev.now _)
    simp only [arbourlaw14_NameAssigns.l1]; rw [if_neg (by omega)]
  | succ d ih =>
    intro i hi
    have hil : i < A.length := by omega
    have hx := hA _ (List.getElem_mem hil)
    have inner : ∀ (e j : Nat), j + e = i → Ev (fun k => arbourlaw14_NameAssigns.l2 k A A (i : Int) (j : Int)) true := by
      intro e
      induction e with
      | zero =>
        intro j hj
        refine Ev.step (fun k => ?_) (ih (i + 1) (by omega))
        simp only [arbourlaw14_NameAssigns.l2]; rw [if_neg (by omega), wrap_next i (by omega)]
      | succ e ih2 =>
        intro j hj
        have hjl : j < A.length := by omega
        have hy := hA _ (List.getElem_mem hjl)
        refine Ev.step (f := fun k => (arbourref14_Fold.f k A[i]).bind fun t151 => (arbourref14_Fold.f k A[j]).bind fun t153 => if t151.toList = t153.toList then some false else arbourlaw14_NameAssigns.l2 k A A (i : Int) ((j + 1 : Nat) : Int)) (fun k => ?_) ?_
        · simp only [arbourlaw14_NameAssigns.l2]
          have q1 : (0 : Int) ≤ (j : Int) := by omega
          have q2 : (j : Int) < (A.length : Int) := by omega
          rw [if_pos (by omega), if_pos (by omega), if_pos (by omega), rdOf_get A i hil, rdOf_get A j hjl, wrap_next j (by omega)]
          simp only [if_pos q1, if_pos q2]
        · refine Ev.bind (rfold_ev _ (by omega)) (Ev.bind (rfold_ev _ (by omega)) ?_)
          have hne : ¬ (foldB A[i]).toList = (foldB A[j]).toList := by
            rw [toList_same]
            intro h
            have h1 : (A.map foldB)[i]'(by simpa using hil) = (A.map foldB)[j]'(by simpa using hjl) := by simpa using h
            have := (List.getElem_inj hN).1 h1
            omega
          exact Ev.congr (fun k => if_neg hne) (ih2 (j + 1) (by omega))
    refine Ev.step (f := fun k => (arbourref14_Legal.f k A[i]).bind fun t149 => arbourlaw14_NameAssigns.j4 k A A (i : Int) (!t149)) (fun k => ?_) ?_
    · simp only [arbourlaw14_NameAssigns.l1]
      rw [if_pos (by omega), if_pos (by omega), if_pos (by omega), if_pos trivial, rdOf_get A i hil]
    · refine Ev.bind (rlegal_ev _ (by omega)) ?_
      rw [hx.1]
      exact Ev.step (f := fun k => arbourlaw14_NameAssigns.l2 k A A (i : Int) 0) (fun k => by simp [arbourlaw14_NameAssigns.j4]) (inner i 0 (by omega))
theorem assigns_mid (l0 : List ByteArray) (g : List S27) (own : List ByteArray) (i : Int) (hg : g.map (fun x => x.f1) = own) (hl : own.length ≤ 60) (hs : ∀ x ∈ own, x.size ≤ 300) : Ev (fun k => arbourlaw14_NameAssigns.j1 k l0 g own i false) true := by
  have hgl : g.length = own.length := by rw [← hg]; simp
  have hgs : ∀ x ∈ g, x.f1.size ≤ 1000000 := fun x hx => by have := hs x.f1 (by rw [← hg]; exact List.mem_map_of_mem hx); omega
  have h1 := assign_some g (by omega) hgs
  rw [hg] at h1
  have h2 : arbourref14_Assign.f own = some (assignB own) := by
    unfold arbourref14_Assign.f
    rw [if_pos (by omega), if_pos (List.all_eq_true.2 fun x hx => decide_eq_true (by have := hs x hx; omega))]
  have hall := assign_all own (by omega)
  refine Ev.step (f := fun k => arbourlaw14_NameAssigns.j2 k (assignB own) (assignB own) false) (fun k => ?_) ?_
  · simp only [arbourlaw14_NameAssigns.j1, h1, h2, awake_some, Option.bind_some]
    rw [if_neg (by simp), if_pos trivial]
    congr 1
    exact bne_eq_false_iff_eq.2 rfl
  · refine Ev.step (f := fun k => arbourlaw14_NameAssigns.l1 k (assignB own) (assignB own) 0) (fun k => by simp [arbourlaw14_NameAssigns.j2]) ?_
    exact assigns_end (assignB own) hall.1 hall.2 (by rw [assign_length]; omega) (assignB own).length 0 (by omega)
theorem assigns_ev (l0 : List ByteArray) : Ev (fun k => arbourlaw14_NameAssigns.f k l0) true := by
  have loop : ∀ (d i : Nat) (g : List S27) (own : List ByteArray), i + d = 60 → g.map (fun x => x.f1) = own → own.length = i → (∀ x ∈ own, x.size ≤ 300) → Ev (fun k => arbourlaw14_NameAssigns.l0 k l0 g own (i : Int)) true := by
    intro d
    induction d with
    | zero =>
      intro i g own hi hg hl hs
      refine Ev.step (fun k => ?_) (assigns_mid l0 g own (i : Int) hg (by omega) hs)
      simp only [arbourlaw14_NameAssigns.l0]
      by_cases h : (i : Int) < (l0.length : Int)
      · rw [if_pos h, decide_eq_false (by omega)]
      · rw [if_neg h]
    | succ d ih =>
      intro i g own hi hg hl hs
      have hgl : g.length = own.length := by rw [← hg]; simp
      by_cases h : (i : Int) < (l0.length : Int)
      · refine Ev.step (f := fun k => arbourlaw14_NameAssigns.j1 k l0 g own (i : Int) true) (fun k => ?_) (Ev.step (fun k => ?_) (ih (i + 1) (g ++ [⟨IntKind.u64.wrap (wrap64 (16 + (i : Int))), fewB (rdOf ByteArray.empty l0 (i : Int))⟩]) (own ++ [fewB (rdOf ByteArray.empty l0 (i : Int))]) (by omega) (by simp [hg]) (by simp; omega) (fun x hx => by
          rcases List.mem_append.1 hx with h | h
          · exact hs x h
          · obtain rfl := List.mem_singleton.1 h; exact few_size _)))
        · simp only [arbourlaw14_NameAssigns.l0]; rw [if_pos h, decide_eq_true (by omega)]
        · simp only [arbourlaw14_NameAssigns.j1]
          rw [if_pos trivial, if_pos (by omega), if_pos h, few_some, Option.bind_some, if_pos (by omega), Option.bind_some, if_pos (by omega), wrap_next i (by omega)]
      · refine Ev.step (fun k => ?_) (assigns_mid l0 g own (i : Int) hg (by omega) hs)
        simp only [arbourlaw14_NameAssigns.l0]; rw [if_neg h]
  exact loop 60 0 [] [] (by omega) rfl rfl (by simp)
end Go.Proofs.YtobkpglenpoacaaDoor.XNameAssigns
