/- Plain facts on the printed functions of layer 14 that the statement NameKeeps reaches. -/
import Derived.Test.YtobkpglenpoacaaDoorXNameKeepsx
namespace Go.Proofs.YtobkpglenpoacaaDoor.XNameKeeps
set_option linter.unusedVariables false
set_option linter.unusedSimpArgs false
open Go.RowKit Go.Proofs.YtobkpglenpoacaaDoorW.PrintWords Go.Proofs.YtobkpglenpoacaaDoorW.PrintLast Go.Proofs.YtobkpglenpoacaaDoorW.PrintMore Go.Proofs.YtobkpglenpoacaaDoorB

theorem toList_data (s : ByteArray) : s.toList = s.data.toList := ByteArray.toList_eq s
theorem toList_same (a b : ByteArray) : a.toList = b.toList ↔ a = b := by
  constructor
  · intro h; rw [toList_data, toList_data] at h; exact bytes_inj h
  · rintro rfl; rfl
theorem size_data (s : ByteArray) : s.data.toList.length = s.size := by simp
theorem bt_get (s : ByteArray) (i : Nat) (h : i < s.data.toList.length) : bt s (i : Int) = ((s.data.toList[i]).toNat : Int) := by
  have h2 : i < s.size := by rw [← size_data]; exact h
  have := bt_at s (i : Int) (by simpa using h2)
  rw [← this]
  simp [ByteArray.getElem_eq_getElem_data]
theorem rdOf_get (l : List ByteArray) (i : Nat) (h : i < l.length) : rdOf ByteArray.empty l (i : Int) = l[i] := by simp [rdOf, List.getD, h]
theorem wrap_next (i : Nat) (h : i ≤ 1000000000) : wrap64 ((i : Int) + 1) = ((i + 1 : Nat) : Int) := by unfold wrap64; omega

/-! ### Fold, as the document has it -/
theorem rfold_ev (s : ByteArray) (hs : s.size ≤ 1000000) : Ev (fun k => arbourref14_Fold.f k s) (foldB s) := by
  have e0 : foldB s = strOfNums ((s.data.toList.map small).map fun x => (x.toNat : Int)) := by
    unfold foldB strOfNums
    simp only [List.map_map, Function.comp_def]
    congr 2
    apply List.map_congr_left
    intro x _
    simp
  have loop : ∀ (d i : Nat), i + d = s.size → Ev (fun k => arbourref14_Fold.l0 k s (((s.data.toList.map small).map fun x => (x.toNat : Int)).take i) (i : Int)) (foldB s) := by
    intro d
    induction d with
    | zero =>
      intro i hi
      refine Ev.step (f := fun _ => some (foldB s)) (fun k => ?_) (Ev.now _)
      simp only [arbourref14_Fold.l0]
      rw [if_neg (by omega), e0, List.take_of_length_le (by simp; omega)]
    | succ d ih =>
      intro i hi
      have hil : i < s.data.toList.length := by rw [size_data]; omega
      refine Ev.step (fun k => ?_) (ih (i + 1) (by omega))
      simp only [arbourref14_Fold.l0]
      have hlen : (((s.data.toList.map small).map fun x => (x.toNat : Int)).take i).length = i := by simp; omega
      have hnx : ((s.data.toList.map small).map fun x => (x.toNat : Int)).take (i + 1) = ((s.data.toList.map small).map fun x => (x.toNat : Int)).take i ++ [((small s.data.toList[i]).toNat : Int)] := by
        rw [List.take_succ_eq_append_getElem (by simpa using hil)]; simp
      rw [if_pos (by omega), if_pos (by omega), bt_get s i hil, hnx, wrap_next i (by omega)]
      generalize s.data.toList[i] = x
      by_cases h1 : 65 ≤ x.toNat
      · rw [if_pos (by omega)]
        by_cases h2 : x.toNat ≤ 90
        · rw [if_pos (by omega), if_pos (by rw [hlen]; omega)]
          have : ((small x).toNat : Int) = (x.toNat + 32) % 256 := by
            have e : small x = x + 32 := if_pos ⟨h1, h2⟩
            rw [e, UInt8.toNat_add]; simp
          rw [this]
        · rw [if_neg (by omega), if_pos (by rw [hlen]; omega), show small x = x from if_neg (by omega)]
      · rw [if_neg (by omega), if_pos (by rw [hlen]; omega), show small x = x from if_neg (by omega)]
  exact loop s.size 0 (by omega)

/-! ### Which bytes may stand in a name, as the document has it -/
theorem rfine_ev (x : UInt8) : Ev (fun k => arbourref14_fine.f k (x.toNat : Int)) (fineB x) := by
  have key : ∀ n : Fin 256, arbourref14_fine.f 12 (n.val : Int) = some (fineB (UInt8.ofNat n.val)) := by decide +kernel
  have h := key ⟨x.toNat, UInt8.toNat_lt x⟩
  exact Ev.of (k := 12) (fun k => arbourref14_fine.mono _ k) (by simpa using h)
/-- May a text be a name? -/
def legalB (s : ByteArray) : Bool := decide (1 ≤ s.size) && decide (s.size ≤ 32) && (s.data.toList.getLast? != some 46) && s.data.toList.all fineB
theorem rlegal_ev (s : ByteArray) (hs : s.size ≤ 1000000) : Ev (fun k => arbourref14_Legal.f k s) (legalB s) := by
  have loop : ∀ (d i : Nat), i + d = s.size → Ev (fun k => arbourref14_Legal.l0 k s (i : Int)) ((s.data.toList.drop i).all fineB) := by
    intro d
    induction d with
    | zero =>
      intro i hi
      refine Ev.step (f := fun _ => some true) (fun k => ?_) ?_
      · simp only [arbourref14_Legal.l0]; rw [if_neg (by omega)]
      · rw [List.drop_of_length_le (by rw [size_data]; omega)]; exact Ev.now _
    | succ d ih =>
      intro i hi
      have hil : i < s.data.toList.length := by rw [size_data]; omega
      rw [List.drop_eq_getElem_cons hil, List.all_cons]
      refine Ev.step (f := fun k => (arbourref14_fine.f k ((s.data.toList[i]).toNat : Int)).bind fun t => if t = true then arbourref14_Legal.l0 k s ((i + 1 : Nat) : Int) else some false) (fun k => ?_) ?_
      · simp only [arbourref14_Legal.l0]
        rw [if_pos (by omega), if_pos (by omega), bt_get s i hil, wrap_next i (by omega)]
      · refine Ev.bind (rfine_ev _) ?_
        cases fineB s.data.toList[i] with
        | true => simpa using ih (i + 1) (by omega)
        | false => simpa using Ev.now false
  have tail : ∀ b : Bool, Ev (fun k => arbourref14_Legal.j0 k s b) (!b && s.data.toList.all fineB) := by
    intro b
    cases b with
    | true => exact Ev.step (f := fun _ => some false) (fun k => by simp [arbourref14_Legal.j0]) (Ev.now _)
    | false => exact Ev.step (f := fun k => arbourref14_Legal.l0 k s 0) (fun k => by simp [arbourref14_Legal.j0]) (by simpa using loop s.size 0 (by omega))
  unfold legalB
  by_cases h0 : s.size = 0
  · have e : s.toList = [] := by rw [toList_data]; exact List.eq_nil_of_length_eq_zero (by rw [size_data]; exact h0)
    refine Ev.congr (f := fun k => arbourref14_Legal.j0 k s true) (fun k => ?_) ?_
    · simp only [arbourref14_Legal.f]; rw [if_pos e]
    · have := tail true
      simpa [h0] using this
  · have e : s.toList ≠ [] := fun e => h0 (by rw [← size_data, ← toList_data, e]; rfl)
    by_cases h32 : s.size ≤ 32
    · have hl : s.size - 1 < s.data.toList.length := by rw [size_data]; omega
      refine Ev.congr (f := fun k => arbourref14_Legal.j0 k s (((s.data.toList[s.size - 1]).toNat : Int) == 46)) (fun k => ?_) ?_
      · simp only [arbourref14_Legal.f]
        have hw : wrap64 ((s.size : Int) - 1) = ((s.size - 1 : Nat) : Int) := by unfold wrap64; omega
        rw [if_neg e, if_neg (by omega), hw, if_pos (by omega), if_pos (by omega), bt_get s _ hl]
      · have hg : s.data.toList.getLast? = some s.data.toList[s.size - 1] := by
          rw [List.getLast?_eq_getElem?, size_data, List.getElem?_eq_getElem hl]
        have e2 : (s.data.toList.getLast? != some 46) = !(((s.data.toList[s.size - 1]).toNat : Int) == 46) := by
          rw [hg]
          generalize s.data.toList[s.size - 1] = y
          by_cases hy : y = 46
          · subst hy; rfl
          · have : ¬ ((y.toNat : Int) = 46) := fun h => hy (UInt8.toNat_inj.1 (by show y.toNat = 46; omega))
            rw [show ((some y : Option UInt8) != some 46) = true from bne_iff_ne.2 (fun h => hy (Option.some.inj h)), show ((y.toNat : Int) == 46) = false from beq_eq_false_iff_ne.2 this]
            rfl
        rw [e2, decide_eq_true (by omega), decide_eq_true h32, Bool.true_and, Bool.true_and]
        exact tail (((s.data.toList[s.size - 1]).toNat : Int) == 46)
    · refine Ev.congr (f := fun k => arbourref14_Legal.j0 k s true) (fun k => ?_) ?_
      · simp only [arbourref14_Legal.f]; rw [if_neg e, if_pos (by omega)]
      · have := tail true
        simpa [h32] using this
theorem awake_some : arbourlaw14_awake.f = some true := by decide +kernel
def fewB (s : ByteArray) : ByteArray := if s.size > 300 then s.extract 0 300 else s
theorem few_some (s : ByteArray) : arbourlaw14_few.f s = some (fewB s) := by
  unfold arbourlaw14_few.f fewB
  by_cases h : s.size > 300
  · rw [if_pos (by omega), if_pos (by omega), if_pos (by omega), if_pos h]
  · rw [if_neg (by omega), if_neg h]
theorem few_size (s : ByteArray) : (fewB s).size ≤ 300 := by
  unfold fewB
  split
  · rw [ByteArray.size_extract]; omega
  · omega
theorem legal_fix {x : ByteArray} (h : legalB x = true) : fixB x = x := by
  simp only [legalB, Bool.and_eq_true, decide_eq_true_eq] at h
  obtain ⟨⟨⟨h1, h2⟩, h3⟩, h4⟩ := h
  rw [fix_some (by omega), List.take_of_length_le (by rw [size_data]; exact h2)]
  have e : x.data.toList.map mend = x.data.toList := by
    rw [List.map_congr_left (f := mend) (g := id) (fun y hy => mend_fine (List.all_eq_true.1 h4 y hy))]; simp
  rw [e, undot, if_neg (bne_iff_ne.1 h3)]
theorem next_own {out : List ByteArray} {x : ByteArray} (hl : legalB x = true) (hf : foldB x ∉ out.map foldB) : nextB out x = x := by
  rw [nextB, legal_fix hl]
  have h := next_free out x
  have : nextJ out x = 0 := by
    rcases Nat.eq_zero_or_pos (nextJ out x) with h0 | h0
    · exact h0
    · exact absurd (by simpa [tryB] using h.2 0 h0) hf
  rw [this]; rfl
theorem assign_some (g : List S27) (h : g.length ≤ 98) (hs : ∀ x ∈ g, x.f1.size ≤ 1000000) : name_Assign.f g = some (assignB (g.map (fun x => x.f1))) := by
  unfold name_Assign.f
  rw [if_pos h, if_pos (List.all_eq_true.2 fun x hx => decide_eq_true (hs x hx))]
theorem keeps_end (a1 : ByteArray) (A B : List ByteArray) (hB : B = A ++ [nextB A (fewB a1)]) (hA : ∀ x ∈ A, x.size ≤ 1000000) (hn : A.length ≤ 1000000) : ∀ (d i : Nat) (flag : Bool), i + d = A.length → (flag = true → legalB (fewB a1) = true ∧ ∀ x ∈ A.take i, foldB x ≠ foldB (fewB a1)) →
    Ev (fun k => arbourlaw14_NameKeeps.l1 k a1 A B flag (i : Int)) true := by
  have hBl : B.length = A.length + 1 := by rw [hB]; simp
  intro d
  induction d with
  | zero =>
    intro i flag hi hf
    refine Ev.step (f := fun _ => some true) (fun k => ?_) (Ev.now _)
    simp only [arbourlaw14_NameKeeps.l1]
    rw [if_neg (by omega)]
    cases flag with
    | false => rfl
    | true =>
      obtain ⟨h1, h2⟩ := hf rfl
      have hiA : i = A.length := by omega
      rw [hiA, List.take_length] at h2
      rw [if_pos rfl, if_pos (by omega), if_pos (by omega), few_some, rdOf_get B A.length (by omega)]
      have e : B[A.length]'(by omega) = fewB a1 := by
        have h3 : nextB A (fewB a1) = fewB a1 := next_own h1 (fun hm => by obtain ⟨x, hx, e⟩ := List.mem_map.1 hm; exact h2 x hx e)
        simp [hB, h3]
      simp only [Option.bind_some, e, beq_self_eq_true]
  | succ d ih =>
    intro i flag hi hf
    have hi1 : i < A.length := by omega
    have e : A[i] = B[i]'(by omega) := by simp [hB, List.getElem_append, hi1]
    cases flag with
    | false =>
      refine Ev.step (fun k => ?_) (ih (i + 1) false (by omega) (fun h => by cases h))
      simp only [arbourlaw14_NameKeeps.l1]
      rw [if_pos (by omega), if_pos (by omega), if_pos (by omega), rdOf_get A i hi1, rdOf_get B i (by omega), e, if_pos rfl, wrap_next i (by omega)]
      rfl
    | true =>
      obtain ⟨h1, h2⟩ := hf rfl
      refine Ev.step (f := fun k => (arbourref14_Fold.f k A[i]).bind fun t155 => (arbourref14_Fold.f k (fewB a1)).bind fun t157 => arbourlaw14_NameKeeps.l1 k a1 A B (t155.toList != t157.toList) ((i + 1 : Nat) : Int)) (fun k => ?_) ?_
      · simp only [arbourlaw14_NameKeeps.l1]
        rw [if_pos (by omega), if_pos (by omega), if_pos (by omega), rdOf_get A i hi1, rdOf_get B i (by omega), ← e, if_pos rfl, if_pos trivial, few_some, wrap_next i (by omega)]
        rfl
      · refine Ev.bind (rfold_ev _ (hA _ (List.getElem_mem hi1))) (Ev.bind (rfold_ev _ (by have := few_size a1; omega)) (ih (i + 1) _ (by omega) (fun h => ⟨h1, fun x hx => ?_⟩)))
        rw [List.take_succ_eq_append_getElem hi1] at hx
        rcases List.mem_append.1 hx with hx | hx
        · exact h2 x hx
        · obtain rfl := List.mem_singleton.1 hx
          intro he
          rw [he] at h
          simp at h
theorem assign_sizes (l : List ByteArray) (hl : l.length ≤ 10000) : ∀ x ∈ assignB l, x.size ≤ 32 := by
  have : ∀ n, n ≤ l.length → ∀ x ∈ assignB (l.take n), x.size ≤ 32 := by
    intro n
    induction n with
    | zero => intro _ x hx; simp [assignB] at hx
    | succ n ih =>
      intro hn x hx
      rw [List.take_succ_eq_append_getElem (by omega), assign_snoc] at hx
      rcases List.mem_append.1 hx with hx | hx
      · exact ih (by omega) x hx
      · obtain rfl := List.mem_singleton.1 hx
        have h1 := next_le (assignB (l.take n)) (fixB (l[n]'(by omega)))
        rw [assign_length, List.length_take] at h1
        exact try_size _ _ (fix_size _) (by omega)
  have h := this l.length (Nat.le_refl _)
  rwa [List.take_length] at h
theorem keeps_mid (a1 : ByteArray) (g : List S27) (hg : g.length ≤ 30) (hs : ∀ x ∈ g, x.f1.size ≤ 300) : Ev (fun k => arbourlaw14_NameKeeps.j1 k a1 g) true := by
  have hA := assign_some g (by omega) (fun x hx => by have := hs x hx; omega)
  have hB := assign_some (g ++ [⟨99, fewB a1⟩]) (by simp; omega) (fun x hx => by
    rcases List.mem_append.1 hx with h | h
    · have := hs x h; omega
    · obtain rfl := List.mem_singleton.1 h; have := few_size a1; show (fewB a1).size ≤ _; omega)
  rw [List.map_append, List.map_singleton, assign_snoc] at hB
  generalize hN : g.map (fun x => x.f1) = N at hA hB
  have hNl : N.length = g.length := by rw [← hN]; simp
  have hAl : (assignB N).length = g.length := by rw [assign_length, hNl]
  refine Ev.step (f := fun k => arbourlaw14_NameKeeps.j2 k a1 (assignB N) (assignB N ++ [nextB (assignB N) (fewB a1)]) false) (fun k => ?_) ?_
  · simp only [arbourlaw14_NameKeeps.j1, hA, Option.bind_some, List.nil_append, List.length_nil, few_some, awake_some]
    rw [if_pos (by omega), if_pos (by omega), hB]
    simp only [Option.bind_some, if_true]
    rw [if_pos (by omega)]
    congr 1
    rw [bne_eq_false_iff_eq]
    simp only [List.length_append, List.length_singleton]
    unfold wrap64; omega
  · refine Ev.step (f := fun k => (arbourref14_Legal.f k (fewB a1)).bind fun t => arbourlaw14_NameKeeps.l1 k a1 (assignB N) (assignB N ++ [nextB (assignB N) (fewB a1)]) t 0) (fun k => ?_) ?_
    · simp only [arbourlaw14_NameKeeps.j2, few_some, Option.bind_some]; rfl
    · refine Ev.bind (rlegal_ev _ (by have := few_size a1; omega)) ?_
      exact keeps_end a1 (assignB N) _ rfl (fun x hx => by have := assign_sizes N (by omega) x hx; omega) (by omega) (assignB N).length 0 _ (by omega) (fun h => ⟨h, fun x hx => by simp at hx⟩)
theorem keeps_ev (l0 : List ByteArray) (a1 : ByteArray) : Ev (fun k => arbourlaw14_NameKeeps.f k l0 a1) true := by
  have loop : ∀ (d i : Nat) (g : List S27), i + d = 30 → g.length = i → (∀ x ∈ g, x.f1.size ≤ 300) → Ev (fun k => arbourlaw14_NameKeeps.l0 k l0 a1 g (i : Int)) true := by
    intro d
    induction d with
    | zero =>
      intro i g hi hl hs
      refine Ev.step (fun k => ?_) (keeps_mid a1 g (by omega) hs)
      simp only [arbourlaw14_NameKeeps.l0]
      by_cases h : (i : Int) < (l0.length : Int)
      · rw [if_pos h, if_neg (by omega)]
      · rw [if_neg h]
    | succ d ih =>
      intro i g hi hl hs
      by_cases h : (i : Int) < (l0.length : Int)
      · refine Ev.step (fun k => ?_) (ih (i + 1) (g ++ [⟨IntKind.u64.wrap (wrap64 (16 + (i : Int))), fewB (rdOf ByteArray.empty l0 (i : Int))⟩]) (by omega) (by simp; omega) (fun x hx => by
          rcases List.mem_append.1 hx with h | h
          · exact hs x h
          · obtain rfl := List.mem_singleton.1 h; exact few_size _))
        simp only [arbourlaw14_NameKeeps.l0]
        rw [if_pos h, if_pos (by omega), if_pos (by omega), few_some, Option.bind_some, if_pos (by omega), wrap_next i (by omega)]
      · refine Ev.step (fun k => ?_) (keeps_mid a1 g (by omega) hs)
        simp only [arbourlaw14_NameKeeps.l0]
        rw [if_neg h]
  exact loop 30 0 [] (by omega) rfl (by simp)
end Go.Proofs.YtobkpglenpoacaaDoor.XNameKeeps
