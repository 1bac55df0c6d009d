/- Files by their names, in order and as a map; a file's bytes, sure and loose: plain laws. Conditions: none. -/
import Derived.Test.YtcongfiojbajeaaMaps
namespace Go.Proofs.YtcongfiojbajeaaK
open Go Go.Proofs.YtcongfiojbajeaaM
set_option linter.unusedVariables false
set_option linter.unusedSectionVars false
/-! ### texts in order -/
theorem less_irrefl : ∀ x : List UInt8, Op.bytesLess x x = false
  | [] => rfl
  | a :: x => by simp [Op.bytesLess, less_irrefl x, UInt8.lt_irrefl]
theorem less_cons (a b : UInt8) (x y : List UInt8) : Op.bytesLess (a :: x) (b :: y) = true ↔ a.toNat < b.toNat ∨ (a = b ∧ Op.bytesLess x y = true) := by
  rw [Op.bytesLess, Bool.or_eq_true, Bool.and_eq_true, decide_eq_true_eq, beq_iff_eq, UInt8.lt_iff_toNat_lt]
theorem less_trans : ∀ x y z : List UInt8, Op.bytesLess x y = true → Op.bytesLess y z = true → Op.bytesLess x z = true
  | [], [], z, h, _ => by cases h
  | [], _ :: _, [], _, h => by cases h
  | [], _ :: _, _ :: _, _, _ => rfl
  | _ :: _, [], _, h, _ => by cases h
  | _ :: _, _ :: _, [], _, h => by cases h
  | a :: x, b :: y, c :: z, h1, h2 => by
    rw [less_cons] at h1 h2 ⊢
    rcases h1 with h1 | ⟨rfl, h1⟩
    · rcases h2 with h2 | ⟨rfl, h2⟩
      · exact .inl (by omega)
      · exact .inl h1
    · rcases h2 with h2 | ⟨rfl, h2⟩
      · exact .inl h2
      · exact .inr ⟨rfl, less_trans x y z h1 h2⟩
theorem less_tri : ∀ x y : List UInt8, Op.bytesLess x y = false → Op.bytesLess y x = false → x = y
  | [], [], _, _ => rfl
  | [], _ :: _, h, _ => by cases h
  | _ :: _, [], _, h => by cases h
  | a :: x, b :: y, h1, h2 => by
    have h1 : ¬ (Op.bytesLess (a :: x) (b :: y) = true) := by rw [h1]; simp
    have h2 : ¬ (Op.bytesLess (b :: y) (a :: x) = true) := by rw [h2]; simp
    rw [less_cons] at h1 h2
    have hab : a = b := UInt8.toNat_inj.1 (by
      have q1 : ¬ a.toNat < b.toNat := fun h => h1 (.inl h)
      have q2 : ¬ b.toNat < a.toNat := fun h => h2 (.inl h)
      omega)
    subst hab
    have q1 : Op.bytesLess x y = false := by
      cases h : Op.bytesLess x y with
      | false => rfl
      | true => exact absurd (.inr ⟨rfl, h⟩) h1
    have q2 : Op.bytesLess y x = false := by
      cases h : Op.bytesLess y x with
      | false => rfl
      | true => exact absurd (.inr ⟨rfl, h⟩) h2
    rw [less_tri x y q1 q2]
def ltB (a b : ByteArray) : Bool := Op.bytesLess a.toList b.toList
theorem bytes_same {a b : ByteArray} (h : a.toList = b.toList) : a = b := by
  rw [ByteArray.toList_eq, ByteArray.toList_eq] at h
  cases a; cases b
  simp only at h
  congr 1
  exact Array.ext' h
theorem ltB_irrefl (a : ByteArray) : ltB a a = false := less_irrefl _
theorem ltB_trans {a b c : ByteArray} (h1 : ltB a b = true) (h2 : ltB b c = true) : ltB a c = true := less_trans _ _ _ h1 h2
theorem ltB_tri {a b : ByteArray} (h1 : ltB a b = false) (h2 : ltB b a = false) : a = b := bytes_same (less_tri _ _ h1 h2)
theorem ltB_asymm {a b : ByteArray} (h : ltB a b = true) : ltB b a = false := by
  cases h2 : ltB b a with
  | false => rfl
  | true => have := ltB_trans h h2; rw [ltB_irrefl] at this; cases this
theorem ltB_ne {a b : ByteArray} (h : ltB a b = true) : a ≠ b := by
  rintro rfl
  rw [ltB_irrefl] at h; cases h
/-! ### rows that rise by their names -/
section
variable {ν : Type}
def Rises (l : List (ByteArray × ν)) : Prop := l.Pairwise fun a b => ltB a.1 b.1 = true
/-- In its place. -/
def putS : List (ByteArray × ν) → ByteArray → ν → List (ByteArray × ν)
  | [], n, v => [(n, v)]
  | p :: l, n, v => if ltB p.1 n = true then p :: putS l n v else if p.1 = n then (n, v) :: l else (n, v) :: p :: l
theorem Rises.nodup {l : List (ByteArray × ν)} (h : Rises l) : (l.map (·.1)).Nodup := by
  unfold List.Nodup
  rw [List.pairwise_map]
  exact h.imp fun h => ltB_ne h
theorem putS_mem {l : List (ByteArray × ν)} {n : ByteArray} {v : ν} {q : ByteArray × ν} (h : q ∈ putS l n v) : q = (n, v) ∨ q ∈ l := by
  induction l with
  | nil => simp [putS] at h; exact .inl h
  | cons p l ih =>
    unfold putS at h
    split at h
    · rcases List.mem_cons.1 h with rfl | h
      · exact .inr (List.mem_cons_self ..)
      · rcases ih h with h | h
        · exact .inl h
        · exact .inr (List.mem_cons_of_mem _ h)
    · split at h
      · rcases List.mem_cons.1 h with rfl | h
        · exact .inl rfl
        · exact .inr (List.mem_cons_of_mem _ h)
      · rcases List.mem_cons.1 h with rfl | h
        · exact .inl rfl
        · exact .inr h
theorem Rises.putS {l : List (ByteArray × ν)} (h : Rises l) (n : ByteArray) (v : ν) : Rises (putS l n v) := by
  induction l with
  | nil => simp [Go.Proofs.YtcongfiojbajeaaK.putS, Go.Proofs.YtcongfiojbajeaaK.Rises]
  | cons p l ih =>
    have h' := List.pairwise_cons.1 h
    unfold Go.Proofs.YtcongfiojbajeaaK.putS
    by_cases h1 : ltB p.1 n = true
    · rw [if_pos h1]
      refine List.pairwise_cons.2 ⟨fun q hq => ?_, ih h'.2⟩
      rcases putS_mem hq with rfl | hq
      · exact h1
      · exact h'.1 q hq
    · rw [if_neg h1]
      have h1 : ltB p.1 n = false := by simpa using h1
      by_cases h2 : p.1 = n
      · rw [if_pos h2]
        refine List.pairwise_cons.2 ⟨fun q hq => ?_, h'.2⟩
        have := h'.1 q hq
        rw [h2] at this
        exact this
      · rw [if_neg h2]
        have hnp : ltB n p.1 = true := by
          cases h3 : ltB n p.1 with
          | true => rfl
          | false => exact absurd (ltB_tri h1 h3) h2
        refine List.pairwise_cons.2 ⟨fun q hq => ?_, h⟩
        rcases List.mem_cons.1 hq with rfl | hq
        · exact hnp
        · exact ltB_trans hnp (h'.1 q hq)
theorem get_putS {l : List (ByteArray × ν)} (h : Rises l) (n : ByteArray) (v : ν) (y : ByteArray) : get (putS l n v) y = if n = y then some v else get l y := by
  induction l with
  | nil => simp only [putS, get_cons, get_nil]
  | cons p l ih =>
    have h' := List.pairwise_cons.1 h
    unfold putS
    by_cases h1 : ltB p.1 n = true
    · rw [if_pos h1, get_cons, ih h'.2, get_cons]
      by_cases h2 : p.1 = y
      · rw [if_pos h2, if_pos h2, if_neg (fun e => ltB_ne h1 (h2.trans e.symm))]
      · rw [if_neg h2, if_neg h2]
    · rw [if_neg h1]
      by_cases h2 : p.1 = n
      · rw [if_pos h2, get_cons, get_cons]
        by_cases h3 : n = y
        · rw [if_pos h3, if_pos h3]
        · rw [if_neg h3, if_neg h3, if_neg (fun e => h3 (h2.symm.trans e))]
      · rw [if_neg h2, get_cons]
theorem Rises.filter {l : List (ByteArray × ν)} (h : Rises l) (q : ByteArray × ν → Bool) : Rises (l.filter q) := List.Pairwise.sublist List.filter_sublist h
/-- Two lists that rise and have the same at each name are one. -/
theorem rises_ext : ∀ {l m : List (ByteArray × ν)}, Rises l → Rises m → (∀ y, get l y = get m y) → l = m
  | [], [], _, _, _ => rfl
  | [], p :: m, _, _, h => by have := h p.1; rw [get_nil, get_cons, if_pos rfl] at this; cases this
  | p :: l, [], _, _, h => by have := h p.1; rw [get_nil, get_cons, if_pos rfl] at this; cases this
  | p :: l, q :: m, h1, h2, h => by
    have a1 := List.pairwise_cons.1 h1
    have a2 := List.pairwise_cons.1 h2
    have hp := h p.1
    have hq := h q.1
    rw [get_cons, if_pos rfl, get_cons] at hp
    rw [get_cons, get_cons, if_pos rfl] at hq
    have hk : p.1 = q.1 := by
      by_cases e : q.1 = p.1
      · exact e.symm
      · rw [if_neg e] at hp
        rw [if_neg (fun e2 => e e2.symm)] at hq
        have m1 := get_mem hp.symm
        have m2 := get_mem hq
        have l1 := a2.1 _ m1
        have l2 := a1.1 _ m2
        have := ltB_asymm l1
        rw [l2] at this; cases this
    rw [if_pos hk.symm] at hp
    have hpq : p = q := Prod.ext hk (Option.some.inj hp)
    subst hpq
    congr 1
    refine rises_ext a1.2 a2.2 fun y => ?_
    have hy := h y
    rw [get_cons, get_cons] at hy
    by_cases e : p.1 = y
    · have n1 : get l y = none := by
        cases hg : get l y with
        | none => rfl
        | some u => exact absurd e (ltB_ne (a1.1 _ (get_mem hg)))
      have n2 : get m y = none := by
        cases hg : get m y with
        | none => rfl
        | some u => exact absurd e (ltB_ne (a2.1 _ (get_mem hg)))
      rw [n1, n2]
    · rwa [if_neg e, if_neg e] at hy
end
/-! ### a file's bytes -/
/-- A file: its sure bytes, whether it is sure that it is there, what was put since (bytes; in the place of all). -/
structure PF where
  sure : ByteArray
  there : Bool
  loose : List (ByteArray × Bool)
def onP (s : ByteArray) (p : ByteArray × Bool) : ByteArray := if p.2 = true then p.1 else s ++ p.1
def PF.now (f : PF) : ByteArray := f.loose.foldl onP f.sure
def PF.settled (f : PF) : PF := ⟨f.now, true, []⟩
/-- How many bytes it has, all in all. -/
def PF.vol (f : PF) : Nat := f.sure.size + (f.loose.map fun p => p.1.size).sum
theorem fold_size : ∀ (l : List (ByteArray × Bool)) (s : ByteArray), (l.foldl onP s).size ≤ s.size + (l.map fun p => p.1.size).sum
  | [], s => by simp
  | p :: l, s => by
    rw [List.foldl_cons, List.map_cons, List.sum_cons]
    have h := fold_size l (onP s p)
    have h2 : (onP s p).size ≤ s.size + p.1.size := by
      unfold onP
      split
      · omega
      · rw [ByteArray.size_append]; omega
    omega
theorem PF.now_size (f : PF) : f.now.size ≤ f.vol := fold_size _ _
def PF.put (f : PF) (p : ByteArray × Bool) : PF := { f with loose := f.loose ++ [p] }
theorem PF.put_now (f : PF) (p : ByteArray × Bool) : (f.put p).now = onP f.now p := by simp [PF.put, PF.now, List.foldl_append]
theorem PF.put_vol (f : PF) (p : ByteArray × Bool) : (f.put p).vol = f.vol + p.1.size := by simp [PF.put, PF.vol]; omega
theorem PF.settled_vol (f : PF) : f.settled.vol ≤ f.vol := by
  have := f.now_size
  simp [PF.settled, PF.vol] at this ⊢
  exact this
end Go.Proofs.YtcongfiojbajeaaK
