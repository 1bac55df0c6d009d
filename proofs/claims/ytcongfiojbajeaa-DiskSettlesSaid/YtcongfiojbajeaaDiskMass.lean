/- The disk's state, what its methods do to it: plain laws. Conditions: none. -/
import Derived.Test.YtcongfiojbajeaaDiskOps
namespace Go.Proofs.YtcongfiojbajeaaK
open Go Go.RowKit Go.Maps Go.Proofs.YtcongfiojbajeaaM Go.Proofs.YtcongfiojbajeaaW.PrintWords Go.Proofs.YtcongfiojbajeaaN
set_option linter.unusedVariables false
set_option linter.unusedSimpArgs false
/-! ### what is left of a range over the names -/
section
variable {ν : Type}
theorem same_str (x y : ByteArray) : (ekS y).sameKey (ekS x) = decide (y = x) := by
  by_cases h : y = x
  · subst h; rw [decide_eq_true rfl]; unfold ekS; simp [Lit.sameKey]
  · rw [decide_eq_false h]; exact Maps.sameKey_ne (fun e => h (ekS_inj _ _ e))
/-- The sum of what was gone over. -/
def doneSum (g : ByteArray × ν → Nat) (l : List (ByteArray × ν)) (left : Lit → Bool) : Nat := (l.map fun p => if left (ekS p.1) = true then 0 else g p).sum
theorem doneSum_start (g : ByteArray × ν → Nat) {l : List (ByteArray × ν)} {left : Lit → Bool} (hn : (l.map (·.1)).Nodup) (h : ∀ x, left (ekS x) = (get l x).isSome) : doneSum g l left = 0 := by
  unfold doneSum
  have : ∀ x ∈ (l.map fun p => if left (ekS p.1) = true then 0 else g p), x = 0 := by
    intro x hx
    obtain ⟨p, hp, rfl⟩ := List.mem_map.1 hx
    rw [h, get_of_mem hn hp]; rfl
  generalize (l.map fun p => if left (ekS p.1) = true then 0 else g p) = m at this
  induction m with
  | nil => rfl
  | cons a m ih => rw [List.sum_cons, this a (List.mem_cons_self ..), ih (fun x hx => this x (List.mem_cons_of_mem _ hx))]
theorem doneSum_end (g : ByteArray × ν → Nat) (l : List (ByteArray × ν)) {left : Lit → Bool} (h : ∀ kl, left kl = false) : doneSum g l left = (l.map g).sum := by
  unfold doneSum
  congr 1
  refine List.map_congr_left fun p _ => ?_
  rw [h]; rfl
theorem doneSum_step (g : ByteArray × ν → Nat) {l : List (ByteArray × ν)} {left : Lit → Bool} (hn : (l.map (·.1)).Nodup) {x : ByteArray} {v : ν} (hg : get l x = some v) (hl : left (ekS x) = true) :
    doneSum g l (fun z => left z && !z.sameKey (ekS x)) = doneSum g l left + g (x, v) := by
  unfold doneSum
  induction l with
  | nil => cases hg
  | cons p l ih =>
    rw [List.map_cons, List.nodup_cons] at hn
    rw [get_cons] at hg
    rw [List.map_cons, List.sum_cons, List.map_cons, List.sum_cons]
    by_cases h : p.1 = x
    · rw [if_pos h] at hg
      have hp : p = (x, v) := Prod.ext h (Option.some.inj hg)
      subst hp
      have e1 : (l.map fun p => if (left (ekS p.1) && !(ekS p.1).sameKey (ekS x)) = true then 0 else g p) = l.map fun p => if left (ekS p.1) = true then 0 else g p := by
        refine List.map_congr_left fun q hq => ?_
        have hne : q.1 ≠ x := fun e => hn.1 (List.mem_map.2 ⟨q, hq, e⟩)
        rw [same_str, decide_eq_false hne]; simp
      have e0 : (left (ekS x) && !(ekS x).sameKey (ekS x)) = false := by rw [same_str, decide_eq_true rfl]; simp
      show (if (left (ekS x) && !(ekS x).sameKey (ekS x)) = true then 0 else g (x, v)) + _ = _
      rw [e0, hl, if_neg (by simp), if_pos rfl]
      have e2 : (l.map fun p => if (fun z => left z && !z.sameKey (ekS x)) (ekS p.1) = true then 0 else g p).sum = (l.map fun p => if left (ekS p.1) = true then 0 else g p).sum := congrArg List.sum e1
      omega
    · rw [if_neg h] at hg
      have := ih hn.2 hg
      have e0 : (left (ekS p.1) && !(ekS p.1).sameKey (ekS x)) = left (ekS p.1) := by rw [same_str, decide_eq_false h]; simp
      show (if (left (ekS p.1) && !(ekS p.1).sameKey (ekS x)) = true then 0 else g p) + _ = _
      rw [e0]
      omega
theorem doneSum_le (g : ByteArray × ν → Nat) (l : List (ByteArray × ν)) (left : Lit → Bool) : doneSum g l left ≤ (l.map g).sum := by
  unfold doneSum
  induction l with
  | nil => simp
  | cons p l ih =>
    rw [List.map_cons, List.sum_cons, List.map_cons, List.sum_cons]
    split <;> omega
end
/-! ### Put, Sync, the power's failing -/
/-- What 'look' tells. -/
noncomputable def PD.may (σ : PD) (s : ByteArray) : Int := if σ.power = false then 7 else if nm s = false then 60 else 0
noncomputable def PD.put (σ : PD) (s : ByteArray) (p : ByteArray × Bool) : PD × Int :=
  if σ.may s = 0 then
    if 0 < ((onP (σ.at s).now p).size : Int) - ((σ.at s).now.size : Int) ∧ 0 ≤ σ.room ∧ σ.room - (σ.used : Int) < ((onP (σ.at s).now p).size : Int) - ((σ.at s).now.size : Int) then (σ, 61)
    else ({ σ with files := putS σ.files s ((σ.at s).put p), next := σ.next + 1 }, 0)
  else (σ, σ.may s)
def PD.sync (σ : PD) : PD × Int := if σ.power = false then (σ, 7) else ({ σ with files := mapV PF.settled σ.files }, 0)
/-- A file behind the power's failing; none: it is gone. -/
def PF.after (keep torn : Int) (f : PF) : Option PF := if (f.fallen (f.kept keep) torn).there = true then some (f.fallen (f.kept keep) torn) else none
def fallL (keep torn : Int) (l : List (ByteArray × PF)) : List (ByteArray × PF) := l.filterMap fun p => (p.2.after keep torn).map fun g => (p.1, g)
def PD.crash (σ : PD) (keep torn : Int) : PD := if σ.power = false then σ else { σ with files := fallL keep torn σ.files, power := false }
theorem fallL_mem {keep torn : Int} {l : List (ByteArray × PF)} {q : ByteArray × PF} (h : q ∈ fallL keep torn l) : ∃ f, (q.1, f) ∈ l ∧ f.after keep torn = some q.2 := by
  unfold fallL at h
  obtain ⟨p, hp, hq⟩ := List.mem_filterMap.1 h
  obtain ⟨g, hg, rfl⟩ := Option.map_eq_some_iff.1 hq
  exact ⟨p.2, hp, hg⟩
theorem fallL_rises {keep torn : Int} {l : List (ByteArray × PF)} (h : Rises l) : Rises (fallL keep torn l) := by
  induction l with
  | nil => exact List.Pairwise.nil
  | cons p l ih =>
    have h' := List.pairwise_cons.1 h
    show Rises ((p :: l).filterMap _)
    rw [List.filterMap_cons]
    cases hf : p.2.after keep torn with
    | none => exact ih h'.2
    | some g =>
      refine List.pairwise_cons.2 ⟨fun q hq => ?_, ih h'.2⟩
      obtain ⟨f, hm, _⟩ := fallL_mem hq
      exact h'.1 (q.1, f) hm
theorem fallL_get {keep torn : Int} {l : List (ByteArray × PF)} (hn : (l.map (·.1)).Nodup) (x : ByteArray) : get (fallL keep torn l) x = (get l x).bind (PF.after keep torn) := by
  induction l with
  | nil => rfl
  | cons p l ih =>
    rw [List.map_cons, List.nodup_cons] at hn
    have ih := ih hn.2
    show get ((p :: l).filterMap _) x = _
    rw [List.filterMap_cons, get_cons]
    have hno : p.1 = x → get l x = none := fun h => by
      cases hg : get l x with
      | none => rfl
      | some u => exact absurd (List.mem_map.2 ⟨_, get_mem hg, rfl⟩) (h ▸ hn.1)
    cases hf : p.2.after keep torn with
    | none =>
      show get (fallL keep torn l) x = _
      rw [ih]
      by_cases h : p.1 = x
      · rw [if_pos h, hno h, Option.bind_some, hf]; rfl
      · rw [if_neg h]
    | some g =>
      show get ((p.1, g) :: fallL keep torn l) x = _
      rw [get_cons, ih]
      by_cases h : p.1 = x
      · rw [if_pos h, if_pos h, Option.bind_some, hf]
      · rw [if_neg h, if_neg h]
/-! ### how much there is -/
theorem tear_size (p : ByteArray × Bool) (torn : Int) : (tear p torn).1.size ≤ p.1.size := by
  unfold tear
  split
  · simp only [ByteArray.size_extract]; omega
  · omega
theorem onP_size (s : ByteArray) (p : ByteArray × Bool) : (onP s p).size ≤ s.size + p.1.size := by
  unfold onP
  split
  · omega
  · rw [ByteArray.size_append]; omega
theorem fallen_vol (f : PF) (n : Nat) (torn : Int) : (f.fallen n torn).vol ≤ f.vol := by
  unfold PF.fallen
  split
  · rename_i h
    have h1 := piece_small f n h.1
    have h2 := onP_size (f.base n).sure (tear f.loose[n] torn)
    have h3 := tear_size f.loose[n] torn
    have h4 : (f.base n).sure = (f.loose.take n).foldl onP f.sure := rfl
    rw [h4] at h2 ⊢
    show (onP _ _).size + 0 ≤ _
    omega
  · have h1 := fold_take f n
    show ((f.loose.take n).foldl onP f.sure).size + 0 ≤ _
    omega
theorem fallen_loose (f : PF) (n : Nat) (torn : Int) : (f.fallen n torn).loose = [] := by
  unfold PF.fallen
  split <;> rfl
theorem after_spec {f g : PF} {keep torn : Int} (h : f.after keep torn = some g) : g.vol ≤ f.vol ∧ g.loose = [] ∧ g.there = true := by
  unfold PF.after at h
  split at h
  · obtain rfl := Option.some.inj h
    exact ⟨fallen_vol _ _ _, fallen_loose _ _ _, by assumption⟩
  · cases h
theorem fallL_mass (keep torn : Int) (l : List (ByteArray × PF)) : ((fallL keep torn l).map fun p => 1 + p.2.vol + p.2.loose.length).sum ≤ (l.map fun p => 1 + p.2.vol + p.2.loose.length).sum := by
  induction l with
  | nil => simp [fallL]
  | cons p l ih =>
    show (((p :: l).filterMap _).map _).sum ≤ _
    rw [List.filterMap_cons, List.map_cons, List.sum_cons]
    cases hf : p.2.after keep torn with
    | none =>
      show ((fallL keep torn l).map _).sum ≤ _
      omega
    | some g =>
      obtain ⟨h1, h2, _⟩ := after_spec hf
      show (((p.1, g) :: fallL keep torn l).map _).sum ≤ _
      rw [List.map_cons, List.sum_cons]
      simp only [h2, List.length_nil]
      omega
theorem PD.crash_mass (σ : PD) (keep torn : Int) : (σ.crash keep torn).mass ≤ σ.mass := by
  unfold PD.crash
  split
  · exact Nat.le_refl _
  · exact fallL_mass keep torn σ.files
theorem PD.sync_mass (σ : PD) : σ.sync.1.mass ≤ σ.mass := by
  unfold PD.sync
  split
  · exact Nat.le_refl _
  · show ((mapV PF.settled σ.files).map _).sum ≤ (σ.files.map _).sum
    generalize σ.files = l
    induction l with
    | nil => simp [mapV]
    | cons p l ih =>
      show (((p.1, p.2.settled) :: mapV PF.settled l).map _).sum ≤ _
      rw [List.map_cons, List.sum_cons, List.map_cons, List.sum_cons]
      have := p.2.settled_vol
      have h0 : p.2.settled.loose.length = 0 := rfl
      simp only [h0]
      omega
theorem PD.put_mass {σ : PD} (hr : Rises σ.files) (s : ByteArray) (p : ByteArray × Bool) : (σ.put s p).1.mass ≤ σ.mass + 2 + p.1.size := by
  unfold PD.put
  split
  · split
    · show σ.mass ≤ _; omega
    · have h := putS_sum (fun q : ByteArray × PF => 1 + q.2.vol + q.2.loose.length) hr s ((σ.at s).put p)
      have hv := (σ.at s).put_vol p
      have hl : ((σ.at s).put p).loose.length = (σ.at s).loose.length + 1 := by simp [PF.put]
      show ((putS σ.files s ((σ.at s).put p)).map _).sum ≤ (σ.files.map _).sum + 2 + p.1.size
      simp only [hv, hl] at h
      unfold PD.at at h
      cases hg : get σ.files s with
      | none =>
        rw [hg] at h
        have h0 : (PF.mk ByteArray.empty false []).vol = 0 := rfl
        simp only [Option.getD_none, h0, List.length_nil] at h
        unfold PD.at
        rw [hg]
        simp only [Option.getD_none]
        omega
      | some u =>
        rw [hg] at h
        simp only [Option.getD_some] at h
        unfold PD.at
        rw [hg]
        simp only [Option.getD_some]
        omega
  · show σ.mass ≤ _; omega
theorem extract_vol (f : PF) (m : Nat) : (PF.mk (f.now.extract 0 m) true []).vol ≤ f.vol := by
  have h := f.now_size
  show (f.now.extract 0 m).size + 0 ≤ _
  simp only [ByteArray.size_extract]
  omega
theorem PD.there_some {σ : PD} {s : ByteArray} (h : σ.there s = 0) : get σ.files s = some (σ.at s) ∧ nm s = true ∧ σ.power = true := by
  unfold PD.there at h
  by_cases h1 : σ.power = false
  · rw [if_pos h1] at h; cases h
  · rw [if_neg h1] at h
    by_cases h2 : nm s = false
    · rw [if_pos h2] at h; cases h
    · rw [if_neg h2] at h
      unfold PD.at
      cases hg : get σ.files s with
      | none => rw [hg] at h; cases h
      | some u => exact ⟨rfl, by simpa using h2, by simpa using h1⟩
theorem PD.cut_mass {σ : PD} (hr : Rises σ.files) (s : ByteArray) (m : Int) (gone : Bool) : (σ.cut s m gone).1.mass ≤ σ.mass := by
  unfold PD.cut
  split
  · rename_i h0
    obtain ⟨hg, _, _⟩ := PD.there_some h0
    split
    · have h := delL_sum (fun q : ByteArray × PF => 1 + q.2.vol + q.2.loose.length) hr.nodup s
      show ((delL σ.files s).map _).sum ≤ (σ.files.map _).sum
      omega
    · split
      · exact Nat.le_refl _
      · have h := putS_sum (fun q : ByteArray × PF => 1 + q.2.vol + q.2.loose.length) hr s ⟨(σ.at s).now.extract 0 m.toNat, true, []⟩
        have hv := extract_vol (σ.at s) m.toNat
        rw [hg] at h
        show ((putS σ.files s _).map _).sum ≤ (σ.files.map _).sum
        simp only [List.length_nil] at h
        omega
  · exact Nat.le_refl _
theorem PD.move_mass {σ : PD} (hr : Rises σ.files) (s t : ByteArray) : (σ.move s t).1.mass ≤ σ.mass := by
  unfold PD.move
  split
  · rename_i h0
    obtain ⟨hg, _, _⟩ := PD.there_some h0
    split
    · exact Nat.le_refl _
    · split
      · exact Nat.le_refl _
      · rename_i hst
        have h1 := putS_sum (fun q : ByteArray × PF => 1 + q.2.vol + q.2.loose.length) hr t (σ.at s).settled
        have h2 := delL_sum (fun q : ByteArray × PF => 1 + q.2.vol + q.2.loose.length) (hr.putS t (σ.at s).settled).nodup s
        rw [get_putS hr, if_neg (fun e => hst e.symm), hg] at h2
        have hv := (σ.at s).settled_vol
        have hl : (σ.at s).settled.loose.length = 0 := rfl
        show ((delL (putS σ.files t (σ.at s).settled) s).map _).sum ≤ (σ.files.map _).sum
        simp only [hl] at h1
        simp only at h2
        omega
  · exact Nat.le_refl _
theorem PD.next_le (σ : PD) (s t : ByteArray) (p : ByteArray × Bool) (m : Int) (gone : Bool) :
    (σ.put s p).1.next ≤ σ.next + 1 ∧ (σ.cut s m gone).1.next ≤ σ.next + 1 ∧ (σ.move s t).1.next ≤ σ.next + 1 ∧ σ.sync.1.next ≤ σ.next + 1 ∧
    σ.next ≤ (σ.put s p).1.next ∧ σ.next ≤ (σ.cut s m gone).1.next ∧ σ.next ≤ (σ.move s t).1.next ∧ σ.next ≤ σ.sync.1.next := by
  unfold PD.put PD.cut PD.move PD.sync
  refine ⟨?_, ?_, ?_, ?_, ?_, ?_, ?_, ?_⟩ <;> (repeat' split) <;> simp <;> omega
end Go.Proofs.YtcongfiojbajeaaK
