/- What stands through any changes of files: how much there is, the power, the names, the room. Plain laws. -/
import Derived.Test.YtcongfiojbajeaaDiskLawH
namespace Go.Proofs.YtcongfiojbajeaaK
open Go Go.RowKit Go.Maps Go.Proofs.YtcongfiojbajeaaM Go.Proofs.YtcongfiojbajeaaN
set_option linter.unusedVariables false
/-- What a change of files does. -/
noncomputable def PD.step (σ : PD) (k : Int) (nme tn s : ByteArray) (n : Int) : PD × Int :=
  if k = 1 then σ.put nme (few s, true) else if k = 2 then σ.move nme tn else if k = 3 then σ.cut nme (-1) true else if k = 4 then σ.cut nme n false else if k = 5 then σ.sync else σ.put nme (few s, false)
structure PD.Good (σ : PD) (m : Nat) : Prop where
  mass : σ.mass ≤ 62 * m
  next0 : 0 ≤ σ.next
  next1 : σ.next ≤ m
  power : σ.power = true
  names : ∀ p ∈ σ.files, nm p.1 = true
theorem PD.Good.fit {σ : PD} {m : Nat} (h : σ.Good m) (hm : m ≤ 10000) (hr : σ.room ≤ 9223372036854775807) : σ.Fit :=
  ⟨by have := h.mass; omega, hr, h.next0, by have := h.next1; omega⟩
theorem PD.Good.more {σ : PD} {m k : Nat} (h : σ.Good m) (hk : m ≤ k) : σ.Good k :=
  ⟨by have := h.mass; omega, h.next0, by have := h.next1; omega, h.power, h.names⟩
theorem delL_names {l : List (ByteArray × PF)} (h : ∀ p ∈ l, nm p.1 = true) (s : ByteArray) : ∀ p ∈ delL l s, nm p.1 = true := fun p hp => h p (mem_delL hp).1
theorem putS_names {l : List (ByteArray × PF)} (h : ∀ p ∈ l, nm p.1 = true) {s : ByteArray} (hs : nm s = true) (f : PF) : ∀ p ∈ putS l s f, nm p.1 = true := fun p hp => by
  rcases putS_mem hp with rfl | hp
  · exact hs
  · exact h p hp
theorem PD.may_zero {σ : PD} {s : ByteArray} (h : σ.may s = 0) : nm s = true := by
  unfold PD.may at h
  split at h
  · cases h
  · split at h
    · cases h
    · rename_i h2; simpa using h2
def Keeps (σ τ : PD) : Prop := τ.power = σ.power ∧ τ.room = σ.room ∧ ((∀ p ∈ σ.files, nm p.1 = true) → ∀ p ∈ τ.files, nm p.1 = true) ∧ (0 ≤ σ.room → (σ.used : Int) ≤ σ.room → (τ.used : Int) ≤ σ.room)
theorem Keeps.refl (σ : PD) : Keeps σ σ := ⟨rfl, rfl, fun h => h, fun _ h => h⟩
theorem put_keeps (σ : PD) (hr : Rises σ.files) (s : ByteArray) (p : ByteArray × Bool) : Keeps σ (σ.put s p).1 := by
  unfold PD.put
  split
  · rename_i hm
    split
    · exact Keeps.refl σ
    · rename_i hf
      refine ⟨rfl, rfl, fun h => putS_names h (PD.may_zero hm) _, fun h0 hu => ?_⟩
      have h := putS_sum (fun q : ByteArray × PF => q.2.now.size) hr s ((σ.at s).put p)
      simp only [PF.put_now] at h
      show ((((putS σ.files s ((σ.at s).put p)).map fun q => q.2.now.size).sum : Nat) : Int) ≤ σ.room
      have hu' : (((σ.files.map fun q => q.2.now.size).sum : Nat) : Int) ≤ σ.room := hu
      have hU : (σ.used : Int) = ((σ.files.map fun q => q.2.now.size).sum : Nat) := rfl
      rw [hU] at hf
      unfold PD.at at h hf
      unfold PD.at
      cases hg : get σ.files s with
      | none =>
        rw [hg] at h hf
        have e0 : (PF.mk ByteArray.empty false []).now.size = 0 := rfl
        simp only [Option.getD_none, e0] at h hf ⊢
        omega
      | some u =>
        rw [hg] at h hf
        simp only [Option.getD_some] at h hf ⊢
        omega
  · exact Keeps.refl σ
theorem cut_keeps (σ : PD) (hr : Rises σ.files) (s : ByteArray) (m : Int) (gone : Bool) : Keeps σ (σ.cut s m gone).1 := by
  unfold PD.cut
  split
  · rename_i h0
    obtain ⟨hg, hs, _⟩ := PD.there_some h0
    split
    · refine ⟨rfl, rfl, fun h => delL_names h _, fun _ hu => ?_⟩
      have h := delL_sum (fun q : ByteArray × PF => q.2.now.size) hr.nodup s
      have hu' : (((σ.files.map fun q => q.2.now.size).sum : Nat) : Int) ≤ σ.room := hu
      show ((((delL σ.files s).map fun q => q.2.now.size).sum : Nat) : Int) ≤ σ.room
      omega
    · split
      · exact Keeps.refl σ
      · refine ⟨rfl, rfl, fun h => putS_names h hs _, fun _ hu => ?_⟩
        have h := putS_sum (fun q : ByteArray × PF => q.2.now.size) hr s ⟨(σ.at s).now.extract 0 m.toNat, true, []⟩
        have hu' : (((σ.files.map fun q => q.2.now.size).sum : Nat) : Int) ≤ σ.room := hu
        have hv : (PF.mk ((σ.at s).now.extract 0 m.toNat) true []).now.size ≤ (σ.at s).now.size := by
          show ((σ.at s).now.extract 0 m.toNat).size ≤ _
          simp only [ByteArray.size_extract]; omega
        rw [hg] at h
        show ((((putS σ.files s _).map fun q => q.2.now.size).sum : Nat) : Int) ≤ σ.room
        simp only at h
        omega
  · exact Keeps.refl σ
theorem move_keeps (σ : PD) (hr : Rises σ.files) (s t : ByteArray) : Keeps σ (σ.move s t).1 := by
  unfold PD.move
  split
  · rename_i h0
    obtain ⟨hg, hs, _⟩ := PD.there_some h0
    split
    · exact Keeps.refl σ
    · rename_i hnt
      split
      · exact Keeps.refl σ
      · rename_i hst
        refine ⟨rfl, rfl, fun h => delL_names (putS_names h (by simpa using hnt) _) _, fun _ hu => ?_⟩
        have h1 := putS_sum (fun q : ByteArray × PF => q.2.now.size) hr t (σ.at s).settled
        have h2 := delL_sum (fun q : ByteArray × PF => q.2.now.size) (hr.putS t (σ.at s).settled).nodup s
        rw [get_putS hr, if_neg (fun e => hst e.symm), hg] at h2
        have hu' : (((σ.files.map fun q => q.2.now.size).sum : Nat) : Int) ≤ σ.room := hu
        have hv : (σ.at s).settled.now.size = (σ.at s).now.size := rfl
        show ((((delL (putS σ.files t (σ.at s).settled) s).map fun q => q.2.now.size).sum : Nat) : Int) ≤ σ.room
        simp only [hv] at h1
        simp only at h2
        omega
  · exact Keeps.refl σ
theorem sync_keeps (σ : PD) : Keeps σ σ.sync.1 := by
  unfold PD.sync
  split
  · exact Keeps.refl σ
  · refine ⟨rfl, rfl, fun h p hp => ?_, fun _ hu => ?_⟩
    · obtain ⟨q, hq, rfl⟩ := List.mem_map.1 (show p ∈ σ.files.map fun p => (p.1, p.2.settled) from hp)
      exact h q hq
    · have e : ∀ l : List (ByteArray × PF), ((mapV PF.settled l).map fun q => q.2.now.size).sum = (l.map fun q => q.2.now.size).sum := fun l => by
        unfold mapV; rw [List.map_map]; rfl
      show ((((mapV PF.settled σ.files).map fun q => q.2.now.size).sum : Nat) : Int) ≤ σ.room
      rw [e]; exact hu
theorem step_good {σ : PD} {m : Nat} (hg : σ.Good m) (hr : Rises σ.files) (k : Int) (nme tn s : ByteArray) (n : Int) : (σ.step k nme tn s n).1.Good (m + 1) ∧ Keeps σ (σ.step k nme tn s n).1 := by
  have key : ∀ τ : PD, τ.mass ≤ σ.mass + 62 → τ.next ≤ σ.next + 1 → σ.next ≤ τ.next → Keeps σ τ → τ.Good (m + 1) ∧ Keeps σ τ := fun τ h1 h2 h3 hk =>
    ⟨⟨by have := hg.mass; omega, by have := hg.next0; omega, by have := hg.next1; omega, by rw [hk.1]; exact hg.power, hk.2.2.1 hg.names⟩, hk⟩
  have hf := few_size s
  unfold PD.step
  split
  · exact key _ (Nat.le_trans (PD.put_mass hr _ _) (by show _ + 2 + (few s).size ≤ _; omega)) (σ.next_le nme tn (few s, true) 0 true).1 (σ.next_le nme tn (few s, true) 0 true).2.2.2.2.1 (put_keeps σ hr _ _)
  · split
    · exact key _ (Nat.le_trans (PD.move_mass hr _ _) (by omega)) (σ.next_le nme tn (few s, true) 0 true).2.2.1 (σ.next_le nme tn (few s, true) 0 true).2.2.2.2.2.2.1 (move_keeps σ hr _ _)
    · split
      · exact key _ (Nat.le_trans (PD.cut_mass hr _ _ _) (by omega)) (σ.next_le nme tn (few s, true) (-1) true).2.1 (σ.next_le nme tn (few s, true) (-1) true).2.2.2.2.2.1 (cut_keeps σ hr _ _ _)
      · split
        · exact key _ (Nat.le_trans (PD.cut_mass hr _ _ _) (by omega)) (σ.next_le nme tn (few s, true) n false).2.1 (σ.next_le nme tn (few s, true) n false).2.2.2.2.2.1 (cut_keeps σ hr _ _ _)
        · split
          · exact key _ (Nat.le_trans (PD.sync_mass σ) (by omega)) (σ.next_le nme tn (few s, true) n false).2.2.2.1 (σ.next_le nme tn (few s, true) n false).2.2.2.2.2.2.2 (sync_keeps σ)
          · exact key _ (Nat.le_trans (PD.put_mass hr _ _) (by show _ + 2 + (few s).size ≤ _; omega)) (σ.next_le nme tn (few s, false) 0 true).1 (σ.next_le nme tn (few s, false) 0 true).2.2.2.2.1 (put_keeps σ hr _ _)
end Go.Proofs.YtcongfiojbajeaaK
