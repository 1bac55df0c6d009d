/- What was settled is there behind any loss of power: the plain law. Conditions: the power is on, there is room for all. -/
import Derived.Test.YtcongfiojbajeaaDiskMass
namespace Go.Proofs.YtcongfiojbajeaaK
open Go Go.RowKit Go.Maps Go.Proofs.YtcongfiojbajeaaM Go.Proofs.YtcongfiojbajeaaW.PrintWords Go.Proofs.YtcongfiojbajeaaN
set_option linter.unusedVariables false
set_option linter.unusedSimpArgs false
def bOwn : ByteArray := ⟨#[111, 119, 110]⟩
def bOther : ByteArray := ⟨#[111, 116, 104, 101, 114, 33]⟩
def bLoose : ByteArray := ⟨#[108, 111, 111, 115, 101]⟩
def bTen : ByteArray := ⟨#[48, 49, 50, 51, 52, 53, 54, 55, 56, 57]⟩
def bAbc : ByteArray := ⟨#[97, 98, 99]⟩
def bX : ByteArray := ⟨#[120]⟩
def bAll : ByteArray := ⟨#[48, 49, 50, 51, 52, 53, 54, 55, 56, 57, 97, 98, 99]⟩
theorem nm_own : nm bOwn = true := by
  rw [nm_good (fun k hk => ?_)]
  · rfl
  · have hk : k < 3 := hk
    rcases (by omega : k = 0 ∨ k = 1 ∨ k = 2) with rfl | rfl | rfl <;> decide
theorem nm_other : nm bOther = true := by
  rw [nm_good (fun k hk => ?_)]
  · rfl
  · have hk : k < 6 := hk
    rcases (by omega : k = 0 ∨ k = 1 ∨ k = 2 ∨ k = 3 ∨ k = 4 ∨ k = 5) with rfl | rfl | rfl | rfl | rfl | rfl <;> decide
theorem nm_loose : nm bLoose = true := by
  rw [nm_good (fun k hk => ?_)]
  · rfl
  · have hk : k < 5 := hk
    rcases (by omega : k = 0 ∨ k = 1 ∨ k = 2 ∨ k = 3 ∨ k = 4) with rfl | rfl | rfl | rfl | rfl <;> decide
/-- The power is on, there is room for all. -/
structure PD.Free (σ : PD) : Prop where
  rises : Rises σ.files
  power : σ.power = true
  room : σ.room = -1
theorem PD.Free.may {σ : PD} (h : σ.Free) {s : ByteArray} (hs : nm s = true) : σ.may s = 0 := by
  unfold PD.may
  rw [if_neg (by rw [h.power]; simp), if_neg (by rw [hs]; simp)]
theorem PD.Free.put_is {σ : PD} (h : σ.Free) {s : ByteArray} (hs : nm s = true) (p : ByteArray × Bool) : σ.put s p = ({ σ with files := putS σ.files s ((σ.at s).put p), next := σ.next + 1 }, 0) := by
  unfold PD.put
  rw [if_pos (h.may hs), if_neg (fun hh => by have := hh.2.1; rw [h.room] at this; omega)]
theorem PD.Free.put {σ : PD} (h : σ.Free) {s : ByteArray} (p : ByteArray × Bool) : (σ.put s p).1.Free := by
  unfold PD.put
  split
  · split
    · exact h
    · exact ⟨h.rises.putS _ _, h.power, h.room⟩
  · exact h
theorem PD.Free.cut {σ : PD} (h : σ.Free) (s : ByteArray) (m : Int) (gone : Bool) : (σ.cut s m gone).1.Free := by
  unfold PD.cut
  split
  · split
    · exact ⟨h.rises.delL _, h.power, h.room⟩
    · split
      · exact h
      · exact ⟨h.rises.putS _ _, h.power, h.room⟩
  · exact h
theorem PD.Free.move {σ : PD} (h : σ.Free) (s t : ByteArray) : (σ.move s t).1.Free := by
  unfold PD.move
  split
  · split
    · exact h
    · split
      · exact h
      · exact ⟨(h.rises.putS _ _).delL _, h.power, h.room⟩
  · exact h
theorem PD.Free.sync {σ : PD} (h : σ.Free) : σ.sync.1.Free := by
  unfold PD.sync
  split
  · exact h
  · exact ⟨(mapV_rises _ _).2 h.rises, h.power, h.room⟩
theorem PD.Free.put_at {σ : PD} (h : σ.Free) {s : ByteArray} (hs : nm s = true) (p : ByteArray × Bool) (x : ByteArray) : get (σ.put s p).1.files x = if s = x then some ((σ.at s).put p) else get σ.files x := by
  rw [h.put_is hs p]
  exact get_putS h.rises _ _ _
theorem PD.Free.there {σ : PD} (h : σ.Free) {s : ByteArray} (hs : nm s = true) {f : PF} (hg : get σ.files s = some f) : σ.there s = 0 ∧ σ.at s = f := by
  unfold PD.there PD.at
  rw [if_neg (by rw [h.power]; simp), if_neg (by rw [hs]; simp), hg]
  exact ⟨rfl, rfl⟩
/-- A file of its own bytes alone, made sure. -/
def fAll : PF := ⟨bAll, true, []⟩
/-- The state behind the two that are put. -/
noncomputable def PD.own2 (σ : PD) : PD := ((σ.put bOwn (bTen, true)).1.put bOwn (bAbc, false)).1
theorem own2_get {σ : PD} (h : σ.Free) : ∃ f, get σ.own2.files bOwn = some f ∧ f.now = bAll := by
  refine ⟨((σ.at bOwn).put (bTen, true)).put (bAbc, false), ?_, ?_⟩
  · unfold PD.own2
    rw [(h.put (bTen, true)).put_at nm_own, if_pos rfl]
    congr 2
    unfold PD.at
    rw [h.put_at nm_own, if_pos rfl]
    rfl
  · rw [PF.put_now, PF.put_now]
    rfl
theorem own2_free {σ : PD} (h : σ.Free) : σ.own2.Free := (h.put _).put _
theorem own2_told {σ : PD} (h : σ.Free) : (σ.put bOwn (bTen, true)).2 = 0 ∧ ((σ.put bOwn (bTen, true)).1.put bOwn (bAbc, false)).2 = 0 := by
  rw [(h.put (s := bOwn) (bTen, true)).put_is nm_own, h.put_is nm_own]
  exact ⟨rfl, rfl⟩
/-- Three ways to make it sure. -/
theorem sync_told {σ : PD} (h : σ.Free) {f : PF} (hg : get σ.files bOwn = some f) (hf : f.now = bAll) : σ.sync.2 = 0 ∧ get σ.sync.1.files bOwn = some fAll := by
  unfold PD.sync
  rw [if_neg (by rw [h.power]; simp)]
  refine ⟨rfl, ?_⟩
  show get (mapV PF.settled σ.files) bOwn = _
  rw [mapV_get, hg]
  show some f.settled = _
  unfold PF.settled
  rw [hf]; rfl
theorem move_told {σ : PD} (h : σ.Free) {f : PF} (hg : get σ.files bOwn = some f) (hf : f.now = bAll) : (σ.move bOwn bOther).2 = 0 ∧ get (σ.move bOwn bOther).1.files bOther = some fAll := by
  obtain ⟨h1, h2⟩ := h.there nm_own hg
  unfold PD.move
  rw [if_pos h1, if_neg (by rw [nm_other]; simp), if_neg (by decide), h2]
  refine ⟨rfl, ?_⟩
  show get (delL (putS σ.files bOther f.settled) bOwn) bOther = _
  rw [get_delL, if_neg (by decide), get_putS h.rises, if_pos rfl]
  unfold PF.settled
  rw [hf]; rfl
theorem cut_told {σ : PD} (h : σ.Free) {f : PF} (hg : get σ.files bOwn = some f) (hf : f.now = bAll) : (σ.cut bOwn 13 false).2 = 0 ∧ get (σ.cut bOwn 13 false).1.files bOwn = some fAll := by
  obtain ⟨h1, h2⟩ := h.there nm_own hg
  unfold PD.cut
  rw [if_pos h1, if_neg (by simp), h2, hf, if_neg (by decide)]
  refine ⟨rfl, ?_⟩
  show get (putS σ.files bOwn _) bOwn = _
  rw [get_putS h.rises, if_pos rfl]
  rfl
/-- Behind one more, loose, and a loss of power. -/
theorem settled_stays {σ : PD} (h : σ.Free) {n : ByteArray} (hn : nm n = true) (hne : bLoose ≠ n) (hg : get σ.files n = some fAll) (keep torn : Int) :
    (σ.put bLoose (bX, false)).2 = 0 ∧ ({ (σ.put bLoose (bX, false)).1.crash keep torn with power := true } : PD).read n = (bAll, 0) := by
  have h4 : (σ.put bLoose (bX, false)).1.Free := h.put _
  have g4 : get (σ.put bLoose (bX, false)).1.files n = some fAll := by rw [h.put_at nm_loose, if_neg hne]; exact hg
  refine ⟨by rw [h.put_is nm_loose], ?_⟩
  generalize (σ.put bLoose (bX, false)).1 = τ at h4 g4
  have hc : τ.crash keep torn = { τ with files := fallL keep torn τ.files, power := false } := by
    unfold PD.crash
    rw [if_neg (by rw [h4.power]; simp)]
  rw [hc]
  have ha : fAll.after keep torn = some fAll := by
    have e1 : fAll.kept keep = 0 := by unfold PF.kept; show min _ 0 = 0; omega
    have e2 : fAll.fallen 0 torn = fAll := by
      unfold PF.fallen
      rw [dif_neg (fun hh => by have := hh.1; exact absurd this (by decide))]
      rfl
    unfold PF.after
    rw [e1, e2]
    rfl
  have g5 : get (fallL keep torn τ.files) n = some fAll := by rw [fallL_get h4.rises.nodup, g4, Option.bind_some, ha]
  have h6 : PD.Free { ({ τ with files := fallL keep torn τ.files, power := false } : PD) with power := true } := ⟨fallL_rises h4.rises, rfl, h4.room⟩
  obtain ⟨t1, t2⟩ := h6.there hn g5
  unfold PD.read
  rw [if_pos t1, t2]
  rfl
end Go.Proofs.YtcongfiojbajeaaK
