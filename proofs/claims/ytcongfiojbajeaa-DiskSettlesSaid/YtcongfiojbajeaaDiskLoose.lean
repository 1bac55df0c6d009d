/- The disk: Loose; Used and Loose over the state. Conditions: the state is small (Fit). -/
import Derived.Test.YtcongfiojbajeaaDiskUsed
namespace Go.Proofs.YtcongfiojbajeaaK
open Go Go.RowKit Go.Maps Go.Proofs.YtcongfiojbajeaaM Go.Proofs.YtcongfiojbajeaaW.PrintWords Go.Proofs.YtcongfiojbajeaaN
variable {lo : Nat}
set_option linter.unusedVariables false
set_option linter.unusedSimpArgs false
section
variable {w : World} {db mb : Nat} {L : List (ByteArray × FE)} {room next : Int} {power : Bool} {σ : PD}
theorem files_small (hL : σ.files = mapV FE.f L) (hf : σ.Fit) : ∀ p ∈ L, p.2.f.vol ≤ 1000000 ∧ p.2.f.loose.length ≤ 1000000 := fun p hp => by
  have := hf.file (p := (p.1, p.2.f)) (by rw [hL]; exact List.mem_map.2 ⟨p, hp, rfl⟩)
  exact this
theorem used_d (h : IsD lo w db σ) (hf : σ.Fit) : Calls Try.prog 17 #[.pointer (some ⟨db, 0, none⟩)] w fun e w' => e = .returned (.int .i64 (σ.used : Nat)) ∧ Below w.heap.size w w' := by
  obtain ⟨mb, L, hL, hD⟩ := h
  rw [used_sum hL]
  exact used_any hD (files_small hL hf) (by rw [← used_sum hL]; exact Nat.le_trans (used_le σ) hf.mass)
set_option maxHeartbeats 2000000 in
set_option maxRecDepth 100000 in
theorem loose_any (hD : IsDisk lo w db mb L room power next) (hs : (L.map fun p => p.2.f.loose.length).sum ≤ 1000000) :
    Calls Try.prog 34 #[.pointer (some ⟨db, 0, none⟩)] w fun e w' => e = .returned (.int .i64 ((L.map fun p => p.2.f.loose.length).sum : Nat)) ∧ Below w.heap.size w w' := by
  have x0 : w.cell? ⟨db, 0, none⟩ = some (.map (some mb)) := cell_in hD.obj.cells 0
  have HD := Lib.hid hD
  obtain ⟨T, hT⟩ : ∃ T, T = (L.map fun p => p.2.f.loose.length).sum := ⟨_, rfl⟩
  rw [← hT] at hs ⊢
  have HT := Lib.hid hT
  clear hD hT
  go_enter Try.func34, Try.ntmps34
  go_wp2_with (first
    | (at_range; refine wpList_range_is _ rfl _ 59 rfl lawS Try.underlying59 rfl HD.out.obj.map ?_; intro w3 left hr3 hl3 hg3 hs3; have H3 := Lib.hid (And.intro hr3 (And.intro hl3 (And.intro hg3 hs3))); clear hr3 hl3 hg3 hs3)
    | go_in)
  have HR : Hid (Ranging w db mb L left w3) := by
    obtain ⟨a1, a2, a3, a4⟩ := H3.out
    exact ⟨a1, pw_below_grown (Below.refl _ _) none (Nat.le_refl _) a3 (by simp), by omega⟩
  have HS0 : Hid (doneSum (fun p => p.2.f.loose.length) L left = 0) := doneSum_start _ HD.out.rises.nodup (fun x => by rw [H3.out.2.1 x, mapV_get, Option.isSome_map])
  go_frame
  go_loopw [3, 5] (fun u3 _ wr => ∃ (left : Lit → Bool) (S : Nat), S ≤ T ∧ u3 = .int .i64 S ∧ Hid (S = doneSum (fun p => p.2.f.loose.length) L left) ∧ Hid (Ranging w db mb L left wr))
    (fun _ _ wr => wr.rangeLeft mb w.heap.size)
  case atStart => exact ⟨left, 0, by omega, rfl, HS0.out.symm, HR⟩
  case round =>
    obtain ⟨left, S, hST, rfl, HS, HL⟩ := hrel
    go_wp2_with (first
      | (at_next; refine wpList_next_is _ rfl _ rfl lawS Value.string keyS rfl HL.out.1 ?_ ?_)
      | go_in)
    · intro hd
      have he : S = T := by rw [HS.out, HT.out]; exact doneSum_end _ _ hd
      clear HR HS0
      subst he
      go_wp2
      go_ret
      exact ⟨rfl, HL.out.2.1⟩
    · intro x b w4 hget hleft hkey hR hlt hg4 hs4 hen
      obtain ⟨e, hge, rfl⟩ := names_get L hget
      have HB4 := Lib.hid (pw_below_grown HL.out.2.1 (some w.heap.size) HL.out.2.1.size hg4 (fun k hk => by cases hk; exact Nat.le_refl _))
      have HO4 := Lib.hid ((HD.out.below HB4.out).at hge)
      have HR4 := Lib.hid (show Ranging w db mb L (fun z => left z && !z.sameKey (ekS x)) w4 from ⟨hR, HB4.out, by have := HL.out.2.2; omega⟩)
      have HLT := Lib.hid hlt
      have HN := Lib.hid (show doneSum (fun p => p.2.f.loose.length) L (fun z => left z && !z.sameKey (ekS x)) = S + e.f.loose.length by rw [doneSum_step _ HD.out.rises.nodup hge hleft, ← HS.out])
      have hle : S + e.f.loose.length ≤ T := by
        have := doneSum_le (fun p : ByteArray × FE => p.2.f.loose.length) L (fun z => left z && !z.sameKey (ekS x))
        rw [HN.out, ← HT.out] at this; exact this
      obtain ⟨A, c, hv, hlc, hC⟩ := Kd.R_reads HO4.out.row
      have x2 : w4.cell? ⟨e.b, 2, none⟩ = some (.slice A e.f.loose.length c) := by
        have := cell_in HO4.out.lies 2
        rw [this, hv]; rfl
      clear hget hge hleft hR hlt hg4 hs4 hv hC hlc HR HS0
      unfold evP at hen ⊢
      go_wp2
      go_roundw
      case rel => exact ⟨_, S + e.f.loose.length, hle, by go_num, HN.out.symm, HR4⟩
      case measure => exact HLT.out
theorem loose_d (h : IsD lo w db σ) (hf : σ.Fit) : Calls Try.prog 34 #[.pointer (some ⟨db, 0, none⟩)] w fun e w' => e = .returned (.int .i64 (σ.looseN : Nat)) ∧ Below w.heap.size w w' := by
  obtain ⟨mb, L, hL, hD⟩ := h
  rw [loose_sum hL]
  exact loose_any hD (by rw [← loose_sum hL]; exact Nat.le_trans (loose_le σ) hf.mass)
end
end Go.Proofs.YtcongfiojbajeaaK
