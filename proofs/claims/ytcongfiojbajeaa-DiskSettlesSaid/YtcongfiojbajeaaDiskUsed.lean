/- The disk: Used, Loose: the walks. Conditions: the state is small (Fit). -/
import Derived.Test.YtcongfiojbajeaaDiskMass
namespace Go.Proofs.YtcongfiojbajeaaK
open Go Go.RowKit Go.Maps Go.Proofs.YtcongfiojbajeaaM Go.Proofs.YtcongfiojbajeaaW.PrintWords Go.Proofs.YtcongfiojbajeaaN
variable {lo : Nat}
set_option linter.unusedVariables false
set_option linter.unusedSimpArgs false
theorem keyS (key : Value) (kl : Lit) (h : keyOf Try.prog 9 key = some kl) : ∃ x : ByteArray, key = .string x ∧ kl = ekS x := by
  obtain ⟨s, rfl⟩ := keyOf_string_inv Try.underlying9 h
  refine ⟨s, rfl, ?_⟩
  simp [keyOf, mapKey, Try.underlying9] at h
  first | exact h.symm | exact h.2.symm
/-- A range over the names of a disk, of which no old block has turned. -/
def Ranging (w0 : World) (db mb : Nat) (L : List (ByteArray × FE)) (left : Lit → Bool) (wr : World) : Prop :=
  IsRange Try.prog 9 ekS evP wr mb w0.heap.size (mapV FE.b L) left ∧ Below w0.heap.size w0 wr ∧ w0.heap.size < wr.heap.size
section
variable {w : World} {db mb : Nat} {L : List (ByteArray × FE)} {room next : Int} {power : Bool} {σ : PD}
theorem Ranging.later {w0 w1 w2 : World} {left : Lit → Bool} (h : Ranging w0 db mb L left w1) (hb : Below w1.heap.size w1 w2) : Ranging w0 db mb L left w2 :=
  ⟨h.1.kept (grown_of_below hb none) (by simp) (by simp), h.2.1.trans (hb.mono (Nat.le_of_lt (Nat.lt_of_lt_of_le (Nat.lt_of_le_of_lt (Nat.le_refl _) h.2.2) (Nat.le_refl _)))), Nat.lt_of_lt_of_le h.2.2 hb.size⟩
theorem names_get (L : List (ByteArray × FE)) {x : ByteArray} {b : Nat} (h : get (mapV FE.b L) x = some b) : ∃ e, get L x = some e ∧ b = e.b := by
  rw [mapV_get] at h
  obtain ⟨e, hg, rfl⟩ := Option.map_eq_some_iff.1 h
  exact ⟨e, hg, rfl⟩
theorem used_sum (hL : σ.files = mapV FE.f L) : σ.used = (L.map fun p => p.2.f.now.size).sum := by
  unfold PD.used mapV at *
  rw [hL, List.map_map]; rfl
theorem loose_sum (hL : σ.files = mapV FE.f L) : σ.looseN = (L.map fun p => p.2.f.loose.length).sum := by
  unfold PD.looseN mapV at *
  rw [hL, List.map_map]; rfl
theorem sum_le {α : Type} (f g : α → Nat) (h : ∀ x, f x ≤ g x) (l : List α) : (l.map f).sum ≤ (l.map g).sum := by
  induction l with
  | nil => simp
  | cons a l ih =>
    rw [List.map_cons, List.sum_cons, List.map_cons, List.sum_cons]
    have := h a; omega
theorem used_le (σ : PD) : σ.used ≤ σ.mass := sum_le _ _ (fun p => by have := p.2.now_size; omega) _
theorem loose_le (σ : PD) : σ.looseN ≤ σ.mass := sum_le _ _ (fun p => by omega) _
set_option maxHeartbeats 2000000 in
set_option maxRecDepth 100000 in
theorem used_any (hD : IsDisk lo w db mb L room power next) (hv : ∀ p ∈ L, p.2.f.vol ≤ 1000000 ∧ p.2.f.loose.length ≤ 1000000) (hs : (L.map fun p => p.2.f.now.size).sum ≤ 1000000) :
    Calls Try.prog 17 #[.pointer (some ⟨db, 0, none⟩)] w fun e w' => e = .returned (.int .i64 ((L.map fun p => p.2.f.now.size).sum : Nat)) ∧ Below w.heap.size w w' := by
  have x0 : w.cell? ⟨db, 0, none⟩ = some (.map (some mb)) := cell_in hD.obj.cells 0
  have HD := Lib.hid hD
  have HV := Lib.hid hv
  obtain ⟨T, hT⟩ : ∃ T, T = (L.map fun p => p.2.f.now.size).sum := ⟨_, rfl⟩
  rw [← hT] at hs ⊢
  have HT := Lib.hid hT
  clear hD hv hT
  go_enter Try.func17, Try.ntmps17
  go_wp2_with (first
    | (at_range; refine wpList_range_is _ rfl _ 59 rfl lawS Try.underlying59 rfl HD.out.obj.map ?_; intro w3 left hr3 hl3 hg3 hs3; have H3 := Lib.hid (And.intro hr3 (And.intro hl3 (And.intro hg3 hs3))); clear hr3 hl3 hg3 hs3)
    | go_in)
  have HR : Hid (Ranging w db mb L left w3) := by
    obtain ⟨a1, a2, a3, a4⟩ := H3.out
    exact ⟨a1, pw_below_grown (Below.refl _ _) none (Nat.le_refl _) a3 (by simp), by omega⟩
  have HS0 : Hid (doneSum (fun p => p.2.f.now.size) L left = 0) := doneSum_start _ HD.out.rises.nodup (fun x => by rw [H3.out.2.1 x, mapV_get, Option.isSome_map])
  go_frame
  go_loopw [3, 5] (fun u3 _ wr => ∃ (left : Lit → Bool) (S : Nat), S ≤ T ∧ u3 = .int .i64 S ∧ Hid (S = doneSum (fun p => p.2.f.now.size) L left) ∧ Hid (Ranging w db mb L left wr))
    (fun _ _ wr => wr.rangeLeft mb w.heap.size)
  case atStart => exact ⟨left, 0, by omega, rfl, HS0.out.symm, HR⟩
  case round =>
    obtain ⟨left, S, hST, rfl, HS, HL⟩ := hrel
    go_wp2_with (first
      | (at_next; refine wpList_next_is _ rfl _ rfl lawS Value.string keyS rfl HL.out.1 ?_ ?_)
      | go_in)
    · intro hd
      have he : S = T := by rw [HS.out, HT.out]; exact doneSum_end _ _ hd
      clear HR HS0
      subst he
      go_wp2
      go_ret
      exact ⟨rfl, HL.out.2.1⟩
    · intro x b w4 hget hleft hkey hR hlt hg4 hs4 hen
      obtain ⟨e, hge, rfl⟩ := names_get L hget
      have HB4 := Lib.hid (pw_below_grown HL.out.2.1 (some w.heap.size) HL.out.2.1.size hg4 (fun k hk => by cases hk; exact Nat.le_refl _))
      have HO4 := Lib.hid ((HD.out.below HB4.out).at hge)
      have HR4 := Lib.hid (show Ranging w db mb L (fun z => left z && !z.sameKey (ekS x)) w4 from ⟨hR, HB4.out, by have := HL.out.2.2; omega⟩)
      have HLT := Lib.hid hlt
      have hsz : e.f.now.size ≤ 1000000 := Nat.le_trans (e.f.now_size) ((HV.out _ (get_mem hge)).1)
      have HN := Lib.hid (show doneSum (fun p => p.2.f.now.size) L (fun z => left z && !z.sameKey (ekS x)) = S + e.f.now.size by rw [doneSum_step _ HD.out.rises.nodup hge hleft, ← HS.out])
      have hle : S + e.f.now.size ≤ T := by
        have := doneSum_le (fun p : ByteArray × FE => p.2.f.now.size) L (fun z => left z && !z.sameKey (ekS x))
        rw [HN.out, ← HT.out] at this; exact this
      obtain ⟨A, c, hv, hlc, hC⟩ := Kd.R_reads HO4.out.row
      have HNow := Lib.hid (now_any e.b e.f A c w4 (hv ▸ HO4.out.lies) hC (Nat.le_trans (HV.out _ (get_mem hge)).1 (by decide)) (Nat.le_trans (HV.out _ (get_mem hge)).2 (by decide)))
      clear hget hge hleft hR hlt hg4 hs4 hv hC hlc HR HS0
      go_wp2_with fail
      refine HNow.out.mono ?_
      rintro e' w5 ⟨rfl, hb⟩
      have HR5 := Lib.hid (HR4.out.later hb)
      have HLT5 := Lib.hid (show w5.rangeLeft mb w.heap.size = w4.rangeLeft mb w.heap.size by
        have q1 := HR4.out.1
        have q2 := HR5.out.1
        unfold World.rangeLeft
        rw [hb.block _ q1.isMap.lt, hb.block _ HR4.out.2.2])
      clear hb
      go_wp2
      go_roundw
      case rel => exact ⟨_, S + e.f.now.size, hle, by go_num, HN.out.symm, HR5⟩
      case measure => rw [HLT5.out]; exact HLT.out
end
end Go.Proofs.YtcongfiojbajeaaK
