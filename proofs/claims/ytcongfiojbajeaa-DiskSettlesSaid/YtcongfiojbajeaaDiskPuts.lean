/- The disk: put over the state; Append, Write. Conditions: the state is small. -/
import Derived.Test.YtcongfiojbajeaaDiskPut
namespace Go.Proofs.YtcongfiojbajeaaK
open Go Go.RowKit Go.Maps Go.Proofs.YtcongfiojbajeaaM Go.Proofs.YtcongfiojbajeaaW.PrintWords Go.Proofs.YtcongfiojbajeaaN
variable {lo : Nat}
set_option linter.unusedVariables false
set_option linter.unusedSimpArgs false
section
variable {w : World} {db mb : Nat} {L : List (ByteArray × FE)} {room next : Int} {σ : PD}
set_option maxRecDepth 100000 in
theorem put_no {power : Bool} (hD : IsDisk lo w db mb L room power next) (s : ByteArray) (hs : s.size ≤ 9223372036854775807) (n : Int) (hn : n = 7 ∨ n = 60) (hlk : lookA (mapV FE.b L) power s = .tuple #[.pointer none, .int .i64 n]) (p : ByteArray × Bool) :
    Calls Try.prog 23 #[.pointer (some ⟨db, 0, none⟩), .string s, .agg #[.string p.1, .bool p.2]] w fun e' w' => e' = .returned (.int .i64 n) ∧ Below w.heap.size w w' := by
  obtain ⟨w1, hw1⟩ : ∃ w1, w.alloc (.cells #[.string p.1, .bool p.2] 58) = w1 := ⟨_, rfl⟩
  have HB1 := Lib.hid (show Below w.heap.size w w1 by rw [← hw1]; exact (Below.refl _ _).alloc (Nat.le_refl _) _)
  have HK := Lib.hid (look_any (hD.below HB1.out).obj s hs)
  rw [hlk] at HK
  clear hD hlk
  rcases hn with rfl | rfl
  all_goals
    go_enter Try.func23, Try.ntmps23
    go_wp2_with fail
    refine HK.out.mono ?_
    rintro e' w2 ⟨rfl, hw⟩
    subst hw
    go_wp2
    go_ret
    exact ⟨rfl, HB1.out⟩
theorem put_d (h : IsD lo w db σ) (hf : σ.Fit) (s : ByteArray) (hs : s.size ≤ 9223372036854775807) (p : ByteArray × Bool) (hp : p.1.size ≤ 1000000) :
    Calls Try.prog 23 #[.pointer (some ⟨db, 0, none⟩), .string s, .agg #[.string p.1, .bool p.2]] w fun e w' => e = .returned (.int .i64 (σ.put s p).2) ∧ IsD lo w' db (σ.put s p).1 ∧ Turned lo w w' := by
  obtain ⟨mb, L, hL, hD⟩ := h
  unfold PD.put
  by_cases hm : σ.may s = 0
  · rw [if_pos hm]
    have hpw : σ.power = true := by
      unfold PD.may at hm
      cases hq : σ.power with
      | true => rfl
      | false => rw [hq, if_pos rfl] at hm; cases hm
    have hnm : nm s = true := by
      unfold PD.may at hm
      rw [if_neg (by rw [hpw]; simp)] at hm
      cases hq : nm s with
      | true => rfl
      | false => rw [hq, if_pos rfl] at hm; cases hm
    have hfa : fileAt L s = σ.at s := by unfold fileAt PD.at; rw [files_get hL]
    have hlen : L.length ≤ 1000000 := by have := hf.len; rw [hL, mapV_len] at this; exact this
    have hD' : IsDisk lo w db mb L σ.room true σ.next := by rw [← hpw]; exact hD
    refine (put_any hD' hf.next0 hf.next1 hf.room hlen (files_small hL hf) (by rw [← used_sum hL]; exact Nat.le_trans (used_le σ) hf.mass) s hs hnm p hp).mono ?_
    rintro e w' ⟨h1, h2⟩
    rw [← used_sum hL, hfa] at h1 h2
    by_cases hfull : full σ.room σ.used (σ.at s).now.size (onP (σ.at s).now p).size
    · have hc : 0 < ((onP (σ.at s).now p).size : Int) - ((σ.at s).now.size : Int) ∧ 0 ≤ σ.room ∧ σ.room - (σ.used : Int) < ((onP (σ.at s).now p).size : Int) - ((σ.at s).now.size : Int) := ⟨by have := hfull.1; omega, hfull.2.1, hfull.2.2⟩
      rw [if_pos hc]
      obtain ⟨he, hb⟩ := h1 hfull
      exact ⟨he, ⟨mb, L, hL, hD.below hb⟩, Turned.of_below hb⟩
    · have hc : ¬ (0 < ((onP (σ.at s).now p).size : Int) - ((σ.at s).now.size : Int) ∧ 0 ≤ σ.room ∧ σ.room - (σ.used : Int) < ((onP (σ.at s).now p).size : Int) - ((σ.at s).now.size : Int)) := fun hh => hfull ⟨by have := hh.1; omega, hh.2.1, hh.2.2⟩
      rw [if_neg hc]
      obtain ⟨he, b', v', hd, ht⟩ := h2 hfull
      refine ⟨he, ⟨mb, _, ?_, by rw [hpw]; exact hd⟩, ht⟩
      show putS σ.files s _ = _
      rw [hL, mapV_putS]
  · rw [if_neg hm]
    have hx : ∃ n : Int, (n = 7 ∨ n = 60) ∧ σ.may s = n ∧ lookA (mapV FE.b L) σ.power s = .tuple #[.pointer none, .int .i64 n] := by
      unfold PD.may lookA at *
      by_cases h1 : σ.power = false
      · rw [if_pos h1, if_pos h1]; exact ⟨7, .inl rfl, rfl, rfl⟩
      · rw [if_neg h1] at hm
        rw [if_neg h1, if_neg h1]
        by_cases h2 : nm s = false
        · rw [if_pos h2, if_pos h2]; exact ⟨60, .inr rfl, rfl, rfl⟩
        · rw [if_neg h2] at hm; exact absurd rfl hm
    obtain ⟨n, hn, e1, e2⟩ := hx
    refine (put_no hD s hs n hn e2 p).mono ?_
    rintro e w' ⟨he, hb⟩
    exact ⟨by rw [he, e1], ⟨mb, L, hL, hD.below hb⟩, Turned.of_below hb⟩
set_option maxRecDepth 100000 in
theorem write_d (h : IsD lo w db σ) (hf : σ.Fit) (s t : ByteArray) (hs : s.size ≤ 9223372036854775807) (ht : t.size ≤ 1000000) :
    Calls Try.prog 7 #[.pointer (some ⟨db, 0, none⟩), .string s, .string t] w fun e w' => e = .returned (.int .i64 (σ.put s (t, true)).2) ∧ IsD lo w' db (σ.put s (t, true)).1 ∧ Turned lo w w' := by
  have HP := Lib.hid (put_d h hf s hs (t, true) ht)
  generalize σ.put s (t, true) = r at HP ⊢
  clear h
  go_enter Try.func7, Try.ntmps7
  go_wp2_with fail
  refine HP.out.mono ?_
  rintro e' w2 ⟨rfl, h1⟩
  have H1 := Lib.hid h1
  clear h1
  go_wp2
  go_ret
  exact ⟨rfl, H1.out⟩
set_option maxRecDepth 100000 in
theorem append_d (h : IsD lo w db σ) (hf : σ.Fit) (s t : ByteArray) (hs : s.size ≤ 9223372036854775807) (ht : t.size ≤ 1000000) :
    Calls Try.prog 8 #[.pointer (some ⟨db, 0, none⟩), .string s, .string t] w fun e w' => e = .returned (.int .i64 (σ.put s (t, false)).2) ∧ IsD lo w' db (σ.put s (t, false)).1 ∧ Turned lo w w' := by
  have HP := Lib.hid (put_d h hf s hs (t, false) ht)
  generalize σ.put s (t, false) = r at HP ⊢
  clear h
  go_enter Try.func8, Try.ntmps8
  go_wp2_with fail
  refine HP.out.mono ?_
  rintro e' w2 ⟨rfl, h1⟩
  have H1 := Lib.hid h1
  clear h1
  go_wp2
  go_ret
  exact ⟨rfl, H1.out⟩
end
end Go.Proofs.YtcongfiojbajeaaK
