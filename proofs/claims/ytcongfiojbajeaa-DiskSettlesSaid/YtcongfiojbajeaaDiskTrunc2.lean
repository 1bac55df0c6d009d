/- The disk: Truncate, where it is done. Conditions: the file named lies in the world, apart from the disk's own blocks. -/
import Derived.Test.YtcongfiojbajeaaDiskTrunc
namespace Go.Proofs.YtcongfiojbajeaaK
open Go Go.RowKit Go.Maps Go.Proofs.YtcongfiojbajeaaM Go.Proofs.YtcongfiojbajeaaW.PrintWords Go.Proofs.YtcongfiojbajeaaN
set_option linter.unusedVariables false
set_option linter.unusedSimpArgs false
theorem c_turn {S : Nat → Prop} {w w' : World} {A : Option Addr} {n : Nat} {l : List (ByteArray × Bool)} (h : Kd.C kP w A n l) (hf : ∀ ad, A = some ad → 0 < n → ¬ S ad.block) (ht : Turn S w w') : Kd.C kP w' A n l :=
  ⟨h.1, h.2.1, fun hn => by
    obtain ⟨ad, he, hc⟩ := h.2.2 hn
    refine ⟨ad, he, fun j p hj => ?_⟩
    obtain ⟨cs, h1, h2, h3⟩ := hc j p hj
    refine ⟨cs, h1, h2, fun i u hu => ?_⟩
    have hx := h3 i u hu
    have hlt := World.block_lt_of_cell? w _ hx
    rw [← hx]
    exact World.cell?_of_block (w := w) (ht.block _ hlt (by rw [add_block]; exact hf ad he hn))⟩
section
variable {w : World} {db mb : Nat} {names : List (ByteArray × Nat)} {room next : Int} {power : Bool}
set_option maxHeartbeats 2000000 in
set_option maxRecDepth 100000 in
theorem trunc_yes (h : IsObj w db mb names room power next) (h0 : 0 ≤ next) (h1 : next ≤ 1000000000) (s : ByteArray) (hs : s.size ≤ 9223372036854775807) (m : Nat) (b : Nat) (f : PF) (ht : thereA names power s = .tuple #[.pointer (some ⟨b, 0, none⟩), .int .i64 0])
    (A : Option Addr) (c : Nat) (hl : Lies w b f (.slice A f.loose.length c)) (hc : Kd.C kP w A f.loose.length f.loose) (hA : ∀ ad, A = some ad → 0 < f.loose.length → ¬ ad.block = db) (hbd : b ≠ db) (hbm : b ≠ mb) (hv : f.vol ≤ 1000000000) (hn : f.loose.length ≤ 1000000000) (hm : m ≤ f.now.size) :
    Calls Try.prog 11 #[.pointer (some ⟨db, 0, none⟩), .string s, .int .i64 m] w fun e w' => e = .returned (.int .i64 0) ∧ IsObj w' db mb names room power (next + 1) ∧ Lies w' b ⟨f.now.extract 0 m, true, []⟩ (.slice none 0 0) ∧ Turn (fun k => k = db ∨ k = b) w w' := by
  have HK := Lib.hid (there_any h s hs)
  have HN := Lib.hid (now_any b f A c w hl hc hv hn)
  rw [ht] at HK
  have HO := Lib.hid h
  have HL := Lib.hid hl
  have HC := Lib.hid hc
  have HAd := Lib.hid hA
  have HV := Lib.hid hv
  have d1 : decide ((m : Int) < 0) = false := decide_eq_false (by omega)
  have d2 : decide ((f.now.size : Int) < (m : Int)) = false := decide_eq_false (by omega)
  have d3 : (0 ≤ (m : Int)) = True := eq_true (by omega)
  have d4 : ((m : Int) ≤ (f.now.size : Int)) = True := eq_true (by omega)
  clear h ht hl hc hA
  go_enter Try.func11, Try.ntmps11
  go_wp2_with fail
  refine HK.out.mono ?_
  rintro e w1 ⟨rfl, hw⟩
  subst hw
  go_wp2_with fail
  refine HN.out.mono ?_
  rintro e w2 ⟨rfl, hb⟩
  have HB := Lib.hid hb
  have HO2 := Lib.hid (HO.out.below hb)
  clear hb
  go_wp2_with fail
  refine (due_any HO2.out h0 h1).mono ?_
  rintro e w3 ⟨rfl, ho3, ht3⟩
  have HO3 := Lib.hid ho3
  have HT3 := Lib.hid ht3
  have hl2 : Lies w2 b f (.slice A f.loose.length c) := (HB.out.block b (blk_lt HL.out)).trans HL.out
  have HL3 := Lib.hid (show Lies w3 b f (.slice A f.loose.length c) from (ht3.block b (blk_lt hl2) hbd).trans hl2)
  have HC3 := Lib.hid (c_turn (Kd.C_below HC.out HB.out) HAd.out ht3)
  clear ho3 ht3 hl2
  go_wp2_with fail
  refine (settle_any b f A c w3 HL3.out HC3.out HV.out hn).mono ?_
  rintro e w4 ⟨rfl, hl4, ht4⟩
  have x0 : w4.cell? ⟨b, 0, none⟩ = some (.string f.now) := cell_in hl4 0
  have fz := free_in hl4
  have HL4 := Lib.hid hl4
  have HT4 := Lib.hid ht4
  clear hl4 ht4
  go_wp2_with fail
  go_ret
  refine ⟨rfl, ?_, blk_set HL4.out 0 _, ?_⟩
  · have q : IsObj w4 db mb names room power (next + 1) := HO3.out.kept (HT4.out.block _ (blk_lt HO3.out.cells) (fun e => hbd e.symm)) (HT4.out.block _ HO3.out.map.lt (fun e => hbm e.symm))
    exact q.kept (Below.heap_setCell _ _ _ _ (fun e => hbd e.symm)) (Below.heap_setCell _ _ _ _ (fun e => hbm e.symm))
  · have t2 : Turn (fun k => k = db ∨ k = b) _ w2 := Turn.of_below HB.out
    exact ((t2.trans (HT3.out.mono (fun k e => .inl e))).trans (HT4.out.mono (fun k e => .inr e))).setCell (p := ⟨b, 0, none⟩) (.inr rfl) _
end
end Go.Proofs.YtcongfiojbajeaaK
