/- The disk: Move, where it is done. Conditions: the file named lies in the world, apart from the disk's own blocks. -/
import Derived.Test.YtcongfiojbajeaaDiskTrunc2
namespace Go.Proofs.YtcongfiojbajeaaK
open Go Go.RowKit Go.Maps Go.Proofs.YtcongfiojbajeaaM Go.Proofs.YtcongfiojbajeaaW.PrintWords Go.Proofs.YtcongfiojbajeaaN
set_option linter.unusedVariables false
set_option linter.unusedSimpArgs false
section
variable {w : World} {db mb : Nat} {names : List (ByteArray × Nat)} {room next : Int} {power : Bool}
set_option maxHeartbeats 4000000 in
set_option maxRecDepth 100000 in
theorem move_yes (h : IsObj w db mb names room power next) (h0 : 0 ≤ next) (h1 : next ≤ 1000000000) (hlen : names.length ≤ 1000000) (s t : ByteArray) (hs : s.size ≤ 9223372036854775807) (hts : t.size ≤ 9223372036854775807) (hst : s ≠ t) (hnt : nm t = true) (b : Nat) (f : PF) (ht : thereA names power s = .tuple #[.pointer (some ⟨b, 0, none⟩), .int .i64 0])
    (A : Option Addr) (c : Nat) (hl : Lies w b f (.slice A f.loose.length c)) (hc : Kd.C kP w A f.loose.length f.loose) (hA : ∀ ad, A = some ad → 0 < f.loose.length → ¬ ad.block = db) (hbd : b ≠ db) (hbm : b ≠ mb) (hv : f.vol ≤ 1000000000) (hn : f.loose.length ≤ 1000000000) :
    Calls Try.prog 10 #[.pointer (some ⟨db, 0, none⟩), .string s, .string t] w fun e w' => e = .returned (.int .i64 0) ∧ IsObj w' db mb (delL (setL names t b) s) room power (next + 1) ∧ Lies w' b f.settled (.slice none 0 0) ∧ Turn (fun k => k = db ∨ k = b ∨ k = mb) w w' := by
  have hks : keyOf Try.prog 9 (.string s) = some (ekS s) := WideMaps.keyOf_string_mk Try.underlying9 (Nat.le_trans hs (by decide))
  have hkt : keyOf Try.prog 9 (.string t) = some (ekS t) := WideMaps.keyOf_string_mk Try.underlying9 (Nat.le_trans hts (by decide))
  have hbeq : (s.toList == t.toList) = false := beq_eq_false_iff_ne.2 (fun e => hst (bytes_same e))
  have HK := Lib.hid (there_any h s hs)
  have HM := Lib.hid (fun w => name_any t hts w)
  rw [hnt] at HM
  rw [ht] at HK
  have HO := Lib.hid h
  have HL := Lib.hid hl
  have HC := Lib.hid hc
  have HAd := Lib.hid hA
  have HV := Lib.hid hv
  clear h ht hl hc hA
  go_enter Try.func10, Try.ntmps10
  go_wp2_with fail
  refine HK.out.mono ?_
  rintro e w1 ⟨rfl, hw⟩
  subst hw
  go_wp2_with fail
  refine (HM.out _).mono ?_
  rintro e w2 ⟨rfl, hw⟩
  subst hw
  go_wp2_with fail
  refine (due_any HO.out h0 h1).mono ?_
  rintro e w3 ⟨rfl, ho3, ht3⟩
  have HO3 := Lib.hid ho3
  have HT3 := Lib.hid ht3
  have HL3 := Lib.hid (show Lies w3 b f (.slice A f.loose.length c) from (ht3.block b (blk_lt HL.out) hbd).trans HL.out)
  have HC3 := Lib.hid (c_turn HC.out HAd.out ht3)
  clear ho3 ht3
  go_wp2_with fail
  refine (settle_any b f A c w3 HL3.out HC3.out HV.out hn).mono ?_
  rintro e w4 ⟨rfl, hl4, ht4⟩
  have HO4 := Lib.hid (show IsObj w4 db mb names room power (next + 1) from HO3.out.kept (ht4.block _ (blk_lt HO3.out.cells) (fun e => hbd e.symm)) (ht4.block _ HO3.out.map.lt (fun e => hbm e.symm)))
  have x0 : w4.cell? ⟨db, 0, none⟩ = some (.map (some mb)) := cell_in HO4.out.cells 0
  have HL4 := Lib.hid hl4
  have HT4 := Lib.hid ht4
  have hne : mb ≠ db := HO4.out.map.ne_cells HO4.out.cells
  clear hl4 ht4
  go_wp2_with (first
    | (at_mapUpdate; refine wpList_store_is _ rfl _ _ _ 59 rfl lawS Try.underlying59 rfl HO4.out.map (by unfold maxLen; omega) ekS_inj ekS_key t b hkt rfl ?_; intro w5 hm5 hg5; have H5 := Lib.hid (And.intro hm5 hg5); have HO5 := Lib.hid (show IsObj w5 db mb (setL names t b) room power (next + 1) from ⟨blk_grown HO4.out.cells hg5 (fun e => hne (by cases e; rfl)), hm5⟩); have y0 := cell_in HO5.out.cells 0; clear hm5 hg5)
    | (at_delete; refine wpList_delete_is _ rfl _ _ 59 rfl lawS Try.underlying59 rfl HO5.out.map ekS_inj s hks ?_; intro w6 hm6 hg6; have H6 := Lib.hid (And.intro hm6 hg6); clear hm6 hg6)
    | go_in)
  go_ret
  refine ⟨rfl, ⟨blk_grown HO5.out.cells H6.out.2 (fun e => hne (by cases e; rfl)), H6.out.1⟩, blk_grown (blk_grown HL4.out H5.out.2 (fun e => hbm (by cases e; rfl))) H6.out.2 (fun e => hbm (by cases e; rfl)), ?_⟩
  exact (((HT3.out.mono (fun k e => .inl e)).trans (HT4.out.mono (fun k e => .inr (.inl e)))).grown H5.out.2 (fun k e => by cases e; exact .inr (.inr rfl))).grown H6.out.2 (fun k e => by cases e; exact .inr (.inr rfl))
end
end Go.Proofs.YtcongfiojbajeaaK
