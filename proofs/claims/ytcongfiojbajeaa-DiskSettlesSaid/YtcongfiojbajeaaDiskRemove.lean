/- The disk: Remove. Conditions: fewer than 1000000000 changes. -/
import Derived.Test.YtcongfiojbajeaaDiskSmall
namespace Go.Proofs.YtcongfiojbajeaaK
open Go Go.RowKit Go.Maps Go.Proofs.YtcongfiojbajeaaM Go.Proofs.YtcongfiojbajeaaW.PrintWords Go.Proofs.YtcongfiojbajeaaN
set_option linter.unusedVariables false
set_option linter.unusedSimpArgs false
theorem ekS_inj (x y : ByteArray) (h : ekS x = ekS y) : x = y := by
  unfold ekS at h
  injection h with h
  cases x; cases y
  congr 1
  exact Array.toList_inj.1 h
theorem ekS_key (x : ByteArray) : WideAt.IsKeyLit (ekS x) := trivial
section
variable {w : World} {db mb : Nat} {names : List (ByteArray × Nat)} {room next : Int} {power : Bool}
theorem Turn.mono {S T : Nat → Prop} {w w' : World} (h : Turn S w w') (hs : ∀ k, S k → T k) : Turn T w w' := ⟨h.os, h.tape, h.output, h.size, fun k hk ht => h.block k hk (fun e => ht (hs k e))⟩
set_option maxRecDepth 100000 in
theorem remove_no (h : IsObj w db mb names room power next) (s : ByteArray) (hs : s.size ≤ 9223372036854775807) (n : Int) (hn : n = 7 ∨ n = 60 ∨ n = 2) (ht : thereA names power s = .tuple #[.pointer none, .int .i64 n]) :
    Calls Try.prog 42 #[.pointer (some ⟨db, 0, none⟩), .string s] w fun e w' => e = .returned (.int .i64 n) ∧ w' = w := by
  have HK := Lib.hid (there_any h s hs)
  rw [ht] at HK
  clear h ht
  rcases hn with rfl | rfl | rfl
  all_goals
    go_enter Try.func42, Try.ntmps42
    go_wp2_with fail
    refine HK.out.mono ?_
    rintro e w1 ⟨rfl, hw⟩
    subst hw
    go_wp2
    go_ret
    exact ⟨rfl, rfl⟩
set_option maxRecDepth 100000 in
theorem remove_yes (h : IsObj w db mb names room power next) (h0 : 0 ≤ next) (h1 : next ≤ 1000000000) (s : ByteArray) (hs : s.size ≤ 9223372036854775807) (b : Nat) (ht : thereA names power s = .tuple #[.pointer (some ⟨b, 0, none⟩), .int .i64 0]) :
    Calls Try.prog 42 #[.pointer (some ⟨db, 0, none⟩), .string s] w fun e w' => e = .returned (.int .i64 0) ∧ IsObj w' db mb (delL names s) room power (next + 1) ∧ Turn (fun k => k = db ∨ k = mb) w w' := by
  have hkey : keyOf Try.prog 9 (.string s) = some (ekS s) := WideMaps.keyOf_string_mk Try.underlying9 (Nat.le_trans hs (by decide))
  have HK := Lib.hid (there_any h s hs)
  have HU := Lib.hid (due_any h h0 h1)
  rw [ht] at HK
  clear h ht h0 h1
  go_enter Try.func42, Try.ntmps42
  go_wp2_with fail
  refine HK.out.mono ?_
  rintro e w1 ⟨rfl, hw⟩
  subst hw
  go_wp2_with fail
  refine HU.out.mono ?_
  rintro e w2 ⟨rfl, ho, ht2⟩
  have x0 : w2.cell? ⟨db, 0, none⟩ = some (.map (some mb)) := cell_in ho.cells 0
  have HO := Lib.hid ho
  have HT := Lib.hid ht2
  clear ho ht2
  go_wp2_with (first
    | (at_delete; refine wpList_delete_is _ rfl _ _ 59 rfl lawS Try.underlying59 rfl HO.out.map ekS_inj s hkey ?_; intro w3 hm3 hg3; have H3 := Lib.hid (And.intro hm3 hg3); clear hm3 hg3)
    | go_in)
  go_ret
  have hne : mb ≠ db := HO.out.map.ne_cells HO.out.cells
  exact ⟨rfl, ⟨blk_grown HO.out.cells H3.out.2 (fun e => hne (by cases e; rfl)), H3.out.1⟩, (HT.out.mono (fun k e => .inl e)).grown H3.out.2 (fun k e => by cases e; exact .inr rfl)⟩
end
end Go.Proofs.YtcongfiojbajeaaK
