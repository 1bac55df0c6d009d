/- The disk as it lies, and its reads: Dead, look. Conditions: the names' map has names in it. -/
import Derived.Test.YtcongfiojbajeaaDiskFall
import Derived.Test.YtcongfiojbajeaaDiskName
import Derived.WalkSpells
import Derived.StringKeys
import Derived.Sort.MapsRangeIn
namespace Go.Proofs.YtcongfiojbajeaaK
open Go Go.RowKit Go.Maps Go.Proofs.YtcongfiojbajeaaM Go.Proofs.YtcongfiojbajeaaW.PrintWords Go.Proofs.YtcongfiojbajeaaN
set_option linter.unusedVariables false
set_option linter.unusedSimpArgs false
def ekS (s : ByteArray) : Lit := .string s.data.toList
def evP (b : Nat) : Value := .pointer (some ⟨b, 0, none⟩)
theorem lawS : Keyed Try.prog 9 := string_keyed Try.underlying9
theorem zeroP (w : World) : (zeroValue 62).run Try.prog w = .ok (.pointer none) w := by kernel_rfl
/-- The disk's object: its block, its map's block, what the map holds. -/
structure IsObj (w : World) (db mb : Nat) (names : List (ByteArray × Nat)) (room : Int) (power : Bool) (next : Int) : Prop where
  cells : w.heap[db]? = some (.cells #[.map (some mb), .int .i64 room, .bool power, .int .i64 next, .slice none 0 0] 61 (0, 0))
  map : IsMap Try.prog 9 ekS evP w mb names
section
variable {w : World} {db mb : Nat} {names : List (ByteArray × Nat)} {room next : Int} {power : Bool}
theorem IsObj.kept {w' : World} (h : IsObj w db mb names room power next) (hd : w'.heap[db]? = w.heap[db]?) (hm : w'.heap[mb]? = w.heap[mb]?) : IsObj w' db mb names room power next := ⟨hd.trans h.cells, h.map.heap hm⟩
theorem IsObj.below {w' : World} (h : IsObj w db mb names room power next) (hb : Below w.heap.size w w') : IsObj w' db mb names room power next := h.kept (hb.block _ (blk_lt h.cells)) (hb.block _ h.map.lt)
set_option maxRecDepth 100000 in
theorem dead_any (h : IsObj w db mb names room power next) : Calls Try.prog 24 #[.pointer (some ⟨db, 0, none⟩)] w fun e w' => e = .returned (.bool (!power)) ∧ w' = w := by
  have x2 : w.cell? ⟨db, 2, none⟩ = some (.bool power) := cell_in h.cells 2
  clear h
  go_enter Try.func24, Try.ntmps24
  go_wp2
  go_ret
  exact ⟨rfl, rfl⟩
/-- What look answers. -/
noncomputable def lookA (names : List (ByteArray × Nat)) (power : Bool) (s : ByteArray) : Value :=
  if power = false then .tuple #[.pointer none, .int .i64 7] else if nm s = false then .tuple #[.pointer none, .int .i64 60] else .tuple #[valAt evP (.pointer none) (get names s), .int .i64 0]
set_option maxRecDepth 100000 in
theorem look_any (h : IsObj w db mb names room power next) (s : ByteArray) (hs : s.size ≤ 9223372036854775807) : Calls Try.prog 45 #[.pointer (some ⟨db, 0, none⟩), .string s] w fun e w' => e = .returned (lookA names power s) ∧ w' = w := by
  have x0 : w.cell? ⟨db, 0, none⟩ = some (.map (some mb)) := cell_in h.cells 0
  have hkey : keyOf Try.prog 9 (.string s) = some (ekS s) := WideMaps.keyOf_string_mk Try.underlying9 (Nat.le_trans hs (by decide))
  have l1 := h.map.run_lookup lawS (t := 59) Try.underlying59 (zeroP w) s hkey
  have HD := Lib.hid (dead_any h)
  have HN := Lib.hid (name_any s hs w)
  generalize hv : valAt evP (.pointer none) (get names s) = v at l1
  go_enter Try.func45, Try.ntmps45
  cases power with
  | false =>
    go_wp2_with fail
    refine HD.out.mono ?_
    rintro e w1 ⟨rfl, hw⟩
    subst hw
    go_wp2
    go_ret2
    exact ⟨rfl, rfl⟩
  | true =>
    go_wp2_with fail
    refine HD.out.mono ?_
    rintro e w1 ⟨rfl, hw⟩
    subst hw
    go_wp2_with fail
    refine HN.out.mono ?_
    rintro e w1 ⟨rfl, hw⟩
    subst hw
    cases hnm : nm s
    · go_wp2
      go_ret2
      exact ⟨by unfold lookA; rw [if_neg (by simp), if_pos hnm]; rfl, rfl⟩
    · go_wp2
      go_ret2
      exact ⟨by unfold lookA; rw [if_neg (by simp), if_neg (by rw [hnm]; simp), hv]; rfl, rfl⟩
/-- What there answers. -/
noncomputable def thereA (names : List (ByteArray × Nat)) (power : Bool) (s : ByteArray) : Value :=
  if power = false then .tuple #[.pointer none, .int .i64 7] else if nm s = false then .tuple #[.pointer none, .int .i64 60] else
    match get names s with
    | none => .tuple #[.pointer none, .int .i64 2]
    | some b => .tuple #[.pointer (some ⟨b, 0, none⟩), .int .i64 0]
set_option maxRecDepth 100000 in
theorem there_any (h : IsObj w db mb names room power next) (s : ByteArray) (hs : s.size ≤ 9223372036854775807) : Calls Try.prog 26 #[.pointer (some ⟨db, 0, none⟩), .string s] w fun e w' => e = .returned (thereA names power s) ∧ w' = w := by
  have HK := Lib.hid (look_any h s hs)
  clear h
  have HA : (lookA names power s = .tuple #[.pointer none, .int .i64 7] ∧ thereA names power s = .tuple #[.pointer none, .int .i64 7]) ∨ (lookA names power s = .tuple #[.pointer none, .int .i64 60] ∧ thereA names power s = .tuple #[.pointer none, .int .i64 60]) ∨
      (lookA names power s = .tuple #[.pointer none, .int .i64 0] ∧ thereA names power s = .tuple #[.pointer none, .int .i64 2]) ∨ ∃ b, lookA names power s = .tuple #[.pointer (some ⟨b, 0, none⟩), .int .i64 0] ∧ thereA names power s = .tuple #[.pointer (some ⟨b, 0, none⟩), .int .i64 0] := by
    unfold lookA thereA
    by_cases h1 : power = false
    · rw [if_pos h1, if_pos h1]; exact .inl ⟨rfl, rfl⟩
    · rw [if_neg h1, if_neg h1]
      by_cases h2 : nm s = false
      · rw [if_pos h2, if_pos h2]; exact .inr (.inl ⟨rfl, rfl⟩)
      · rw [if_neg h2, if_neg h2]
        cases hg : get names s with
        | none => exact .inr (.inr (.inl ⟨rfl, rfl⟩))
        | some b => exact .inr (.inr (.inr ⟨b, rfl, rfl⟩))
  rcases HA with ⟨e1, e2⟩ | ⟨e1, e2⟩ | ⟨e1, e2⟩ | ⟨b, e1, e2⟩
  all_goals
    rw [e2]
    rw [e1] at HK
    clear e1 e2
    go_enter Try.func26, Try.ntmps26
    go_wp2_with fail
    refine HK.out.mono ?_
    rintro e w1 ⟨rfl, hw⟩
    subst hw
    go_wp2
    go_ret2
    exact ⟨rfl, rfl⟩
end
end Go.Proofs.YtcongfiojbajeaaK
