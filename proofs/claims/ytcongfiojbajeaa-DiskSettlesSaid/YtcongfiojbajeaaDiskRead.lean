/- The disk: New, Read. Conditions: the files that the names lead to lie in the world, each of fewer than 1000000000 bytes. -/
import Derived.Test.YtcongfiojbajeaaDiskObj
namespace Go.Proofs.YtcongfiojbajeaaK
open Go Go.RowKit Go.Maps Go.Proofs.YtcongfiojbajeaaM Go.Proofs.YtcongfiojbajeaaW.PrintWords Go.Proofs.YtcongfiojbajeaaN
set_option linter.unusedVariables false
set_option linter.unusedSimpArgs false
set_option maxRecDepth 100000 in
theorem new_any (w : World) : Calls Try.prog 18 #[] w fun e w' => e = .returned (.pointer (some ⟨w.heap.size + 1, 0, none⟩)) ∧ IsObj w' (w.heap.size + 1) w.heap.size [] (-1) true 0 ∧ Below w.heap.size w w' := by
  have HM := Lib.hid (fun o : Obj => (IsMap.new (ek := ekS) (ev := evP) w Try.prog 9).alloc o)
  have HB := Lib.hid (fun o : Obj => ((Below.refl w.heap.size w).alloc (Nat.le_refl _) (.map #[] 0)).alloc (by simp) o)
  have hmm := @run_makeMap Try.prog
  go_enter Try.func18, Try.ntmps18
  go_wp2
  go_ret
  refine ⟨rfl, ⟨?_, HM.out _⟩, HB.out _⟩
  have e : (w.alloc (.map #[] 0)).heap.size = w.heap.size + 1 := by simp
  rw [← e]
  exact alloc_at (w.alloc (.map #[] 0)) _
/-- A file in the world, to be read. -/
def IsFile (w : World) (b : Nat) (f : PF) : Prop := ∃ A c, Lies w b f (.slice A f.loose.length c) ∧ Kd.C kP w A f.loose.length f.loose ∧ f.loose.length ≤ c
section
variable {w : World} {db mb : Nat} {names : List (ByteArray × Nat)} {room next : Int} {power : Bool}
/-- What Read answers. -/
noncomputable def readA (names : List (ByteArray × Nat)) (F : Nat → PF) (power : Bool) (s : ByteArray) : Value :=
  if power = false then .tuple #[.string ByteArray.empty, .int .i64 7] else if nm s = false then .tuple #[.string ByteArray.empty, .int .i64 60] else
    match get names s with
    | none => .tuple #[.string ByteArray.empty, .int .i64 2]
    | some b => .tuple #[.string (F b).now, .int .i64 0]
set_option maxRecDepth 100000 in
theorem read_any (h : IsObj w db mb names room power next) (F : Nat → PF) (s : ByteArray) (hs : s.size ≤ 9223372036854775807) (hF : ∀ b, get names s = some b → IsFile w b (F b) ∧ (F b).vol ≤ 1000000000 ∧ (F b).loose.length ≤ 1000000000) :
    Calls Try.prog 14 #[.pointer (some ⟨db, 0, none⟩), .string s] w fun e w' => e = .returned (readA names F power s) ∧ Below w.heap.size w w' := by
  have HK := Lib.hid (there_any h s hs)
  clear h
  have HA : (∃ n, ((n : Int) = 7 ∨ n = 60 ∨ n = 2) ∧ thereA names power s = .tuple #[.pointer none, .int .i64 n] ∧ readA names F power s = .tuple #[.string ByteArray.empty, .int .i64 n]) ∨ ∃ b, get names s = some b ∧ thereA names power s = .tuple #[.pointer (some ⟨b, 0, none⟩), .int .i64 0] ∧ readA names F power s = .tuple #[.string (F b).now, .int .i64 0] := by
    unfold readA thereA
    by_cases h1 : power = false
    · rw [if_pos h1, if_pos h1]; exact .inl ⟨7, by omega, rfl, rfl⟩
    · rw [if_neg h1, if_neg h1]
      by_cases h2 : nm s = false
      · rw [if_pos h2, if_pos h2]; exact .inl ⟨60, by omega, rfl, rfl⟩
      · rw [if_neg h2, if_neg h2]
        cases hg : get names s with
        | none => exact .inl ⟨2, by omega, rfl, rfl⟩
        | some b => exact .inr ⟨b, rfl, rfl, rfl⟩
  rcases HA with ⟨n, hn, e1, e2⟩ | ⟨b, hg, e1, e2⟩
  · rw [e2]
    rw [e1] at HK
    clear e1 e2 hF
    have HR := Lib.hid (Below.refl w.heap.size w)
    rcases hn with rfl | rfl | rfl
    all_goals
      go_enter Try.func14, Try.ntmps14
      go_wp2_with fail
      refine HK.out.mono ?_
      rintro e w1 ⟨rfl, hw⟩
      subst hw
      go_wp2
      go_ret2
      exact ⟨rfl, HR.out⟩
  · rw [e2]
    rw [e1] at HK
    obtain ⟨⟨A, c, hl, hc, _⟩, hv, hn⟩ := hF b hg
    have HN := Lib.hid (now_any b (F b) A c w hl hc hv hn)
    clear e1 e2 hF hg hl hc hv hn
    go_enter Try.func14, Try.ntmps14
    go_wp2_with fail
    refine HK.out.mono ?_
    rintro e w1 ⟨rfl, hw⟩
    subst hw
    go_wp2_with fail
    refine HN.out.mono ?_
    rintro e w2 ⟨rfl, hb⟩
    have HB := Lib.hid hb
    clear hb
    go_wp2
    go_ret2
    exact ⟨rfl, HB.out⟩
end
end Go.Proofs.YtcongfiojbajeaaK
