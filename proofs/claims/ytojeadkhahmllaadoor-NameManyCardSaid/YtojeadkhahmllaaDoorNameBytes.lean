/- A row of bytes that the call has made out of a string, and writes into: what it holds; the conversion back. The names' Fold and Fix. -/
import Derived.Test.YtojeadkhahmllaaDoorProg
import Derived.Test.YtojeadkhahmllaaDoorWWords
import Derived.Test.YtojeadkhahmllaaDoorWMore
import Derived.WalkLawsBesides
import Derived.WalkSpells
import Derived.Lib.ConvBytes
import Derived.Lib.SlBytesRow
import Derived.Lib.Hide
namespace Go.Proofs.YtojeadkhahmllaaDoorB
set_option linter.unusedVariables false
open Go.RowKit Go.Proofs.YtojeadkhahmllaaDoorW.PrintWords Go.Proofs.YtojeadkhahmllaaDoorW.PrintMore

/-- The row in block b, made in this call: its first bytes are xs. -/
structure BRow (w0 w : World) (b : Nat) (xs : List UInt8) : Prop where
  blk : ∃ cs fr, w.heap[b]? = some (.cells cs 5 fr) ∧ xs.length ≤ fr.1 ∧ ∀ (j : Nat) (x : UInt8), xs[j]? = some x → cs[j]? = some (.int .u8 x.toNat)
  below : Below w0.heap.size w0 w
  own : w0.heap.size ≤ b
theorem BRow.start (w : World) (s : ByteArray) : BRow w (Lib.bytesWorld w 5 s) w.heap.size s.data.toList := by
  refine ⟨⟨_, _, Lib.bytesWorld_at_new w _ s, by simp [Lib.bytesCells], fun j x hj => ?_⟩, ⟨rfl, rfl, rfl, by rw [Lib.bytesWorld_size]; omega, fun k hk => Lib.bytesWorld_at_old w _ s k hk⟩, Nat.le_refl _⟩
  have hlt : j < s.data.size := by have := (List.getElem?_eq_some_iff.1 hj).1; simpa using this
  have hx : s.data[j] = x := by have := (List.getElem?_eq_some_iff.1 hj).2; simpa using this
  have hlt2 : j < s.size := hlt
  simp [Lib.bytesCells, Array.getElem?_append, hlt2, ← hx]
section
variable {w0 w : World} {b : Nat} {xs : List UInt8}
theorem BRow.read (h : BRow w0 w b xs) (j : Nat) (hj : j < xs.length) : w.cell? ⟨b, j, none⟩ = some (.int .u8 (xs[j].toNat)) ∧ w.frozen? ⟨b, j, none⟩ = false := by
  obtain ⟨cs, fr, h1, h2, h3⟩ := h.blk
  have h4 := h3 j xs[j] (List.getElem?_eq_getElem hj)
  obtain ⟨lo, hi⟩ := fr
  constructor
  · simp [World.cell?, h1, h4]
  · simp only [World.frozen?, h1, Bool.and_eq_false_iff, decide_eq_false_iff_not]
    left
    simp only at h2
    omega
theorem BRow.drewN (h : BRow w0 w b xs) (m : Nat) : BRow w0 (w.drewN m) b xs := ⟨h.blk, pw_below_drewN h.below m, h.own⟩
theorem BRow.store (h : BRow w0 w b xs) (j : Nat) (hj : j < xs.length) (y : UInt8) : BRow w0 (w.setCell ⟨b, j, none⟩ (.int .u8 y.toNat)) b (xs.set j y) := by
  obtain ⟨cs, fr, h1, h2, h3⟩ := h.blk
  refine ⟨⟨cs.setIfInBounds j (.int .u8 y.toNat), fr, ?_, by simpa using h2, fun i x hi => ?_⟩, h.below.trans ⟨rfl, rfl, rfl, by simp [World.setCell], fun k hk => Below.heap_setCell _ _ _ _ (by have := h.own; show k ≠ b; omega)⟩, h.own⟩
  · have hb : b < w.heap.size := (Array.getElem?_eq_some_iff.1 h1).1
    simp [World.setCell, Array.getElem?_modify, h1]
  · have hcs : j < cs.size := by
      have := h3 j xs[j] (List.getElem?_eq_getElem hj)
      exact (Array.getElem?_eq_some_iff.1 this).1
    rw [List.getElem?_set] at hi
    rw [Array.getElem?_setIfInBounds]
    by_cases e : j = i
    · subst e
      simp only [if_true, hj] at hi
      simp only [if_true, hcs]
      cases hi; rfl
    · rw [if_neg e] at hi ⊢
      exact h3 i x hi
theorem BRow.text (h : BRow w0 w b xs) (hm : xs.length ≤ 9223372036854775807) (c : Nat) : (convert 36 9 (.slice (some ⟨b, 0, none⟩) xs.length c)).run Tryd.prog w = .ok (.string ⟨xs.toArray⟩) w := by
  have h1 : ReadsInt w .u8 (some ⟨b, 0, none⟩) xs.length (xs.map fun x => (x.toNat : Int)) := by
    refine ⟨by simp, hm, fun _ => ⟨_, rfl, fun j hj => ?_⟩⟩
    have := (h.read j hj).1
    rw [show (⟨b, 0, none⟩ : Addr).add j = ⟨b, j, none⟩ from by simp [Addr.add]; omega]
    simpa [List.getD, hj] using this
  have h2 := string_of_reads (P := Tryd.prog) (c := c) Tryd.underlying36 Tryd.underlying5 Tryd.underlying9 h1
  rw [h2]
  have e : (xs.map fun x => UInt8.ofNat ((x.toNat : Int)).toNat) = xs := by
    rw [show (fun x : UInt8 => UInt8.ofNat ((x.toNat : Int)).toNat) = id from funext fun x => by simp]; simp
  simp only [strOfNums, List.map_map, Function.comp_def, e]
end

/-- A small letter for a great one. -/
def small (x : UInt8) : UInt8 := if 65 ≤ x.toNat ∧ x.toNat ≤ 90 then x + 32 else x
def foldB (s : ByteArray) : ByteArray := ⟨(s.data.toList.map small).toArray⟩
/-- The first i turned by f. -/
def turned (f : UInt8 → UInt8) (l : List UInt8) (i : Nat) : List UInt8 := (l.take i).map f ++ l.drop i
theorem turned_length (f : UInt8 → UInt8) (l : List UInt8) (i : Nat) : (turned f l i).length = l.length := by simp [turned]; omega
theorem turned_at (f : UInt8 → UInt8) (l : List UInt8) (i : Nat) (h : i < l.length) : (turned f l i)[i]'(by rw [turned_length]; exact h) = l[i] := by
  simp [turned, List.getElem_append]
  rw [dif_neg (by omega)]
  congr 1
  omega
theorem turned_set (f : UInt8 → UInt8) (l : List UInt8) (i : Nat) (h : i < l.length) : (turned f l i).set i (f l[i]) = turned f l (i + 1) := by
  unfold turned
  rw [List.set_append_right _ _ (by simp; omega), List.take_succ_eq_append_getElem h, List.drop_eq_getElem_cons h]
  have : i - ((l.take i).map f).length = 0 := by simp; omega
  simp only [this, List.set_cons_zero, List.map_append, List.map_cons, List.map_nil, List.append_assoc, List.cons_append, List.nil_append]
theorem turned_same (f : UInt8 → UInt8) (l : List UInt8) (i : Nat) (h : i < l.length) (e : f l[i] = l[i]) : turned f l i = turned f l (i + 1) := by
  rw [← turned_set f l i h, e]
  apply List.ext_getElem?
  intro j
  rw [List.getElem?_set]
  split
  · rename_i hj; subst hj
    split
    · rename_i h2; rw [List.getElem?_eq_getElem h2, turned_at f l i h]
    · rename_i h2; rw [turned_length] at h2; omega
  · rfl
theorem turned_zero (f : UInt8 → UInt8) (l : List UInt8) : turned f l 0 = l := by simp [turned]
theorem turned_all (f : UInt8 → UInt8) (l : List UInt8) : turned f l l.length = l.map f := by simp [turned]

set_option maxRecDepth 100000 in
theorem fold_any (s : ByteArray) (hs : s.size ≤ 1000000) (w : World) : Calls Tryd.prog 14 #[.string s] w fun e w' => e = .returned (.string (foldB s)) ∧ Below w.heap.size w w' := by
  have hcv := Lib.run_convert_string_bytes (P := Tryd.prog) w 9 36 5 s Tryd.underlying9 Tryd.underlying36 Tryd.underlying5
  go_enter Tryd.func14, Tryd.ntmps14
  go_wp2
  have HB : Hid (BRow w (Lib.bytesWorld w 5 s) w.heap.size (turned small s.data.toList 0)) := by rw [turned_zero]; exact BRow.start w s
  have hn : s.data.toList.length = s.size := by simp
  clear hcv
  obtain ⟨b, hb⟩ : ∃ b, b = w.heap.size := ⟨_, rfl⟩
  rw [← hb] at HB ⊢
  obtain ⟨c, hc⟩ : ∃ c, c = grownCap w s.size 0 5 := ⟨_, rfl⟩
  rw [← hc]
  generalize Lib.bytesWorld w 5 s = w1 at HB ⊢
  clear hb hc
  go_loopw [10] (fun i wr => ∃ j : Nat, j ≤ s.size ∧ i = .int .i64 j ∧ Hid (BRow w wr b (turned small s.data.toList j))) (fun i _ => s.size + 1 - (intOf i).toNat)
  case atStart => exact ⟨0, by omega, rfl, HB⟩
  case round =>
    obtain ⟨j, hj, rfl, HR⟩ := hrel
    clear HB
    by_cases hlt : j < s.size
    · have d1 : decide ((j : Int) < (s.size : Int)) = true := decide_eq_true (by omega)
      have p1 : (0 ≤ (j : Int)) = True := eq_true (by omega)
      have q1 : ((j : Int) < (s.size : Int)) = True := eq_true (by omega)
      have hjl : j < s.data.toList.length := by omega
      obtain ⟨x0, z0⟩ := HR.out.read j (by rw [turned_length]; exact hjl)
      rw [turned_at small s.data.toList j hjl] at x0
      have HS := Lib.hid (HR.out.store j (by rw [turned_length]; exact hjl) (small s.data.toList[j]))
      rw [turned_set small s.data.toList j hjl] at HS
      have HM := Lib.hid (turned_same small s.data.toList j hjl)
      generalize s.data.toList[j] = x at x0 HS HM
      by_cases g1 : 65 ≤ x.toNat
      · have e1 : decide (65 ≤ (x.toNat : Int)) = true := decide_eq_true (by omega)
        by_cases g2 : x.toNat ≤ 90
        · have e2 : decide ((x.toNat : Int) ≤ 90) = true := decide_eq_true (by omega)
          go_wp2
          go_roundw
          case rel =>
            refine ⟨j + 1, by omega, by go_num, ?_⟩
            have e : small x = x + 32 := if_pos ⟨g1, g2⟩
            rw [e] at HS
            have e3 : ((x + 32).toNat : Int) = x.toNat + 97 - 65 := by rw [UInt8.toNat_add]; simp; omega
            rw [e3] at HS
            exact HS
          case measure => simp [intOf]; omega
        · have e2 : decide ((x.toNat : Int) ≤ 90) = false := decide_eq_false (by omega)
          go_wp2
          go_roundw
          case rel =>
            refine ⟨j + 1, by omega, by go_num, ?_⟩
            rw [← HM.out (if_neg (fun h => g2 h.2))]
            exact HR
          case measure => simp [intOf]; omega
      · have e1 : decide (65 ≤ (x.toNat : Int)) = false := decide_eq_false (by omega)
        go_wp2
        go_roundw
        case rel =>
          refine ⟨j + 1, by omega, by go_num, ?_⟩
          rw [← HM.out (if_neg (fun h => g1 h.1))]
          exact HR
        case measure => simp [intOf]; omega
    · obtain rfl : j = s.size := by omega
      have d1 : decide ((s.size : Int) < (s.size : Int)) = false := decide_eq_false (by omega)
      have hcv := HR.out.text (by rw [turned_length, hn]; omega) c
      rw [turned_length, hn] at hcv
      go_wp2
      go_ret
      refine ⟨?_, HR.out.below⟩
      have e : turned small s.data.toList s.size = s.data.toList.map small := by rw [← hn]; exact turned_all _ _
      simp only [foldB, ← e]
      rfl
end Go.Proofs.YtojeadkhahmllaaDoorB
