/- The names' Fix: walked once. -/
import Derived.Test.YtojeadkhahmllaaDoorNameBytes
import Derived.Test.YtojeadkhahmllaaDoorXfinex
namespace Go.Proofs.YtojeadkhahmllaaDoorB
set_option linter.unusedVariables false
open Go.RowKit Go.Proofs.YtojeadkhahmllaaDoorW.PrintWords Go.Proofs.YtojeadkhahmllaaDoorW.PrintMore Go.Proofs.YtojeadkhahmllaaDoor.Xfine

/-- May a byte stand in a name? -/
def fineB (x : UInt8) : Bool := decide (33 ≤ x.toNat) && decide (x.toNat ≤ 126) && !([47, 92, 58, 42, 63, 34, 60, 62, 124].contains x.toNat)
theorem fine_run (x : UInt8) : name_fine.f 3 (x.toNat : Int) = some (fineB x) := by
  have key : ∀ n : Fin 256, name_fine.f 3 (n.val : Int) = some (fineB (UInt8.ofNat n.val)) := by decide +kernel
  have h := key ⟨x.toNat, UInt8.toNat_lt x⟩
  simpa using h
def mend (x : UInt8) : UInt8 := if fineB x then x else 95
theorem mend_fine {x : UInt8} (h : fineB x = true) : mend x = x := if_pos h
theorem mend_not {x : UInt8} (h : fineB x = false) : mend x = 95 := by unfold mend; rw [h]; rfl
/-- The last byte, where it is a dot, is one that may be. -/
def undot (l : List UInt8) : List UInt8 := if l.getLast? = some 46 then l.set (l.length - 1) 95 else l
def fixL (l : List UInt8) : List UInt8 := if l.isEmpty then [95] else undot ((l.take 32).map mend)
def fixB (s : ByteArray) : ByteArray := ⟨(fixL s.data.toList).toArray⟩

theorem undot_dot {l : List UInt8} {n : Nat} (hn : l.length = n + 1) (h : l[n]'(by omega) = 46) : undot l = l.set n 95 := by
  have : l.getLast? = some 46 := by rw [List.getLast?_eq_getElem?, hn, Nat.add_sub_cancel, List.getElem?_eq_getElem (by omega), h]
  rw [undot, if_pos this, hn, Nat.add_sub_cancel]
theorem undot_none {l : List UInt8} {n : Nat} (hn : l.length = n + 1) (h : l[n]'(by omega) ≠ 46) : undot l = l := by
  have : l.getLast? ≠ some 46 := by rw [List.getLast?_eq_getElem?, hn, Nat.add_sub_cancel, List.getElem?_eq_getElem (by omega)]; simpa using h
  rw [undot, if_neg this]
theorem fix_empty {s : ByteArray} (h : s.size = 0) : fixB s = ⟨#[95]⟩ := by
  have : s.data.toList = [] := List.eq_nil_of_length_eq_zero (by simpa using h)
  rw [fixB, this]; rfl
theorem fix_some {s : ByteArray} (h : 0 < s.size) : fixB s = ⟨(undot ((s.data.toList.take 32).map mend)).toArray⟩ := by
  have : s.data.toList.isEmpty = false := by
    cases hl : s.data.toList with
    | nil => have : s.data.toList.length = s.size := by simp
             rw [hl] at this; simp at this; omega
    | cons a l => rfl
  rw [fixB, fixL, this]; rfl


attribute [local go_sem] max2_int min2_int max_two min_two
set_option maxRecDepth 100000 in
theorem fix_any (s : ByteArray) (hs : s.size ≤ 1000000) (w : World) : Calls Tryd.prog 15 #[.string s] w fun e w' => e = .returned (.string (fixB s)) ∧ Below w.heap.size w w' := by
  have hsl : s.data.toList.length = s.size := by simp
  have hcv := fun t : ByteArray => Lib.run_convert_string_bytes (P := Tryd.prog) w 9 36 5 t Tryd.underlying9 Tryd.underlying36 Tryd.underlying5
  obtain ⟨L, hL⟩ : ∃ L, L = s.data.toList.take 32 := ⟨_, rfl⟩
  by_cases h32 : 32 < s.size
  · have hx : (s.extract 0 32).size = 32 := by rw [ByteArray.size_extract]; omega
    have hxl : (s.extract 0 32).data.toList = L := by rw [hL, ByteArray.data_extract, Array.toList_extract]; rfl
    have hc1 := hcv (s.extract 0 32)
    rw [hx] at hc1
    obtain ⟨c, hc⟩ : ∃ c, c = grownCap w 32 0 5 := ⟨_, rfl⟩
    rw [← hc] at hc1
    have HB : Hid (BRow w (Lib.bytesWorld w 5 (s.extract 0 32)) w.heap.size (turned mend L 0)) := by rw [turned_zero, ← hxl]; exact BRow.start w _
    generalize Lib.bytesWorld w 5 (s.extract 0 32) = w1 at HB hc1
    clear hcv hc
    have hn2 : L.length = 32 := by rw [hL, List.length_take]; omega
    go_enter Tryd.func15, Tryd.ntmps15
    go_wp2
    have hb : ∃ b, b = w.heap.size := ⟨_, rfl⟩
    obtain ⟨b, hb⟩ := hb
    rw [← hb] at HB ⊢
    clear hb
    go_loopw [14] (fun i wr => ∃ j : Nat, j ≤ 32 ∧ i = .int .i64 j ∧ Hid (BRow w wr b (turned mend L j))) (fun i _ => 32 + 1 - (intOf i).toNat)
    case atStart => exact ⟨0, by omega, rfl, HB⟩
    case round =>
      obtain ⟨j, hj, rfl, HR⟩ := hrel
      clear HB
      by_cases hlt : j < 32
      · have d1 : decide ((j : Int) < (32 : Int)) = true := decide_eq_true (by omega)
        have p1 : (0 ≤ (j : Int)) = True := eq_true (by omega)
        have q1 : ((j : Int) < (32 : Int)) = True := eq_true (by omega)
        have hjl : j < L.length := by omega
        obtain ⟨x0, z0⟩ := HR.out.read j (by rw [turned_length]; exact hjl)
        rw [turned_at mend L j hjl] at x0
        have HQ := Lib.hid (turned_set mend L j hjl)
        have HM := Lib.hid (turned_same mend L j hjl)
        generalize L[j] = x at x0 HQ HM
        go_wp2_with fail
        refine (name_fine.calls 3 (x.toNat : Int) (fineB x) wr (fine_run x)).mono ?_
        rintro e w3 ⟨rfl, m3, rfl⟩
        have HR3 : Hid (BRow w (wr.drewN m3) b (turned mend L j)) := HR.out.drewN m3
        have HS := Lib.hid (HR3.out.store j (by rw [turned_length]; exact hjl) (mend x))
        rw [HQ.out] at HS
        cases hf : fineB x with
        | true =>
          go_wp2
          go_roundw
          case rel =>
            refine ⟨j + 1, by omega, by go_num, ?_⟩
            rw [← HM.out (mend_fine hf)]
            exact HR3
          case measure => simp [intOf]; omega
        | false =>
          go_wp2
          go_roundw
          case rel =>
            refine ⟨j + 1, by omega, by go_num, ?_⟩
            rw [mend_not hf, show ((UInt8.toNat 95 : Nat) : Int) = 95 from rfl] at HS
            exact HS
          case measure => simp [intOf]; omega
      · have hjn : j = 32 := by omega
        subst hjn
        have d1 : decide ((32 : Int) < (32 : Int)) = false := decide_eq_false (by omega)
        have hM : turned mend L 32 = L.map mend := by rw [← hn2]; exact turned_all _ _
        rw [hM] at HR
        obtain ⟨M, hMM⟩ : ∃ M, M = L.map mend := ⟨_, rfl⟩
        have hml : M.length = 32 := by rw [hMM, List.length_map]; exact hn2
        rw [← hMM] at HR
        have HF0 : Hid (0 < s.size → fixB s = ⟨(undot M).toArray⟩) := fun h => by rw [fix_some h, ← hL, ← hMM]
        clear hM hMM hL
        by_cases h0 : 32 = 0
        · first
            | exact absurd h0 (by decide)
            | (have hs0 : s.size = 0 := by omega
               have e0 : ((32 : Int) == 0) = true := beq_iff_eq.2 (by omega)
               have HE := Lib.hid (fix_empty hs0)
               go_wp2
               go_ret
               exact ⟨by rw [HE.out]; rfl, HR.out.below⟩)
        · have e0 : ((32 : Int) == 0) = false := beq_eq_false_iff_ne.2 (by omega)
          have p2 : (0 ≤ (31 : Int)) = True := eq_true (by omega)
          have q2 : ((31 : Int) < (32 : Int)) = True := eq_true (by omega)
          have hpl : 31 < M.length := by omega
          have hmp : M.length = 31 + 1 := by omega
          obtain ⟨x0, z0⟩ := HR.out.read 31 hpl
          have HS := Lib.hid (HR.out.store 31 hpl 95)
          have HF := Lib.hid (HF0.out (by omega))
          have hD := @undot_dot M 31 hmp
          have hN := @undot_none M 31 hmp
          have HD := Lib.hid (And.intro hD hN)
          clear hD hN
          generalize M[31] = y at x0 HD
          by_cases hy : y = 46
          · have e1 : ((y.toNat : Int) == 46) = true := by rw [hy]; rfl
            rw [← HD.out.1 hy, show ((UInt8.toNat 95 : Nat) : Int) = 95 from rfl] at HS
            have hul : (undot M).length = 32 := by rw [HD.out.1 hy, List.length_set]; exact hml
            have hcv := HS.out.text (by omega) c
            rw [hul] at hcv
            go_wp2
            go_ret
            exact ⟨by rw [HF.out]; rfl, HS.out.below⟩
          · have e1 : ((y.toNat : Int) == 46) = false := beq_eq_false_iff_ne.2 (fun h => hy (by
              have h2 : y.toNat = 46 := by omega
              exact UInt8.toNat_inj.1 h2))
            have hcv := HR.out.text (by omega) c
            rw [hml] at hcv
            go_wp2
            go_ret
            refine ⟨?_, HR.out.below⟩
            rw [HF.out, HD.out.2 hy]
            rfl
  · have hc1 := hcv s
    have hxl : s.data.toList = L := by rw [hL, List.take_of_length_le (by omega)]
    obtain ⟨c, hc⟩ : ∃ c, c = grownCap w s.size 0 5 := ⟨_, rfl⟩
    rw [← hc] at hc1
    have HB : Hid (BRow w (Lib.bytesWorld w 5 s) w.heap.size (turned mend L 0)) := by rw [turned_zero, ← hxl]; exact BRow.start w _
    generalize Lib.bytesWorld w 5 s = w1 at HB hc1
    clear hcv hc
    have hn2 : L.length = s.size := by rw [hL, List.length_take]; omega
    go_enter Tryd.func15, Tryd.ntmps15
    go_wp2
    have hb : ∃ b, b = w.heap.size := ⟨_, rfl⟩
    obtain ⟨b, hb⟩ := hb
    rw [← hb] at HB ⊢
    clear hb
    go_loopw [14] (fun i wr => ∃ j : Nat, j ≤ s.size ∧ i = .int .i64 j ∧ Hid (BRow w wr b (turned mend L j))) (fun i _ => s.size + 1 - (intOf i).toNat)
    case atStart => exact ⟨0, by omega, rfl, HB⟩
    case round =>
      obtain ⟨j, hj, rfl, HR⟩ := hrel
      clear HB
      by_cases hlt : j < s.size
      · have d1 : decide ((j : Int) < (s.size : Int)) = true := decide_eq_true (by omega)
        have p1 : (0 ≤ (j : Int)) = True := eq_true (by omega)
        have q1 : ((j : Int) < (s.size : Int)) = True := eq_true (by omega)
        have hjl : j < L.length := by omega
        obtain ⟨x0, z0⟩ := HR.out.read j (by rw [turned_length]; exact hjl)
        rw [turned_at mend L j hjl] at x0
        have HQ := Lib.hid (turned_set mend L j hjl)
        have HM := Lib.hid (turned_same mend L j hjl)
        generalize L[j] = x at x0 HQ HM
        go_wp2_with fail
        refine (name_fine.calls 3 (x.toNat : Int) (fineB x) wr (fine_run x)).mono ?_
        rintro e w3 ⟨rfl, m3, rfl⟩
        have HR3 : Hid (BRow w (wr.drewN m3) b (turned mend L j)) := HR.out.drewN m3
        have HS := Lib.hid (HR3.out.store j (by rw [turned_length]; exact hjl) (mend x))
        rw [HQ.out] at HS
        cases hf : fineB x with
        | true =>
          go_wp2
          go_roundw
          case rel =>
            refine ⟨j + 1, by omega, by go_num, ?_⟩
            rw [← HM.out (mend_fine hf)]
            exact HR3
          case measure => simp [intOf]; omega
        | false =>
          go_wp2
          go_roundw
          case rel =>
            refine ⟨j + 1, by omega, by go_num, ?_⟩
            rw [mend_not hf, show ((UInt8.toNat 95 : Nat) : Int) = 95 from rfl] at HS
            exact HS
          case measure => simp [intOf]; omega
      · have hjn : j = s.size := by omega
        subst hjn
        have d1 : decide ((s.size : Int) < (s.size : Int)) = false := decide_eq_false (by omega)
        have hM : turned mend L s.size = L.map mend := by rw [← hn2]; exact turned_all _ _
        rw [hM] at HR
        obtain ⟨M, hMM⟩ : ∃ M, M = L.map mend := ⟨_, rfl⟩
        have hml : M.length = s.size := by rw [hMM, List.length_map]; exact hn2
        rw [← hMM] at HR
        have HF0 : Hid (0 < s.size → fixB s = ⟨(undot M).toArray⟩) := fun h => by rw [fix_some h, ← hL, ← hMM]
        clear hM hMM hL
        by_cases h0 : s.size = 0
        · first
            | exact absurd h0 (by decide)
            | (have hs0 : s.size = 0 := by omega
               have e0 : ((s.size : Int) == 0) = true := beq_iff_eq.2 (by omega)
               have HE := Lib.hid (fix_empty hs0)
               go_wp2
               go_ret
               exact ⟨by rw [HE.out]; rfl, HR.out.below⟩)
        · have e0 : ((s.size : Int) == 0) = false := beq_eq_false_iff_ne.2 (by omega)
          have p2 : (0 ≤ ((s.size : Int) - 1)) = True := eq_true (by omega)
          have q2 : (((s.size : Int) - 1) < (s.size : Int)) = True := eq_true (by omega)
          have hpl : (s.size - 1) < M.length := by omega
          have hmp : M.length = (s.size - 1) + 1 := by omega
          obtain ⟨x0, z0⟩ := HR.out.read (s.size - 1) hpl
          have HS := Lib.hid (HR.out.store (s.size - 1) hpl 95)
          have HF := Lib.hid (HF0.out (by omega))
          have hD := @undot_dot M (s.size - 1) hmp
          have hN := @undot_none M (s.size - 1) hmp
          have HD := Lib.hid (And.intro hD hN)
          clear hD hN
          generalize M[(s.size - 1)] = y at x0 HD
          by_cases hy : y = 46
          · have e1 : ((y.toNat : Int) == 46) = true := by rw [hy]; rfl
            rw [← HD.out.1 hy, show ((UInt8.toNat 95 : Nat) : Int) = 95 from rfl] at HS
            have hul : (undot M).length = s.size := by rw [HD.out.1 hy, List.length_set]; exact hml
            have hcv := HS.out.text (by omega) c
            rw [hul] at hcv
            go_wp2
            go_ret
            exact ⟨by rw [HF.out]; rfl, HS.out.below⟩
          · have e1 : ((y.toNat : Int) == 46) = false := beq_eq_false_iff_ne.2 (fun h => hy (by
              have h2 : y.toNat = 46 := by omega
              exact UInt8.toNat_inj.1 h2))
            have hcv := HR.out.text (by omega) c
            rw [hml] at hcv
            go_wp2
            go_ret
            refine ⟨?_, HR.out.below⟩
            rw [HF.out, HD.out.2 hy]
            rfl
end Go.Proofs.YtojeadkhahmllaaDoorB
