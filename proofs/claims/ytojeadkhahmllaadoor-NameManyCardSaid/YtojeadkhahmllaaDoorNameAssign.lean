/- The names' Assign: walked once. -/
import Derived.Test.YtojeadkhahmllaaDoorNameOther
import Derived.Test.YtojeadkhahmllaaDoorMaps
import Derived.StringKeys
import Derived.Sort.MapsRangeIn
namespace Go.Proofs.YtojeadkhahmllaaDoorB
set_option linter.unusedVariables false
set_option linter.unusedSimpArgs false
open Go.RowKit Go.Maps Go.Proofs.YtojeadkhahmllaaDoorM Go.Proofs.YtojeadkhahmllaaDoorW.PrintWords Go.Proofs.YtojeadkhahmllaaDoorW.PrintMore

def ekS (s : ByteArray) : Lit := .string s.data.toList
abbrev evU (_ : Unit) : Value := .bool true
theorem ekS_inj (x y : ByteArray) (h : ekS x = ekS y) : x = y := by
  unfold ekS at h
  injection h with h
  cases x; cases y
  congr 1
  exact Array.toList_inj.1 h
theorem ekS_key (x : ByteArray) : WideAt.IsKeyLit (ekS x) := trivial
theorem lawS : Keyed Tryd.prog 9 := string_keyed Tryd.underlying9
theorem zeroB (w : World) : (zeroValue 4).run Tryd.prog w = .ok (.bool false) w := by kernel_rfl
theorem infoS : (Tryd.prog.info? 9).map (fun i => (i.zero, i.size, i.bytes)) = some (some (.string ⟨#[]⟩), 1, 16) := by kernel_rfl

def used (out : List ByteArray) : List (ByteArray × Unit) := out.map fun x => (foldB x, ())
theorem get_used (out : List ByteArray) (y : ByteArray) : (get (used out) y).isSome = true ↔ y ∈ out.map foldB := by
  rw [get_isSome]; simp [used]
/-- What Assign keeps. -/
structure Ass (w0 w : World) (b : Nat) (v : Value) (out : List ByteArray) : Prop where
  map : IsMap Tryd.prog 9 ekS evU w b (used out)
  row : Kd.R Kd.string 9 w w0.heap.size (fun k => k ≠ b) v out
  below : Below w0.heap.size w0 w
  own : w0.heap.size ≤ b
section
variable {w0 w w' : World} {b : Nat} {v : Value} {out : List ByteArray}
theorem Ass.step (h : Ass w0 w b v out) (hb : Below w.heap.size w w') : Ass w0 w' b v out :=
  ⟨h.map.heap (hb.block _ h.map.lt), Kd.R_below h.row hb, ⟨hb.os.trans h.below.os, hb.tape.trans h.below.tape, hb.output.trans h.below.output, Nat.le_trans h.below.size hb.size, fun k hk => (hb.block k (Nat.lt_of_lt_of_le hk h.below.size)).trans (h.below.block k hk)⟩, h.own⟩
theorem Ass.look (h : Ass w0 w b v out) (y : ByteArray) (hy : y.size ≤ maxLen) {t : Bool} (ht : t = true ↔ y ∈ out.map foldB) :
    (Instr.lookup 30 (.map (some b)) (.string y) false).run Tryd.prog w = .ok (.bool t) w := by
  have l1 := h.map.run_lookup lawS (t := 30) Tryd.underlying30 (zeroB w) y (WideMaps.keyOf_string_mk Tryd.underlying9 hy)
  rw [l1]
  have h2 := get_used out y
  cases hg : get (used out) y with
  | none =>
    rw [hg] at h2
    cases t with
    | false => rfl
    | true => exact absurd (h2.2 (ht.1 rfl)) (by simp)
  | some u =>
    rw [hg] at h2
    cases t with
    | true => rfl
    | false => exact absurd (ht.2 (h2.1 rfl)) (by simp)
theorem fold_size (s : ByteArray) : (foldB s).size = s.size := by
  show ((s.data.toList.map small).toArray).size = s.data.size
  rw [List.size_toArray, List.length_map, Array.length_toList]
theorem fix_size (s : ByteArray) : (fixB s).size ≤ 32 := by
  have : (fixL s.data.toList).length ≤ 32 := by
    unfold fixL
    split
    · decide
    · unfold undot
      have h : ((s.data.toList.take 32).map mend).length ≤ 32 := by rw [List.length_map, List.length_take]; omega
      split
      · rw [List.length_set]; exact h
      · exact h
  show ((fixL s.data.toList).toArray).size ≤ 32
  rw [List.size_toArray]
  exact this
theorem used_snoc (out : List ByteArray) (s : ByteArray) (h : foldB s ∉ out.map foldB) : setL (used out) (foldB s) () = used (out ++ [s]) := by
  have : get (used out) (foldB s) = none := by
    have h2 := get_used out (foldB s)
    cases hg : get (used out) (foldB s) with
    | none => rfl
    | some u => rw [hg] at h2; exact absurd (h2.1 rfl) h
  rw [setL_new this]; simp [used]
theorem try_size (s : ByteArray) (j : Nat) (hs : s.size ≤ 32) (hj : j < 1000000) : (tryB s j).size ≤ 32 := by
  unfold tryB
  split
  · exact hs
  · have := digits_len 5 j (by omega)
    have h2 : (otherL s.data.toList j).length ≤ 32 := by
      unfold otherL
      simp only [List.length_append, List.length_cons, List.length_take]
      omega
    show ((otherL s.data.toList j).toArray).size ≤ 32
    rw [List.size_toArray]
    exact h2
end

set_option maxHeartbeats 4000000 in
set_option maxRecDepth 100000 in
theorem assign_any (A : Option Addr) (c : Nat) (l : List ByteArray) (w : World)
    (hrd : ∀ w', Below w.heap.size w w' → ∀ i (hi : i < l.length), ∃ ad, A = some ad ∧ (∃ id, w'.cell? (ad.add (i * 2)) = some (.int .u64 id)) ∧ w'.cell? ⟨(ad.add (i * 2)).block, (ad.add (i * 2)).off + 1, none⟩ = some (.string l[i]))
    (hc : l.length ≤ c) (hl : CanSay (l.length + 1) w) (hl2 : l.length ≤ 10000) (hok : ∀ s ∈ l, s.size ≤ 1000000) :
    Calls Tryd.prog 6 #[.slice A l.length c] w fun e w' => ∃ v, e = .returned v ∧ Kd.R Kd.string 9 w' w.heap.size (fun _ => True) v (assignB l) ∧ Below w.heap.size w w' := by
  have HRD := Lib.hid hrd
  have HOK := Lib.hid hok
  have HSAY := Lib.hid hl
  clear hrd hok hl
  have hmm := @run_makeMap Tryd.prog
  go_enter Tryd.func6, Tryd.ntmps6
  go_wp2_with fail
  have H0 : Hid (Ass w (w.alloc (.map #[] 0)) w.heap.size (.slice none 0 0) (assignB (l.take 0))) :=
    ⟨IsMap.new w _ _, Kd.R_nil _ _ _ _ _, below_alloc (Below.refl _ _) _, Nat.le_refl _⟩
  obtain ⟨b, hb⟩ : ∃ b, b = w.heap.size := ⟨_, rfl⟩
  rw [← hb] at H0 ⊢
  generalize w.alloc (.map #[] 0) = w1 at H0 ⊢
  clear hb
  go_loopw [4, 13] (fun u4 u13 wr => ∃ i : Nat, i ≤ l.length ∧ u13 = .int .i64 i ∧ Hid (Ass w wr b u4 (assignB (l.take i)))) (fun _ i _ => l.length + 1 - (intOf i).toNat)
  case atStart => exact ⟨0, by omega, rfl, H0⟩
  case round =>
    obtain ⟨i, hi, rfl, HA⟩ := hrel
    clear H0
    by_cases hlt : i < l.length
    · have d1 : decide ((i : Int) < (l.length : Int)) = true := decide_eq_true (by omega)
      have p1 : (0 ≤ (i : Int)) = True := eq_true (by omega)
      have q1 : ((i : Int) < (l.length : Int)) = True := eq_true (by omega)
      obtain ⟨ad, rfl, ⟨id, x0⟩, x1⟩ := HRD.out wr HA.out.below i hlt
      have hxs := HOK.out l[i] (List.getElem_mem hlt)
      have HTK := Lib.hid (show assignB (l.take (i + 1)) = assignB (l.take i) ++ [nextB (assignB (l.take i)) l[i]] from by rw [List.take_succ_eq_append_getElem hlt, assign_snoc])
      have HLN := Lib.hid (show (assignB (l.take i)).length = i from by rw [assign_length, List.length_take]; omega)
      generalize l[i] = x at x1 hxs HTK
      generalize assignB (l.take i) = out at HA HTK HLN
      go_wp2_with fail
      have H2 := Lib.hid (HA.out.step (below_alloc (Below.refl _ _) (.cells #[.int .u64 id, .string x] 26)))
      generalize wr.alloc _ = w2 at H2 ⊢
      clear x0 x1 HA
      refine (fix_any x hxs w2).mono ?_
      rintro e w3 ⟨rfl, hb3⟩
      have H3 := Lib.hid (H2.out.step hb3)
      clear hb3 H2
      obtain ⟨J, hJ⟩ : ∃ J, J = nextJ out (fixB x) := ⟨_, rfl⟩
      have hJl : J ≤ i + 1 := by have := next_le out (fixB x); have := HLN.out; omega
      have HFR := Lib.hid (next_free out (fixB x))
      have HNB := Lib.hid (show nextB out x = tryB (fixB x) J from by rw [hJ]; rfl)
      rw [← hJ] at HFR
      have hfs := fix_size x
      clear hJ
      rw [HNB.out] at HTK
      clear HNB
      generalize fixB x = first at HFR HTK hfs ⊢
      go_wp2_with fail
      go_loopw [8, 9] (fun u8 u9 wr' => ∃ j : Nat, j ≤ J ∧ u8 = .string (tryB first j) ∧ u9 = .int .i64 ((j : Int) + 1) ∧ Hid (Ass w wr' b u4 out)) (fun _ n _ => J + 2 - (intOf n).toNat)
      case atStart => exact ⟨0, by omega, rfl, rfl, H3⟩
      case round =>
        obtain ⟨j, hj, rfl, rfl, HI⟩ := hrel
        clear H3
        obtain ⟨s, hs⟩ : ∃ s, s = tryB first j := ⟨_, rfl⟩
        have hss : s.size ≤ 32 := by rw [hs]; exact try_size first j hfs (by omega)
        rw [← hs]
        have HS := Lib.hid hs
        clear hs
        go_wp2_with fail
        refine (fold_any s (by omega) _).mono ?_
        rintro e w5 ⟨rfl, hb5⟩
        have H5 := Lib.hid (HI.out.step hb5)
        clear hb5 HI
        have hfz := fold_size s
        by_cases hjl : j < J
        · have l1 := H5.out.look (foldB s) (by unfold maxLen; omega) (t := true) ⟨fun _ => by rw [HS.out]; exact HFR.out.2 j hjl, fun _ => rfl⟩
          have hot := other_any first (by omega) (j + 1) w5 ((HSAY.out.below H5.out.below).less (by omega))
          rw [show ((j + 1 : Nat) : Int) = (j : Int) + 1 from by omega] at hot
          go_wp2_with fail
          refine hot.mono ?_
          rintro e w6 ⟨rfl, hb6⟩
          have H6 := Lib.hid (H5.out.step hb6)
          clear hb6 hot
          go_wp2_with fail
          go_roundw
          case rel => exact ⟨j + 1, by omega, by simp [tryB], by go_num, H6⟩
          case measure => simp [intOf]; omega
        · obtain rfl : j = J := by omega
          have hfree : foldB s ∉ out.map foldB := by rw [HS.out]; exact HFR.out.1
          have l1 := H5.out.look (foldB s) (by unfold maxLen; omega) (t := false) ⟨fun h => by simp at h, fun h => absurd h hfree⟩
          have HFE := Lib.hid hfree
          clear hfree
          go_wp2_with fail
          refine (fold_any s (by omega) _).mono ?_
          rintro e w6 ⟨rfl, hb6⟩
          have H6 := Lib.hid (H5.out.step hb6)
          clear hb6 H5 l1
          have hkey : keyOf Tryd.prog 9 (.string (foldB s)) = some (ekS (foldB s)) := WideMaps.keyOf_string_mk Tryd.underlying9 (by unfold maxLen; omega)
          have hul : (used out).length < maxLen := by have := HLN.out; simp only [used, List.length_map]; unfold maxLen; omega
          have HUL := Lib.hid hul
          clear hul
          obtain ⟨A4, c4, rfl, -, -⟩ := Kd.R_reads H6.out.row
          go_wp2_with (first
            | (at_mapUpdate
               refine wpList_store_is _ rfl _ _ _ 30 rfl lawS Tryd.underlying30 rfl H6.out.map HUL.out ekS_inj ekS_key (foldB s) () hkey rfl ?_
               intro w7 hm7 hg7
               rw [used_snoc out s HFE.out] at hm7
               have H7 : Hid (IsMap Tryd.prog 9 ekS evU w7 b (used (out ++ [s])) ∧ Kd.R Kd.string 9 w7 w.heap.size (fun k => k ≠ b) (.slice A4 out.length c4) out ∧ Below w.heap.size w w7) :=
                 ⟨hm7, Kd.R_grown H6.out.row hg7 (fun k hk e => hk (by cases e; rfl)), H6.out.below.grown hg7 H6.out.below.size (fun k e => by cases e; exact H6.out.own)⟩
               clear hm7 hg7)
            | ((with_reducible refine gate_builtin (b := .append) (xs := #[.tmp 33, .tmp 35]) rfl ?_)
               at_builtin
               refine Kd.R_append Kd.string (w0 := w) w.heap.size rfl (.tmp 33) (.tmp 35) 27 9 (.string ⟨#[]⟩) 16 rfl Tryd.underlying27 infoS rfl (by decide) (by omega) _ out s [.string s] (fun k => k ≠ b) (fun _ => False) rfl rfl ?aP (fun _ hk => hk.elim) ?aF ?aO ?aB ?aS ?aL ?_
               (case aP => exact rfl)
               (case aF => exact fun k hk => by have := H7.out.1.lt; omega)
               (case aO => exact H7.out.2.1)
               (case aB => exact H7.out.2.2)
               (case aS => exact H7.out.2.2.size)
               (case aL => have := HLN.out; omega)
               intro v9 w9 ho hb hg hat
               have H9 : Hid (Ass w w9 b v9 (out ++ [s])) := ⟨H7.out.1.kept hg (fun e => H7.out.2.1.1 b e.symm rfl), ho, hb, H6.out.own⟩
               clear ho hb hg hat)
            | fail)
          go_roundw
          case rel =>
            refine ⟨i + 1, by omega, by go_num, ?_⟩
            rw [HTK.out, ← HS.out]
            exact H9
          case measure => simp [intOf]; omega
    · obtain rfl : i = l.length := by omega
      have d1 : decide (((l.length : Nat) : Int) < (l.length : Int)) = false := decide_eq_false (by omega)
      go_wp2_with fail
      go_ret
      refine ⟨_, rfl, ?_, HA.out.below⟩
      have := HA.out.row
      rw [List.take_length] at this
      exact Kd.R_mono this (fun _ _ => trivial)
end Go.Proofs.YtojeadkhahmllaaDoorB
