/- The document's Assign: walked once. -/
import Derived.Test.YtobkpglenpoacaaDoorNameAssign
import Derived.Test.YtobkpglenpoacaaDoorLibused
namespace Go.Proofs.YtobkpglenpoacaaDoorB
set_option linter.unusedVariables false
set_option linter.unusedSimpArgs false
open Go.RowKit Go.Proofs.YtobkpglenpoacaaDoorW.PrintWords Go.Proofs.YtobkpglenpoacaaDoorW.PrintMore Go.Proofs.YtobkpglenpoacaaDoor.Xused

theorem R_empty {α : Type} (d : Kd α) (e : Nat) (W : World) (base : Nat) (hb : base ≤ W.heap.size) (ok : Nat → Prop) (hok : ok W.heap.size) : d.R e (W.alloc (.cells #[] e)) base ok (.slice (some ⟨W.heap.size, 0, none⟩) 0 0) [] := by
  refine ⟨fun k hk => ?_, [], ?_, Reps.none _ _⟩
  · have : W.heap.size = k := by simpa [Value.ownBlock] using hk
    subst this
    exact hok
  · have h2 := World.ownsRow_lit (base := base) (e := e) (size := d.sz) W #[] 0 hb (by decide) (by simp)
    simpa using h2
/-- What the document's Assign keeps. -/
structure RAss (w0 w : World) (v : Value) (out : List ByteArray) : Prop where
  row : Kd.R Kd.string 9 w w0.heap.size (fun _ => True) v out
  below : Below w0.heap.size w0 w
theorem RAss.step {w0 w w' : World} {v : Value} {out : List ByteArray} (h : RAss w0 w v out) (hb : Below w.heap.size w w') : RAss w0 w' v out :=
  ⟨Kd.R_below h.row hb, ⟨hb.os.trans h.below.os, hb.tape.trans h.below.tape, hb.output.trans h.below.output, Nat.le_trans h.below.size hb.size, fun k hk => (hb.block k (Nat.lt_of_lt_of_le hk h.below.size)).trans (h.below.block k hk)⟩⟩
theorem outs_small (l : List ByteArray) (n : Nat) (hn : n ≤ l.length) (hl : l.length ≤ 10000) : ∀ x ∈ assignB (l.take n), x.size ≤ 32 := by
  induction n with
  | zero => intro x hx; simp [assignB] at hx
  | succ n ih =>
    intro x hx
    rw [List.take_succ_eq_append_getElem (by omega), assign_snoc] at hx
    rcases List.mem_append.1 hx with hx | hx
    · exact ih (by omega) x hx
    · obtain rfl := List.mem_singleton.1 hx
      have h1 := next_le (assignB (l.take n)) (fixB (l[n]'(by omega)))
      rw [assign_length, List.length_take] at h1
      exact try_size _ _ (fix_size _) (by omega)

set_option maxHeartbeats 4000000 in
set_option maxRecDepth 100000 in
theorem rassign_any (A : Option Addr) (c : Nat) (l : List ByteArray) (w : World) (hr : Kd.C Kd.string w A l.length l)
    (hc : l.length ≤ c) (hl2 : l.length ≤ 10000) (hok : ∀ s ∈ l, s.size ≤ 1000000) :
    Calls Tryd.prog 9 #[.slice A l.length c] w fun e w' => ∃ v, e = .returned v ∧ Kd.R Kd.string 9 w' w.heap.size (fun _ => True) v (assignB l) ∧ Below w.heap.size w w' := by
  have HR := Lib.hid hr
  have HOK := Lib.hid hok
  clear hr hok
  go_enter Tryd.func9, Tryd.ntmps9
  go_wp2_with fail
  have H0 : Hid (RAss w (w.alloc (.cells #[] 9)) (.slice (some ⟨w.heap.size, 0, none⟩) 0 0) (assignB (l.take 0))) :=
    ⟨R_empty _ _ _ _ (Nat.le_refl _) _ trivial, below_alloc (Below.refl _ _) _⟩
  go_loopw [3, 4] (fun u3 u4 wr => ∃ i : Nat, i ≤ l.length ∧ u4 = .int .i64 i ∧ Hid (RAss w wr u3 (assignB (l.take i)))) (fun _ i _ => l.length + 1 - (intOf i).toNat)
  case atStart => exact ⟨0, by omega, rfl, H0⟩
  case round =>
    obtain ⟨i, hi, rfl, HA⟩ := hrel
    clear H0
    by_cases hlt : i < l.length
    · have d1 : decide ((i : Int) < (l.length : Int)) = true := decide_eq_true (by omega)
      have p1 : (0 ≤ (i : Int)) = True := eq_true (by omega)
      have q1 : ((i : Int) < (l.length : Int)) = True := eq_true (by omega)
      obtain ⟨ad, cc, eA, _, hK, hcc⟩ := Kd.C_get (Kd.C_below HR.out HA.out.below) ByteArray.empty i (by omega) (by omega)
      subst eA
      have x0 : wr.cell? (ad.add i) = some (.string l[i]) := by
        have e : cc = [.string l[i]] := by
          have h2 : cc = [.string (l.getD (i : Int).toNat ByteArray.empty)] := hK
          rw [h2]; simp [List.getD, hlt]
        have h3 : wr.cell? (ad.add ((i : Int).toNat * 1 + 0)) = some (.string l[i]) := hcc 0 (.string l[i]) (by rw [e]; rfl)
        simpa using h3
      clear hK hcc
      have hxs := HOK.out l[i] (List.getElem_mem hlt)
      have HTK := Lib.hid (show assignB (l.take (i + 1)) = assignB (l.take i) ++ [nextB (assignB (l.take i)) l[i]] from by rw [List.take_succ_eq_append_getElem hlt, assign_snoc])
      have HLN := Lib.hid (show (assignB (l.take i)).length = i from by rw [assign_length, List.length_take]; omega)
      have HSM := Lib.hid (outs_small l i hi hl2)
      generalize l[i] = x at x0 hxs HTK
      generalize assignB (l.take i) = out at HA HTK HLN HSM
      obtain ⟨A3, c3, rfl, -, -⟩ := Kd.R_reads HA.out.row
      go_wp2_with fail
      obtain ⟨kf, hkf⟩ := (rfix_ev x hxs).rounds
      refine (arbourref14_Fix.calls kf x (fixB x) _ hkf).mono ?_
      rintro e w3 ⟨rfl, hb3⟩
      have H3 := Lib.hid (HA.out.step hb3)
      clear hb3 hkf HA x0
      obtain ⟨J, hJ⟩ : ∃ J, J = nextJ out (fixB x) := ⟨_, rfl⟩
      have hJl : J ≤ i + 1 := by have := next_le out (fixB x); have := HLN.out; omega
      have HFR := Lib.hid (next_free out (fixB x))
      have HNB := Lib.hid (show nextB out x = tryB (fixB x) J from by rw [hJ]; rfl)
      rw [← hJ] at HFR
      have hfs := fix_size x
      clear hJ
      rw [HNB.out] at HTK
      clear HNB
      generalize fixB x = first at HFR HTK hfs ⊢
      go_wp2_with fail
      go_loopw [5, 7] (fun u5 u7 wr' => ∃ j : Nat, j ≤ J ∧ u5 = .string (tryB first j) ∧ u7 = .int .i64 ((j : Int) + 1) ∧ Hid (RAss w wr' (.slice A3 out.length c3) out)) (fun _ n _ => J + 2 - (intOf n).toNat)
      case atStart => exact ⟨0, by omega, rfl, rfl, H3⟩
      case round =>
        obtain ⟨j, hj, rfl, rfl, HI⟩ := hrel
        clear H3
        obtain ⟨s, hs⟩ : ∃ s, s = tryB first j := ⟨_, rfl⟩
        have hss : s.size ≤ 32 := by rw [hs]; exact try_size first j hfs (by omega)
        rw [← hs]
        have HS := Lib.hid hs
        clear hs
        go_wp2_with fail
        obtain ⟨ku, hku⟩ := (rused_ev out s (fun y hy => by have := HSM.out y hy; omega) (by omega) (by have := HLN.out; omega)).rounds
        have hrr := Kd.R_reads' HI.out.row
        by_cases hjl : j < J
        · have hu : isUsed out s = true := (isUsed_iff _ _).2 (by rw [HS.out]; exact HFR.out.2 j hjl)
          rw [hu] at hku
          refine (arbourref14_used.calls ku A3 c3 out s true _ hrr.2.2 hrr.2.1 hku).mono ?_
          rintro e w5 ⟨rfl, hb5⟩
          have H5 := Lib.hid (HI.out.step hb5)
          clear hb5 HI hrr hku hu
          obtain ⟨kd, hkd⟩ := (rdigits_ev (j + 1) (by omega)).rounds
          rw [show ((j + 1 : Nat) : Int) = (j : Int) + 1 from by omega] at hkd
          have hdl := digits_len 5 (j + 1) (by omega)
          obtain ⟨D, hD⟩ : ∃ D, D = Lib.decDigits (j + 1) := ⟨_, rfl⟩
          rw [← hD] at hdl hkd
          have HO : Hid (tryB first (j + 1) = ⟨(first.data.toList.take (31 - D.length) ++ 126 :: D).toArray⟩) := by unfold tryB otherB otherL; rw [if_neg (by omega), ← hD]; rfl
          have hz0 : (⟨#[126]⟩ : ByteArray).size = 1 := rfl
          have hz1 : (⟨D.toArray⟩ : ByteArray).size = D.length := by simp [ByteArray.size]
          have hfl : first.data.toList.length = first.size := by simp
          have hadd : (1 : Nat) + D.length ≤ 9223372036854775807 := by omega
          clear hD
          go_wp2_with fail
          refine (arbourref14_digits.calls kd _ _ _ hkd).mono ?_
          rintro e w6 ⟨rfl, hb6⟩
          have H6 := Lib.hid (H5.out.step hb6)
          clear hb6 hkd
          by_cases hm : first.size ≤ 31 - D.length
          · have hadd2 : first.size + (1 + D.length) ≤ 9223372036854775807 := by omega
            have dm : decide (32 - (1 + (D.length : Int)) < (first.size : Int)) = false := decide_eq_false (by omega)
            go_wp2_with fail
            go_roundw
            case rel =>
              refine ⟨j + 1, by omega, ?_, by go_num, H6⟩
              rw [HO.out, List.take_of_length_le (by omega)]
              rw [bytes_inj (a := first ++ ((⟨#[126]⟩ : ByteArray) ++ ⟨D.toArray⟩)) (b := ⟨(first.data.toList ++ 126 :: D).toArray⟩) (by simp)]
            case measure => simp [intOf]; omega
          · have hadd2 : 32 - (1 + D.length) + (1 + D.length) ≤ 9223372036854775807 := by omega
            have hx : (first.extract 0 (32 - (1 + D.length))).size = 32 - (1 + D.length) := by rw [ByteArray.size_extract]; omega
            have dm : decide (32 - (1 + (D.length : Int)) < (first.size : Int)) = true := decide_eq_true (by omega)
            go_wp2_with fail
            go_roundw
            case rel =>
              refine ⟨j + 1, by omega, ?_, by go_num, H6⟩
              rw [HO.out]
              rw [bytes_inj (a := first.extract 0 (32 - (1 + D.length)) ++ ((⟨#[126]⟩ : ByteArray) ++ ⟨D.toArray⟩)) (b := ⟨(first.data.toList.take (31 - D.length) ++ 126 :: D).toArray⟩) (by
                rw [show 31 - D.length = 32 - (1 + D.length) from by omega]
                simp [List.extract])]
            case measure => simp [intOf]; omega
        · obtain rfl : j = J := by omega
          have hu : isUsed out s = false := by
            cases h : isUsed out s with
            | false => rfl
            | true => exact absurd ((isUsed_iff _ _).1 h) (by rw [HS.out]; exact HFR.out.1)
          rw [hu] at hku
          refine (arbourref14_used.calls ku A3 c3 out s false _ hrr.2.2 hrr.2.1 hku).mono ?_
          rintro e w5 ⟨rfl, hb5⟩
          have H5 := Lib.hid (HI.out.step hb5)
          clear hb5 HI hrr hku hu
          go_wp2_with (first
            | ((with_reducible refine gate_builtin (b := .append) (xs := #[.tmp 45, .tmp 47]) rfl ?_)
               at_builtin
               refine Kd.R_append Kd.string (w0 := w) w.heap.size rfl (.tmp 45) (.tmp 47) 22 9 (.string ⟨#[]⟩) 16 rfl Tryd.underlying22 infoS rfl (by decide) (by omega) _ out s [.string s] (fun _ => True) (fun _ => False) rfl rfl ?aP (fun _ hk => hk.elim) ?aF ?aO ?aB ?aS ?aL ?_
               (case aP => exact rfl)
               (case aF => exact fun _ _ => trivial)
               (case aO => exact H5.out.row)
               (case aB => exact H5.out.below)
               (case aS => exact H5.out.below.size)
               (case aL => have := HLN.out; omega)
               intro v9 w9 ho hb hg hat
               have H9 : Hid (RAss w w9 v9 (out ++ [s])) := ⟨ho, hb⟩
               clear ho hb hg hat)
            | fail)
          go_roundw
          case rel =>
            refine ⟨i + 1, by omega, by go_num, ?_⟩
            rw [HTK.out, ← HS.out]
            exact H9
          case measure => simp [intOf]; omega
    · obtain rfl : i = l.length := by omega
      have d1 : decide (((l.length : Nat) : Int) < (l.length : Int)) = false := decide_eq_false (by omega)
      go_wp2_with fail
      go_ret
      refine ⟨_, rfl, ?_, HA.out.below⟩
      have := HA.out.row
      rw [List.take_length] at this
      exact this
end Go.Proofs.YtobkpglenpoacaaDoorB
