/- NameMany: the law walked over the names' contracts. -/
import Derived.Test.YtojeadkhahmllaaDoorAssignAll
import Derived.Laws.BitsLemmas
import Derived.Deep.RegionWith
import Derived.Deep.QuietTactic
import Derived.BigQuiet
import Derived.Deep.RegionHeld3
namespace Go.Proofs.YtojeadkhahmllaaDoorB
set_option linter.unusedVariables false
set_option linter.unusedSimpArgs false
open Go.RowKit Go.Maps Go.Proofs.YtojeadkhahmllaaDoorM Go.Proofs.YtojeadkhahmllaaDoorW.PrintWords Go.Proofs.YtojeadkhahmllaaDoorW.PrintMore

abbrev SG := Go.Proofs.YtojeadkhahmllaaDoor.XNameTexts.S26
abbrev kG : Kd SG := Go.Proofs.YtojeadkhahmllaaDoor.XNameTexts.k26
/-- A mask of the low bits, of any number. -/
theorem bits_low (x : Int) (j : Nat) (hj : j ≤ 62) : 0 ≤ Go.bits .and .i64 x (2 ^ j - 1) ∧ Go.bits .and .i64 x (2 ^ j - 1) ≤ 2 ^ j - 1 := by
  have hp : (2 ^ j : Nat) ≤ 2 ^ 62 := Nat.pow_le_pow_right (by decide) hj
  have hpos : 0 < (2 ^ j : Nat) := Nat.two_pow_pos j
  have hc : ((2 : Int) ^ j - 1) = ((2 ^ j - 1 : Nat) : Int) := by rw [Int.natCast_sub hpos]; simp
  have hlt : (2 : Nat) ^ 62 < 2 ^ 64 := by decide
  have h1 : ((BitVec.ofInt 64 x &&& BitVec.ofInt 64 ((2 : Int) ^ j - 1)).toNat) ≤ 2 ^ j - 1 := by
    rw [BitVec.toNat_and, hc, BitVec.ofInt_natCast, BitVec.toNat_ofNat, Nat.mod_eq_of_lt (by omega)]
    exact Nat.and_le_right
  have h2 : Go.bits .and .i64 x (2 ^ j - 1) = ((BitVec.ofInt 64 x &&& BitVec.ofInt 64 ((2 : Int) ^ j - 1)).toNat : Int) := by
    unfold Go.bits
    show IntKind.i64.wrap _ = _
    rw [IntKind.wrap_i64]
    show ((BitVec.ofInt 64 x &&& BitVec.ofInt 64 ((2 : Int) ^ j - 1)).toNat + 9223372036854775808 : Int) % 18446744073709551616 - 9223372036854775808 = _
    have : (2 : Nat) ^ 62 = 4611686018427387904 := by decide
    omega
  rw [h2]
  rw [hc] at h1 ⊢
  omega
theorem bits_127 (x : Int) : 0 ≤ Go.bits .and .i64 x 127 ∧ Go.bits .and .i64 x 127 ≤ 127 := bits_low x 7 (by decide)
theorem R_empty {α : Type} (d : Kd α) (e : Nat) (W : World) (base : Nat) (hb : base ≤ W.heap.size) (ok : Nat → Prop) (hok : ok W.heap.size) : d.R e (W.alloc (.cells #[] e)) base ok (.slice (some ⟨W.heap.size, 0, none⟩) 0 0) [] := by
  refine ⟨fun k hk => ?_, [], ?_, Reps.none _ _⟩
  · have : W.heap.size = k := by simpa [Value.ownBlock] using hk
    subst this
    exact hok
  · have h2 := World.ownsRow_lit (base := base) (e := e) (size := d.sz) W #[] 0 hb (by decide) (by simp)
    simpa using h2
theorem given_read {A : Option Addr} {n : Nat} {l : List SG} {w : World} (h : Kd.C kG w A n l) (hn : n = l.length) : ∀ w', Below w.heap.size w w' → ∀ i (hi : i < (l.map (fun g => g.f1)).length), ∃ ad, A = some ad ∧ (∃ id, w'.cell? (ad.add (i * 2)) = some (.int .u64 id)) ∧ w'.cell? ⟨(ad.add (i * 2)).block, (ad.add (i * 2)).off + 1, none⟩ = some (.string (l.map (fun g => g.f1))[i]) := by
  intro w' hb i hi
  rw [List.length_map] at hi
  obtain ⟨ad, e, x0, x1⟩ := Go.Proofs.YtojeadkhahmllaaDoor.XNameTexts.at_T26 (Kd.C_below h hb) i (by omega) (by omega)
  have e1 : Go.Proofs.YtojeadkhahmllaaDoor.XNameTexts.rd_T26 l i = l[i] := by simp [Go.Proofs.YtojeadkhahmllaaDoor.XNameTexts.rd_T26, List.getD, hi]
  rw [e1] at x0 x1
  exact ⟨ad, e, ⟨_, by simpa using x0⟩, by simpa using x1⟩
theorem first_own (t : ByteArray) (l : List ByteArray) (h : 0 < l.length) (e : l[0] = t) : ∃ r, assignB l = fixB t :: r := by
  cases l with
  | nil => simp at h
  | cons a r =>
    have ha : a = t := e
    subst ha
    have key : ∀ (l : List ByteArray) (out : List ByteArray), out ≠ [] → ∃ r, l.foldl (fun out x => out ++ [nextB out x]) out = out.head! :: r := by
      intro l
      induction l with
      | nil => intro out ho; cases out with
        | nil => exact absurd rfl ho
        | cons b s => exact ⟨s, rfl⟩
      | cons x l ih =>
        intro out ho
        rw [List.foldl_cons]
        obtain ⟨r, hr⟩ := ih (out ++ [nextB out x]) (by simp)
        rw [hr]
        cases out with
        | nil => exact absurd rfl ho
        | cons b s => exact ⟨r, rfl⟩
    have h0 : nextB [] a = fixB a := by
      have h1 := next_free [] (fixB a)
      have : nextJ [] (fixB a) = 0 := by
        rcases Nat.eq_zero_or_pos (nextJ [] (fixB a)) with h2 | h2
        · exact h2
        · exact absurd (h1.2 0 h2) (by simp)
      rw [nextB, this]; rfl
    obtain ⟨q, hq⟩ := key r [fixB a] (by simp)
    refine ⟨q, ?_⟩
    show (a :: r).foldl (fun out x => out ++ [nextB out x]) [] = _
    rw [List.foldl_cons]
    simp only [List.nil_append, h0]
    exact hq

/-- What the law keeps over its second loop. -/
structure Many (w0 w : World) (b : Nat) (v : Value) (l : List ByteArray) (i : Nat) : Prop where
  map : IsMap Tryd.prog 9 ekS evU w b (used (l.take i))
  row : Kd.R Kd.string 9 w w0.heap.size (fun k => k ≠ b) v l
  below : Below w0.heap.size w0 w
  own : w0.heap.size ≤ b
theorem Many.step {w0 w w' : World} {b i : Nat} {v : Value} {l : List ByteArray} (h : Many w0 w b v l i) (hb : Below w.heap.size w w') : Many w0 w' b v l i :=
  ⟨h.map.heap (hb.block _ h.map.lt), Kd.R_below h.row hb, ⟨hb.os.trans h.below.os, hb.tape.trans h.below.tape, hb.output.trans h.below.output, Nat.le_trans h.below.size hb.size, fun k hk => (hb.block k (Nat.lt_of_lt_of_le hk h.below.size)).trans (h.below.block k hk)⟩, h.own⟩

theorem row_read {w : World} {A : Option Addr} {n : Nat} {L : List ByteArray} (h : Kd.C Kd.string w A n L) (m : Nat) (hm : m < L.length) (hn : m < n) : ∃ ad, A = some ad ∧ w.cell? (ad.add m) = some (.string L[m]) := by
  obtain ⟨ad, cc, eA, _, hK, hcc⟩ := Kd.C_get h ByteArray.empty m (by omega) (by omega)
  have e : cc = [.string L[m]] := by
    have h2 : cc = [.string (L.getD (m : Int).toNat ByteArray.empty)] := hK
    rw [h2]; simp [List.getD, hm]
  have h3 : w.cell? (ad.add ((m : Int).toNat * 1 + 0)) = some (.string L[m]) := hcc 0 (.string L[m]) (by rw [e]; rfl)
  exact ⟨ad, eA, by simpa using h3⟩
theorem Many.look {w0 w : World} {b i : Nat} {v : Value} {l : List ByteArray} (h : Many w0 w b v l i) (y : ByteArray) (hy : y.size ≤ maxLen) (ht : y ∉ (l.take i).map foldB) :
    (Instr.lookup 30 (.map (some b)) (.string y) false).run Tryd.prog w = .ok (.bool false) w := by
  have l1 := h.map.run_lookup lawS (t := 30) Tryd.underlying30 (zeroB w) y (WideMaps.keyOf_string_mk Tryd.underlying9 hy)
  rw [l1]
  have h2 := get_used (l.take i) y
  cases hg : get (used (l.take i)) y with
  | none => rfl
  | some u => rw [hg] at h2; exact absurd (h2.1 rfl) ht
theorem sm_below {w6 w w' : World} {a : Addr} {v : Value} (hb : Below w.heap.size w w') (h1 : w.cell? a = some v) (h2 : Below w6.heap.size w6 w) : w'.cell? a = some v ∧ Below w6.heap.size w6 w' :=
  ⟨(hb.cell (p := a) (World.block_lt_of_cell? _ _ h1)).trans h1, h2.trans (hb.mono h2.size)⟩
set_option maxHeartbeats 4000000 in
set_option maxRecDepth 100000 in
theorem many_law (s : ByteArray) (n : Int) (w : World) (ht : Tab w) :
    Calls Tryd.prog 3 #[.string s, .int .i64 n] w fun e w' => e = .returned (.bool true) ∧ Below w.heap.size w w' := by
  have HT := Lib.hid ht
  clear ht
  obtain ⟨K, hK, hK2⟩ : ∃ K : Nat, Go.bits .and .i64 n 127 = K ∧ K ≤ 127 := ⟨(Go.bits .and .i64 n 127).toNat, by have := bits_127 n; omega, by have := bits_127 n; omega⟩
  have hts := Go.Proofs.YtojeadkhahmllaaDoor.XNameTexts.few_size s
  have hfew := Go.Proofs.YtojeadkhahmllaaDoor.XNameTexts.few_some s
  obtain ⟨t, hT⟩ : ∃ t, t = Go.Proofs.YtojeadkhahmllaaDoor.XNameTexts.fewB s := ⟨_, rfl⟩
  rw [← hT] at hts hfew
  clear hT
  go_enter Tryd.func3, Tryd.ntmps3
  go_wp2_with fail
  refine (Go.Proofs.YtojeadkhahmllaaDoor.XNameTexts.arbourlaw14_few.calls s t w hfew).mono ?_
  rintro e w1 ⟨rfl, m1, rfl⟩
  have HB1 := Lib.hid (pw_below_drewN (Below.refl w.heap.size w) m1)
  generalize w.drewN m1 = w1 at HB1 ⊢
  have hmm := @run_makeMap Tryd.prog
  go_wp2_with fail
  have H0 : Hid (Kd.R kG 26 (w1.alloc (.cells #[] 26)) w.heap.size (fun _ => True) (.slice (some ⟨w1.heap.size, 0, none⟩) 0 0) [] ∧ Below w.heap.size w (w1.alloc (.cells #[] 26))) :=
    ⟨R_empty kG _ _ _ HB1.out.size _ trivial, below_alloc HB1.out _⟩
  go_loopw [7, 8] (fun u7 u8 wr => ∃ (i : Nat) (g : List SG), i ≤ K ∧ u8 = .int .i64 i ∧ g.map (fun x => x.f1) = List.replicate i t ∧ Hid (Kd.R kG 26 wr w.heap.size (fun _ => True) u7 g ∧ Below w.heap.size w wr)) (fun _ i _ => K + 1 - (intOf i).toNat)
  case atStart => exact ⟨0, [], by omega, rfl, rfl, H0⟩
  case round =>
    obtain ⟨i, g, hi, rfl, hg, HG⟩ := hrel
    clear H0
    have hgl : g.length = i := by have := congrArg List.length hg; simpa using this
    obtain ⟨A7, c7, rfl, -, -⟩ := Kd.R_reads HG.out.1
    have HGM := Lib.hid hg
    clear hg
    by_cases hlt : i < K
    · have d1 : decide ((i : Int) < (K : Int)) = true := decide_eq_true (by omega)
      go_wp2_with (first
        | ((with_reducible refine gate_builtin (b := .append) (xs := #[.tmp 23, .tmp 29]) rfl ?_)
           at_builtin
           refine Kd.R_append kG (w0 := w) w.heap.size rfl (.tmp 23) (.tmp 29) 23 26 (.agg #[(.int .u64 0), (.string ⟨#[]⟩)]) 24 rfl Tryd.underlying23 Go.Proofs.YtojeadkhahmllaaDoor.XNameTexts.info26 rfl (by decide) (by omega) _ g ⟨16 + (i : Int), t⟩ [.int .u64 (16 + (i : Int)), .string t] (fun _ => True) (fun _ => False) rfl rfl ?aP (fun _ hk => hk.elim) ?aF ?aO ?aB ?aS ?aL ?_
           (case aP => exact Go.Proofs.YtojeadkhahmllaaDoor.XNameTexts.k26_mkM _ _ _ _)
           (case aF => exact fun _ _ => trivial)
           (case aO => exact HG.out.1)
           (case aB => exact HG.out.2)
           (case aS => exact HG.out.2.size)
           (case aL => omega)
           intro v9 w9 ho hb hgr hat
           have H9 := Lib.hid (And.intro ho hb)
           clear ho hb hgr hat)
        | fail)
      go_roundw
      case rel => exact ⟨i + 1, _, by omega, by go_num, by rw [List.map_append, HGM.out, List.replicate_succ']; rfl, H9⟩
      case measure => simp [intOf]; omega
    · obtain rfl : i = K := by omega
      have d1 : decide (((i : Nat) : Int) < (i : Int)) = false := decide_eq_false (by omega)
      go_wp2_with fail
      have hC := Kd.R_reads' HG.out.1
      have hca := assign_any A7 c7 (g.map (fun x => x.f1)) wr (given_read hC.2.2 rfl) (by rw [List.length_map]; exact hC.2.1) (.inr ⟨by rw [List.length_map]; omega, tab_below HT.out HG.out.2⟩) (by rw [List.length_map]; omega) (fun x hx => by
        rw [HGM.out] at hx; have := List.eq_of_mem_replicate hx; subst this; omega)
      rw [List.length_map, HGM.out, hgl] at hca
      refine hca.mono ?_
      clear hca hC
      rintro e w3 ⟨v, rfl, hr3, hb3⟩
      have hall := Go.Proofs.YtojeadkhahmllaaDoor.XNameTexts.assign_all (List.replicate i t) (by simp; omega)
      have hLl : (assignB (List.replicate i t)).length = i := by rw [assign_length]; simp
      have hf0 : 0 < i → (assignB (List.replicate i t))[0]? = some (fixB t) := fun h0 => by
        obtain ⟨r, hr⟩ := first_own t (List.replicate i t) (by simpa using h0) (by simp)
        rw [hr]; rfl
      generalize assignB (List.replicate i t) = L at hr3 hall hLl hf0
      have HALL := Lib.hid hall
      have HF0 := Lib.hid hf0
      obtain ⟨A9, c9, rfl, -, -⟩ := Kd.R_reads hr3
      rw [hLl] at hr3 ⊢
      have H3 : Hid (Kd.R Kd.string 9 w3 w.heap.size (fun _ => True) (.slice A9 i c9) L ∧ Below w.heap.size w w3) :=
        ⟨Kd.R_lower hr3 HG.out.2.size, ⟨hb3.os.trans HG.out.2.os, hb3.tape.trans HG.out.2.tape, hb3.output.trans HG.out.2.output, Nat.le_trans HG.out.2.size hb3.size, fun k hk => (hb3.block k (Nat.lt_of_lt_of_le hk HG.out.2.size)).trans (HG.out.2.block k hk)⟩⟩
      clear hr3 hb3 hall hf0 HG
      go_wp2_with fail
      refine (Go.Proofs.YtojeadkhahmllaaDoor.XNameTexts.arbourlaw14_awake.calls true w3 Go.Proofs.YtojeadkhahmllaaDoor.XNameTexts.awake_some).mono ?_
      rintro e w4 ⟨rfl, hb4⟩
      have H4 : Hid (Kd.R Kd.string 9 w4 w.heap.size (fun _ => True) (.slice A9 i c9) L ∧ Below w.heap.size w w4) :=
        ⟨Kd.R_below H3.out.1 hb4, ⟨hb4.os.trans H3.out.2.os, hb4.tape.trans H3.out.2.tape, hb4.output.trans H3.out.2.output, Nat.le_trans H3.out.2.size hb4.size, fun k hk => (hb4.block k (Nat.lt_of_lt_of_le hk H3.out.2.size)).trans (H3.out.2.block k hk)⟩⟩
      clear H3 hb4
      go_wp2_with fail
      have H5 : Hid (Many w (w4.alloc (.map #[] 0)) w4.heap.size (.slice A9 i c9) L 0) :=
        ⟨IsMap.new w4 _ _, Kd.R_mono (Kd.R_alloc (Kd.R_bound H4.out.1) _) (fun k hk => by have := hk.2.2.1; omega), below_alloc H4.out.2 _, H4.out.2.size⟩
      obtain ⟨b, hb⟩ : ∃ b, b = w4.heap.size := ⟨_, rfl⟩
      rw [← hb] at H5 ⊢
      generalize w4.alloc (.map #[] 0) = w5 at H5 ⊢
      clear hb H4
      go_loopw [11] (fun u11 wr => ∃ m : Nat, m ≤ i ∧ u11 = .int .i64 m ∧ Hid (Many w wr b (.slice A9 i c9) L m)) (fun m _ => i + 1 - (intOf m).toNat)
      case atStart => exact ⟨0, by omega, rfl, H5⟩
      case round =>
        obtain ⟨m, hm, rfl, HM⟩ := hrel
        clear H5
        by_cases hml : m < i
        · have dm : decide ((m : Int) < (i : Int)) = true := decide_eq_true (by omega)
          have p1 : (0 ≤ (m : Int)) = True := eq_true (by omega)
          have q1 : ((m : Int) < (i : Int)) = True := eq_true (by omega)
          have hml2 : m < L.length := by omega
          obtain ⟨ad, rfl, x0⟩ := row_read (Kd.R_reads' HM.out.row).2.2 m hml2 hml2
          have hx := HALL.out.1 L[m] (List.getElem_mem hml2)
          have hfree : foldB L[m] ∉ (L.take m).map foldB := fun hin => by
            rw [List.map_take] at hin
            obtain ⟨j, hj, e⟩ := List.mem_iff_getElem.1 hin
            rw [List.length_take, List.length_map] at hj
            have e2 : (L.map foldB)[j]'(by rw [List.length_map]; omega) = (L.map foldB)[m]'(by rw [List.length_map]; omega) := by
              rw [List.getElem_take] at e; rw [e, List.getElem_map]
            have := (List.getElem_inj HALL.out.2).1 e2
            omega
          have HX := Lib.hid (And.intro hx (And.intro hfree (show L.take (m + 1) = L.take m ++ [L[m]] from List.take_succ_eq_append_getElem hml2)))
          have HX0 := Lib.hid (show m = 0 → L[m] = fixB t from fun h0 => by
            subst h0
            have := HF0.out (by omega)
            rw [List.getElem?_eq_getElem hml2] at this
            exact Option.some.inj this)
          clear hx hfree
          have HLN := Lib.hid (show L.length ≤ 127 by omega)
          have HX1 : Hid (∀ w', Below wr.heap.size wr w' → w'.cell? (ad.add m) = some (.string L[m])) := fun w' hb => by
            obtain ⟨ad2, e2, h2⟩ := row_read (Kd.C_below (Kd.R_reads' HM.out.row).2.2 hb) m hml2 hml2
            cases e2
            exact h2
          generalize L[m] = x at x0 HX HX0 HX1
          obtain ⟨kf, hkf⟩ := (Go.Proofs.YtojeadkhahmllaaDoor.XNameTexts.rfold_ev x (by have := HX.out.1.2; omega)).rounds
          go_wp2_with fail
          refine (Go.Proofs.YtojeadkhahmllaaDoor.XNameTexts.arbourref14_Fold.calls kf x (foldB x) _ hkf).mono ?_
          rintro e w6 ⟨rfl, hb6⟩
          have H6 := Lib.hid (HM.out.step hb6)
          have x1 := HX1.out w6 hb6
          clear hb6 HM x0 hkf
          go_wp2_with fail
          have H7 := Lib.hid (H6.out.step (below_drew (Below.refl w6.heap.size w6)))
          have l1 := H7.out.look (foldB x) (by rw [fold_size]; have := HX.out.1.2; unfold maxLen; omega) HX.out.2.1
          have hkey : keyOf Tryd.prog 9 (.string (foldB x)) = some (ekS (foldB x)) := WideMaps.keyOf_string_mk Tryd.underlying9 (by rw [fold_size]; have := HX.out.1.2; unfold maxLen; omega)
          obtain ⟨kl, hkl⟩ := (Go.Proofs.YtojeadkhahmllaaDoor.XNameTexts.rlegal_ev x (by have := HX.out.1.2; omega)).rounds
          rw [HX.out.1.1] at hkl
          have HKL := Lib.hid hkl
          clear hkl
          by_cases hm0 : m = 0
          · have e0 : ((m : Int) == 0) = true := beq_iff_eq.2 (by omega)
            have ex := HX0.out hm0
            clear hm0
            obtain ⟨kx, hkx⟩ := (Go.Proofs.YtojeadkhahmllaaDoor.XNameTexts.rfix_ev t (by omega)).rounds
            rw [← ex] at hkx
            have HKX := Lib.hid hkx
            clear hkx ex
            have q2 : (x.toList != x.toList) = false := bne_self_eq_false _
            have lk : ∀ w', Below w6.heap.size w6 w' → (Instr.lookup 30 (.map (some b)) (.string (foldB x)) false).run Tryd.prog w' = .ok (.bool false) w' := fun w' hb => (H6.out.step hb).look (foldB x) (by rw [fold_size]; have := HX.out.1.2; unfold maxLen; omega) HX.out.2.1
            clear l1 H7
            go_region_held3 (fun w' => w'.cell? (ad.add m) = some (.string x) ∧ Below w6.heap.size w6 w')
              (first
                | exact ⟨x1, below_drew (Below.refl _ _)⟩
                | exact ⟨x1, pw_below_drewN (Below.refl _ _) _⟩
                | ((refine ⟨?_, ?_⟩) <;> assumption)
                | ((refine ⟨?_, pw_below_drewN ?_ _⟩) <;> assumption)
                | exact sm_below hb x1 (pw_below_drewN (Below.refl _ _) _)
                | ((refine sm_below hb ?_ ?_) <;> assumption))
              (first
                | (go_at_call 9; refine (Go.Proofs.YtojeadkhahmllaaDoor.XNameTexts.arbourref14_Legal.calls kl x true _ HKL.out).mono ?_; rintro e w' ⟨rfl, mm, rfl⟩)
                | (go_at_call 10; refine (Go.Proofs.YtojeadkhahmllaaDoor.XNameTexts.arbourref14_Fix.calls kx t x _ HKX.out).mono ?_; rintro e w' ⟨rfl, hb⟩))
            have H8 := Lib.hid (H6.out.step (sm_below hb x1 (pw_below_drewN (Below.refl _ _) _)).2)
            clear hb lk H6
            all_goals
              go_wp2_with (first
                | (at_mapUpdate
                   refine wpList_store_is _ rfl _ _ _ 30 rfl lawS Tryd.underlying30 rfl H8.out.map (by have := HLN.out; unfold used; simp only [List.length_map, List.length_take]; unfold maxLen; omega) ekS_inj ekS_key (foldB x) () hkey rfl ?_
                   intro w9 hm9 hg9
                   rw [used_snoc (L.take m) x HX.out.2.1, ← HX.out.2.2] at hm9
                   have H9 : Hid (Many w w9 b (.slice (some ad) i c9) L (m + 1)) :=
                     ⟨hm9, Kd.R_grown H8.out.row hg9 (fun k hk e => hk (by cases e; rfl)), H8.out.below.grown hg9 H8.out.below.size (fun k e => by cases e; exact H8.out.own), H8.out.own⟩
                   clear hm9 hg9)
                | fail)
              go_roundw
              case rel => exact ⟨m + 1, by omega, by go_num, H9⟩
              case measure => simp [intOf]; omega
          · have e0 : ((m : Int) == 0) = false := beq_eq_false_iff_ne.2 (by omega)
            have l2 : ∀ n, (Instr.lookup 30 (.map (some b)) (.string (foldB x)) false).run Tryd.prog (w6.drewN n) = .ok (.bool false) (w6.drewN n) := fun n => (H6.out.step (pw_below_drewN (Below.refl w6.heap.size w6) n)).look (foldB x) (by rw [fold_size]; have := HX.out.1.2; unfold maxLen; omega) HX.out.2.1
            clear l1 H7
            go_quiet ((go_at_call 9; exact Calls.quiet_of ((Go.Proofs.YtojeadkhahmllaaDoor.XNameTexts.arbourref14_Legal.calls kl x true _ HKL.out).mono fun e w' ⟨h1, n, h2⟩ => ⟨h1, n, h2⟩)))
            have H8 := Lib.hid (H6.out.step (pw_below_drewN (Below.refl w6.heap.size w6) nq))
            generalize w6.drewN nq = w8 at H8 ⊢
            clear l2 H6
            all_goals
              go_wp2_with (first
                | (at_mapUpdate
                   refine wpList_store_is _ rfl _ _ _ 30 rfl lawS Tryd.underlying30 rfl H8.out.map (by have := HLN.out; unfold used; simp only [List.length_map, List.length_take]; unfold maxLen; omega) ekS_inj ekS_key (foldB x) () hkey rfl ?_
                   intro w9 hm9 hg9
                   rw [used_snoc (L.take m) x HX.out.2.1, ← HX.out.2.2] at hm9
                   have H9 : Hid (Many w w9 b (.slice (some ad) i c9) L (m + 1)) :=
                     ⟨hm9, Kd.R_grown H8.out.row hg9 (fun k hk e => hk (by cases e; rfl)), H8.out.below.grown hg9 H8.out.below.size (fun k e => by cases e; exact H8.out.own), H8.out.own⟩
                   clear hm9 hg9)
                | fail)
              go_roundw
              case rel => exact ⟨m + 1, by omega, by go_num, H9⟩
              case measure => simp [intOf]; omega
        · obtain rfl : m = i := by omega
          have dm : decide (((m : Nat) : Int) < (m : Int)) = false := decide_eq_false (by omega)
          go_wp2_with fail
          go_ret
          exact ⟨rfl, HM.out.below⟩
end Go.Proofs.YtojeadkhahmllaaDoorB
