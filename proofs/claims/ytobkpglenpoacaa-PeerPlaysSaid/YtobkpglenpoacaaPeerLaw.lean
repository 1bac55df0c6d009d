/- The statements' own functions of layer 20: awake, and the laws PeerNil, PeerShares. -/
import Derived.Test.YtobkpglenpoacaaPeer
import Derived.Test.YtobkpglenpoacaaWMore
import Derived.Laws.BitsLemmas
namespace Go.Proofs.YtobkpglenpoacaaP
open Go.RowKit Go.Maps Go.Proofs.YtobkpglenpoacaaM Go.Proofs.YtobkpglenpoacaaW.PrintWords Go.Proofs.YtobkpglenpoacaaW.PrintMore

theorem nil_take (who n : Int) (w : World) : Calls Try.prog 20 #[.pointer none, .int .i64 who, .int .i64 n] w fun e w' => e = .returned (.bool false) ∧ w = w' := by
  go_enter Try.func20, Try.ntmps20
  go_wp2
  go_ret
  exact ⟨rfl, rfl⟩
theorem nil_ask (s : ByteArray) (w : World) : Calls Try.prog 22 #[.pointer none, .string s] w fun e w' => e = .returned (.bool false) ∧ w = w' := by
  go_enter Try.func22, Try.ntmps22
  go_wp2
  go_ret
  exact ⟨rfl, rfl⟩
theorem nil_asked (w : World) : Calls Try.prog 26 #[.pointer none] w fun e w' => e = .returned (.int .i64 0) ∧ w = w' := by
  go_enter Try.func26, Try.ntmps26
  go_wp2
  go_ret
  exact ⟨rfl, rfl⟩
theorem nil_got (s : ByteArray) (w : World) : Calls Try.prog 23 #[.pointer none, .string s] w fun e w' => e = .returned (.tuple #[]) ∧ w = w' := by
  go_enter Try.func23, Try.ntmps23
  go_wp2
  go_end0
  exact ⟨rfl, rfl⟩
theorem nil_tick (w : World) : Calls Try.prog 25 #[.pointer none] w fun e w' => e = .returned (.tuple #[]) ∧ w = w' := by
  go_enter Try.func25, Try.ntmps25
  go_wp2
  refine bodyPost_ret (results_none rfl _ _ _) rfl ?_
  exact ⟨rfl, rfl⟩

/-- k times m at key 1. -/
def cnt (k : Nat) (m : Int) : List (Int × Int) := if k = 0 then [] else [(1, k * m)]
theorem at0_cnt (k : Nat) (m : Int) : at0 (cnt k m) 1 = k * m := by
  unfold cnt
  by_cases h : k = 0
  · subst h; simp [at0, get_nil]
  · rw [if_neg h]; simp [at0, get_cons]
theorem set_cnt (k : Nat) (m : Int) : setL (cnt k m) 1 (k * m + m) = cnt (k + 1) m := by
  have e : (k : Int) * m + m = ((k + 1 : Nat) : Int) * m := by rw [Int.natCast_add, Int.add_mul]; simp
  unfold cnt
  by_cases h : k = 0
  · subst h; simp [setL]
  · rw [if_neg h, if_neg (by omega), e]; simp [setL]
theorem cnt_len (k : Nat) (m : Int) : (cnt k m).length ≤ 1000000 := by unfold cnt; split <;> simp

theorem Turn.inner {S : Nat → Prop} {w w1 w2 : World} (h : Turn (fun _ => False) w w1) (hS : ∀ k, S k → w.heap.size ≤ k) (h2 : Turn S w1 w2) : Turn (fun _ => False) w w2 :=
  ⟨h2.os.trans h.os, h2.tape.trans h.tape, h2.output.trans h.output, Nat.le_trans h.size h2.size, fun k hk _ => (h2.block k (Nat.lt_of_lt_of_le hk h.size) (fun hs => by have := hS k hs; omega)).trans (h.block k hk (fun hf => hf))⟩

set_option maxRecDepth 100000 in
theorem awake_any (w : World) : Calls Try.prog 19 #[] w fun e w' => e = .returned (.bool true) ∧ Turn (fun _ => False) w w' := by
  go_enter Try.func19, Try.ntmps19
  go_wp2_with fail
  refine (new_any w).mono ?_
  rintro e w1 ⟨rfl, h1, t1⟩
  obtain ⟨g, hg⟩ : ∃ g, g = w.heap.size + 3 := ⟨_, rfl⟩
  obtain ⟨bF, hF⟩ : ∃ g, g = w.heap.size := ⟨_, rfl⟩
  obtain ⟨bB, hB⟩ : ∃ g, g = w.heap.size + 1 := ⟨_, rfl⟩
  obtain ⟨bA, hA⟩ : ∃ g, g = w.heap.size + 2 := ⟨_, rfl⟩
  rw [← hg, ← hB, ← hA] at h1
  rw [← hg]
  have hfoot : Hid (∀ k, Foot g bF bB bA k → w.heap.size ≤ k) := fun k hk => by rcases hk with rfl | rfl | rfl | rfl <;> omega
  rw [← hF] at h1
  have T1 := Lib.hid t1
  have H1 : Hid (IsPeers w1 g bF bB bA (cnt 0 1) (cnt 0 5) [] 0) := h1
  clear h1 t1 hg hF hB hA
  go_wp2_with fail
  go_loopw [2] (fun i wr => ∃ k : Nat, k ≤ 16 ∧ i = .int .i64 k ∧ Hid (IsPeers wr g bF bB bA (cnt k 1) (cnt k 5) [] 0 ∧ Turn (Foot g bF bB bA) w1 wr)) (fun i _ => 16 - (intOf i).toNat)
  case atStart => exact ⟨0, by omega, rfl, H1.out, Turn.refl _ _⟩
  case round =>
    obtain ⟨k, hk, rfl, hrel⟩ := hrel
    have HL := hrel
    clear hrel
    by_cases hlt : k < 16
    · go_wp2_with fail
      refine (take_yes HL.out.1 1 5 (by decide) (by omega) (by rw [at0_cnt]; omega) (by rw [at0_cnt]; omega) (by rw [at0_cnt]; omega) (by rw [at0_cnt]; omega) (cnt_len _ _) (cnt_len _ _)).mono ?_
      rintro e w2 ⟨rfl, h2, t2⟩
      rw [at0_cnt, at0_cnt, set_cnt, set_cnt] at h2
      have H2 := Lib.hid (And.intro h2 ((HL.out.2).trans t2))
      clear h2 t2
      go_wp2_with fail
      go_roundw
      case rel => exact ⟨k + 1, by omega, by go_num, H2.out⟩
      case measure => simp [intOf]; omega
    · obtain rfl : k = 16 := by omega
      go_wp2_with fail
      refine (take_full HL.out.1 1 5 (by decide) (by omega) (by rw [at0_cnt]; omega)).mono ?_
      rintro e w2 ⟨rfl, rfl⟩
      go_wp2_with fail
      refine (take_yes HL.out.1 2 5 (by decide) (by omega) (by decide) (by decide) (by decide) (by decide) (cnt_len _ _) (cnt_len _ _)).mono ?_
      rintro e w2 ⟨rfl, h2, t2⟩
      have H2 := Lib.hid (And.intro h2 ((HL.out.2).trans t2))
      clear h2 t2
      go_wp2_with fail
      refine (tick_any H2.out.1 (by omega) (by omega) (by simp)).mono ?_
      rintro e w3 ⟨rfl, h3, t3⟩
      have H3 := Lib.hid (And.intro h3 ((H2.out.2).trans t3))
      clear h3 t3
      go_wp2_with fail
      refine (take_yes H3.out.1 1 5 (by decide) (by omega) (by decide) (by decide) (by decide) (by decide) (by simp) (by simp)).mono ?_
      rintro e w4 ⟨rfl, h4, t4⟩
      have H4 := Lib.hid (And.intro h4 ((H3.out.2).trans t4))
      clear h4 t4
      go_wp2_with fail
      refine (ask_yes H4.out.1 (⟨#[97]⟩ : ByteArray) (by decide) rfl (by simp)).mono ?_
      rintro e w5 ⟨rfl, h5, t5⟩
      have H5 := Lib.hid (And.intro h5 ((H4.out.2).trans t5))
      clear h5 t5
      go_wp2_with fail
      refine (ask_no H5.out.1 (⟨#[97]⟩ : ByteArray) (by decide) (by simp [get_cons])).mono ?_
      rintro e w6 ⟨rfl, h6, t6⟩
      have H6 := Lib.hid (And.intro h6 ((H5.out.2).trans t6))
      clear h6 t6
      go_wp2_with fail
      refine (asked_any H6.out.1).mono ?_
      rintro e w7 ⟨rfl, rfl⟩
      go_wp2_with fail
      go_ret
      exact ⟨rfl, (T1.out).inner hfoot.out (H6.out.2)⟩
theorem Turn.toBelow {w w' : World} (h : Turn (fun _ => False) w w') : Below w.heap.size w w' := h.below (Nat.le_refl _) (fun _ hk => hk.elim)

set_option maxRecDepth 100000 in
theorem nil_law (who n : Int) (what : ByteArray) (w : World) (_ : (Lit.int .i64 who).wf = true) (_ : (Lit.int .i64 n).wf = true) (_ : what.size ≤ 140737488351232) :
    Calls Try.prog 8 #[.int .i64 who, .int .i64 n, .string what] w fun e w' => e = .returned (.bool true) ∧ Below w.heap.size w w' := by
  go_enter Try.func8, Try.ntmps8
  go_wp2_with fail
  refine (nil_tick _).mono ?_
  rintro e w1 ⟨rfl, rfl⟩
  go_wp2_with fail
  refine (nil_got _ _).mono ?_
  rintro e w1 ⟨rfl, rfl⟩
  go_wp2_with fail
  refine (awake_any _).mono ?_
  rintro e w1 ⟨rfl, h1⟩
  have H1 := Lib.hid h1
  clear h1
  go_wp2_with fail
  refine (nil_take _ _ _).mono ?_
  rintro e w2 ⟨rfl, rfl⟩
  go_wp2_with fail
  refine (nil_ask _ _).mono ?_
  rintro e w2 ⟨rfl, rfl⟩
  go_wp2_with fail
  refine (nil_asked _).mono ?_
  rintro e w2 ⟨rfl, rfl⟩
  go_wp2_with fail
  go_ret
  exact ⟨rfl, (H1.out).toBelow⟩

/-- A mask of the low bits, of any number. -/
theorem bits_low (x : Int) (j : Nat) (hj : j ≤ 62) : 0 ≤ Go.bits .and .i64 x (2 ^ j - 1) ∧ Go.bits .and .i64 x (2 ^ j - 1) ≤ 2 ^ j - 1 := by
  have hp : (2 ^ j : Nat) ≤ 2 ^ 62 := Nat.pow_le_pow_right (by decide) hj
  have hpos : 0 < (2 ^ j : Nat) := Nat.two_pow_pos j
  have hc : ((2 : Int) ^ j - 1) = ((2 ^ j - 1 : Nat) : Int) := by rw [Int.natCast_sub hpos]; simp
  have hlt : (2 : Nat) ^ 62 < 2 ^ 64 := by decide
  have h1 : ((BitVec.ofInt 64 x &&& BitVec.ofInt 64 ((2 : Int) ^ j - 1)).toNat) ≤ 2 ^ j - 1 := by
    rw [BitVec.toNat_and, hc, BitVec.ofInt_natCast, BitVec.toNat_ofNat, Nat.mod_eq_of_lt (by omega)]
    exact Nat.and_le_right
  have h2 : Go.bits .and .i64 x (2 ^ j - 1) = ((BitVec.ofInt 64 x &&& BitVec.ofInt 64 ((2 : Int) ^ j - 1)).toNat : Int) := by
    unfold Go.bits
    show IntKind.i64.wrap _ = _
    rw [IntKind.wrap_i64]
    show ((BitVec.ofInt 64 x &&& BitVec.ofInt 64 ((2 : Int) ^ j - 1)).toNat + 9223372036854775808 : Int) % 18446744073709551616 - 9223372036854775808 = _
    have : (2 : Nat) ^ 62 = 4611686018427387904 := by decide
    omega
  rw [h2]
  rw [hc] at h1 ⊢
  omega
theorem bits_63 (x : Int) : 0 ≤ Go.bits .and .i64 x 63 ∧ Go.bits .and .i64 x 63 ≤ 63 := bits_low x 6 (by decide)
theorem bits_31 (x : Int) : 0 ≤ Go.bits .and .i64 x 31 ∧ Go.bits .and .i64 x 31 ≤ 31 := bits_low x 5 (by decide)

/-- Whether a frame is taken. -/
def takeOk (fr bs : List (Int × Int)) (who n : Int) : Bool := decide (0 ≤ n) && decide (at0 fr who < 16) && decide (n ≤ 131072 - at0 bs who)
theorem take_any {w : World} {g bF bB bA : Nat} {fr bs : List (Int × Int)} {ask : List (ByteArray × Int)} {tick : Int} (h : IsPeers w g bF bB bA fr bs ask tick) (who n : Int) (hwho : (Lit.int .i64 who).wf = true)
    (hc : 0 ≤ at0 fr who) (hb : 0 ≤ at0 bs who) (hb1 : at0 bs who ≤ 131072) (hlf : fr.length ≤ 1000000) (hlb : bs.length ≤ 1000000) :
    Calls Try.prog 20 #[.pointer (some ⟨g, 0, none⟩), .int .i64 who, .int .i64 n] w fun e w' => e = .returned (.bool (takeOk fr bs who n)) ∧
      IsPeers w' g bF bB bA (if takeOk fr bs who n then setL fr who (at0 fr who + 1) else fr) (if takeOk fr bs who n then setL bs who (at0 bs who + n) else bs) ask tick ∧ Turn (Foot g bF bB bA) w w' := by
  by_cases h1 : 0 ≤ n
  · by_cases h2 : at0 fr who < 16
    · by_cases h3 : n ≤ 131072 - at0 bs who
      · have e : takeOk fr bs who n = true := by simp [takeOk, h1, h2, h3]
        rw [e]
        exact take_yes h who n hwho h1 hc h2 hb h3 hlf hlb
      · have e : takeOk fr bs who n = false := by simp [takeOk, h3]
        rw [e]
        exact (take_much h who n hwho h1 h2 hb hb1 (by omega)).mono fun e w' ⟨h1, h2⟩ => by subst h2; exact ⟨h1, h, Turn.refl _ _⟩
    · have e : takeOk fr bs who n = false := by simp [takeOk, h2]
      rw [e]
      exact (take_full h who n hwho h1 (by omega)).mono fun e w' ⟨h1, h2⟩ => by subst h2; exact ⟨h1, h, Turn.refl _ _⟩
  · have e : takeOk fr bs who n = false := by simp [takeOk, h1]
    rw [e]
    exact (take_neg g w who n (by omega)).mono fun e w' ⟨h1, h2⟩ => by subst h2; exact ⟨h1, h, Turn.refl _ _⟩
theorem at0_setL (l : List (Int × Int)) (x y v : Int) : at0 (setL l x v) y = if x = y then v else at0 l y := by
  unfold at0; rw [get_setL]; split <;> rfl
theorem len_setL (l : List (Int × Int)) (x v : Int) : (setL l x v).length ≤ l.length + 1 := by rw [length_setL]; split <;> omega

/-- What the first loop of PeerShares keeps. -/
def ShareA (i : Nat) (fr bs : List (Int × Int)) : Prop := fr.length ≤ i ∧ bs.length ≤ i ∧ 0 ≤ at0 fr 1 ∧ 0 ≤ at0 bs 1 ∧ at0 bs 1 ≤ 131072 ∧ at0 fr 2 = 0 ∧ at0 bs 2 = 0
theorem shareA_step {i : Nat} {fr bs : List (Int × Int)} {n : Int} (h : ShareA i fr bs) : ShareA (i + 1) (if takeOk fr bs 1 n then setL fr 1 (at0 fr 1 + 1) else fr) (if takeOk fr bs 1 n then setL bs 1 (at0 bs 1 + n) else bs) := by
  obtain ⟨h1, h2, h3, h4, h5, h6, h7⟩ := h
  by_cases e : takeOk fr bs 1 n = true
  · rw [if_pos e, if_pos e]
    simp only [takeOk, Bool.and_eq_true, decide_eq_true_eq] at e
    have l1 := len_setL fr 1 (at0 fr 1 + 1)
    have l2 := len_setL bs 1 (at0 bs 1 + n)
    refine ⟨by omega, by omega, ?_, ?_, ?_, ?_, ?_⟩ <;> rw [at0_setL]
    · rw [if_pos rfl]; omega
    · rw [if_pos rfl]; omega
    · rw [if_pos rfl]; omega
    · rw [if_neg (by decide)]; exact h6
    · rw [if_neg (by decide)]; exact h7
  · rw [if_neg e, if_neg e]; exact ⟨by omega, by omega, h3, h4, h5, h6, h7⟩
/-- What the second one keeps. -/
def ShareB (j : Nat) (fr bs : List (Int × Int)) : Prop := fr.length ≤ 64 + j ∧ bs.length ≤ 64 + j ∧ at0 fr 2 = (min j 16 : Nat) ∧ at0 bs 2 = 10 * (min j 16 : Nat)
theorem shareB_ok {j : Nat} {fr bs : List (Int × Int)} (h : ShareB j fr bs) : takeOk fr bs 2 10 = decide (j < 16) := by
  obtain ⟨h1, h2, h3, h4⟩ := h
  unfold takeOk
  rw [h3, h4]
  by_cases e : j < 16
  · rw [decide_eq_true e, decide_eq_true (by omega), decide_eq_true (by omega), decide_eq_true (by omega)]; rfl
  · rw [decide_eq_false e, decide_eq_false (p := ((min j 16 : Nat) : Int) < 16) (by omega)]; simp
theorem shareB_step {j : Nat} {fr bs : List (Int × Int)} (h : ShareB j fr bs) : ShareB (j + 1) (if takeOk fr bs 2 10 then setL fr 2 (at0 fr 2 + 1) else fr) (if takeOk fr bs 2 10 then setL bs 2 (at0 bs 2 + 10) else bs) := by
  rw [shareB_ok h]
  obtain ⟨h1, h2, h3, h4⟩ := h
  by_cases e : j < 16
  · rw [decide_eq_true e, if_pos rfl, if_pos rfl]
    have l1 := len_setL fr 2 (at0 fr 2 + 1)
    have l2 := len_setL bs 2 (at0 bs 2 + 10)
    refine ⟨by omega, by omega, ?_, ?_⟩ <;> rw [at0_setL, if_pos rfl] <;> omega
  · rw [decide_eq_false e, if_neg (by decide), if_neg (by decide)]; exact ⟨by omega, by omega, by omega, by omega⟩

attribute [local go_sem] max2_int min2_int max_two min_two
set_option maxRecDepth 100000 in
theorem shares_law (n k bytes : Int) (w : World) (_ : (Lit.int .i64 n).wf = true) (_ : (Lit.int .i64 k).wf = true) (_ : (Lit.int .i64 bytes).wf = true) :
    Calls Try.prog 6 #[.int .i64 n, .int .i64 k, .int .i64 bytes] w fun e w' => e = .returned (.bool true) ∧ Below w.heap.size w w' := by
  have b1 := bits_63 n
  have b2 := bits_31 k
  go_enter Try.func6, Try.ntmps6
  go_wp2_with fail
  refine (new_any w).mono ?_
  rintro e w1 ⟨rfl, h1, t1⟩
  obtain ⟨g, hg⟩ : ∃ g, g = w.heap.size + 3 := ⟨_, rfl⟩
  obtain ⟨bF, hF⟩ : ∃ g, g = w.heap.size := ⟨_, rfl⟩
  obtain ⟨bB, hB⟩ : ∃ g, g = w.heap.size + 1 := ⟨_, rfl⟩
  obtain ⟨bA, hA⟩ : ∃ g, g = w.heap.size + 2 := ⟨_, rfl⟩
  rw [← hg, ← hB, ← hA] at h1
  rw [← hg]
  have hfoot : Hid (∀ k, Foot g bF bB bA k → w.heap.size ≤ k) := fun k hk => by rcases hk with rfl | rfl | rfl | rfl <;> omega
  rw [← hF] at h1
  have T1 := Lib.hid t1
  have H0 : Hid (IsPeers w1 g bF bB bA [] [] [] 0) := h1
  clear h1 t1 hg hF hB hA
  go_wp2_with fail
  refine (awake_any w1).mono ?_
  rintro e w2 ⟨rfl, hAw⟩
  have H1 : Hid (IsPeers w2 g bF bB bA [] [] [] 0) := (H0.out).later (fun k hk _ => hAw.block k hk (fun hf => hf))
  have T2 : Hid (Turn (fun _ => False) w w2) := (T1.out).trans hAw
  clear hAw H0 T1
  go_wp2_with fail
  go_loopw [8] (fun i wr => ∃ (j : Nat) (fr bs : List (Int × Int)), (j : Int) ≤ Go.bits .and .i64 n 63 ∧ i = .int .i64 j ∧ Hid (IsPeers wr g bF bB bA fr bs [] 0 ∧ ShareA j fr bs ∧ Turn (Foot g bF bB bA) w2 wr)) (fun i _ => 64 - (intOf i).toNat)
  case atStart => exact ⟨0, [], [], by omega, rfl, H1.out, ⟨by simp, by simp, by decide, by decide, by decide, by decide, by decide⟩, Turn.refl _ _⟩
  case round =>
    obtain ⟨j, fr, bs, hj, rfl, hrel⟩ := hrel
    have HL := hrel
    clear hrel
    by_cases hlt : (j : Int) < Go.bits .and .i64 n 63
    · go_wp2_with fail
      obtain ⟨s1, s2, s3, s4, s5, s6, s7⟩ := HL.out.2.1
      refine (take_any HL.out.1 1 bytes (by decide) s3 s4 s5 (by omega) (by omega)).mono ?_
      clear s1 s2 s3 s4 s5 s6 s7
      rintro e w5 ⟨rfl, h2, t2⟩
      have H2 := Lib.hid (And.intro h2 (And.intro (shareA_step (n := bytes) HL.out.2.1) ((HL.out.2.2).trans t2)))
      clear h2 t2
      go_wp2_with fail
      go_roundw
      case rel => exact ⟨j + 1, _, _, by omega, by go_num, H2.out⟩
      case measure => simp [intOf]; omega
    · have hge : Go.bits .and .i64 n 63 ≤ (j : Int) := by omega
      go_wp2_with fail
      go_loopw [9, 10] (fun got i wr => ∃ (m : Nat) (fr bs : List (Int × Int)), (m : Int) ≤ Go.bits .and .i64 k 31 ∧ i = .int .i64 m ∧ got = .int .i64 ((min m 16 : Nat) : Int) ∧ Hid (IsPeers wr g bF bB bA fr bs [] 0 ∧ ShareB m fr bs ∧ Turn (Foot g bF bB bA) w2 wr)) (fun _ i _ => 32 - (intOf i).toNat)
      case atStart =>
        obtain ⟨a1, ⟨s1, s2, s3, s4, s5, s6, s7⟩, a3⟩ := HL.out
        exact ⟨0, fr, bs, by omega, rfl, rfl, a1, ⟨by omega, by omega, by rw [s6]; rfl, by rw [s7]; rfl⟩, a3⟩
      case round =>
        obtain ⟨m, fr2, bs2, hm, rfl, rfl, hrel⟩ := hrel
        have HM := hrel
        clear hrel
        by_cases hlt2 : (m : Int) < Go.bits .and .i64 k 31
        · go_wp2_with fail
          obtain ⟨s1, s2, s3, s4⟩ := HM.out.2.1
          refine (take_any HM.out.1 2 10 (by decide) (by omega) (by omega) (by omega) (by omega) (by omega)).mono ?_
          clear s1 s2 s3 s4
          rw [shareB_ok HM.out.2.1]
          rintro e w3 ⟨rfl, h3, t3⟩
          rw [← shareB_ok HM.out.2.1] at h3
          have H3 := Lib.hid (And.intro h3 (And.intro (shareB_step HM.out.2.1) ((HM.out.2.2).trans t3)))
          clear h3 t3
          by_cases h16 : m < 16
          · have hd : decide (m < 16) = true := decide_eq_true h16
            have e1 : ((min m 16 : Nat) : Int) + 1 = ((min (m + 1) 16 : Nat) : Int) := by omega
            have hb0 : (0 : Int) ≤ ((min m 16 : Nat) : Int) := by omega
            have hb1 : ((min m 16 : Nat) : Int) ≤ 16 := by omega
            have E1 := Lib.hid e1
            clear e1
            go_wp2_with fail
            go_roundw
            case rel => exact ⟨m + 1, _, _, by omega, by go_num, by rw [← E1.out], H3.out⟩
            case measure => simp [intOf]; omega
          · have hd : decide (m < 16) = false := decide_eq_false h16
            have e1 : ((min m 16 : Nat) : Int) = ((min (m + 1) 16 : Nat) : Int) := by omega
            have E1 := Lib.hid e1
            clear e1
            go_wp2_with fail
            go_roundw
            case rel => exact ⟨m + 1, _, _, by omega, by go_num, by rw [← E1.out], H3.out⟩
            case measure => simp [intOf]; omega
        · have hm2 : (m : Int) = Go.bits .and .i64 k 31 := by omega
          have hge2 : Go.bits .and .i64 k 31 ≤ (m : Int) := by omega
          have E2 := Lib.hid hm2
          clear hm2
          go_wp2_with fail
          all_goals go_ret
          all_goals have e2 := E2.out
          all_goals refine ⟨?_, ((T2.out).inner hfoot.out HM.out.2.2).toBelow⟩
          · show Ending.returned (Value.bool (((min m 16 : Nat) : Int) == 16)) = _
            rw [show (((min m 16 : Nat) : Int) == 16) = true from beq_iff_eq.2 (by omega)]
          · show Ending.returned (Value.bool (((min m 16 : Nat) : Int) == Go.bits .and .i64 k 31)) = _
            rw [show (((min m 16 : Nat) : Int) == Go.bits .and .i64 k 31) = true from beq_iff_eq.2 (by omega)]
end Go.Proofs.YtobkpglenpoacaaP
