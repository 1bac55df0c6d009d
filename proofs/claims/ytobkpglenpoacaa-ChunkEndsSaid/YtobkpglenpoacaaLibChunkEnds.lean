/- Plain facts on the printed functions of layer 8 that the statement ChunkEnds reaches. -/
import Derived.Test.YtobkpglenpoacaaXChunkEndsx
namespace Go.Proofs.Ytobkpglenpoacaa.XChunkEnds
open Go.RowKit Go.Proofs.YtobkpglenpoacaaW.PrintWords Go.Proofs.YtobkpglenpoacaaW.PrintLast Go.Proofs.YtobkpglenpoacaaW.PrintMore Go.Proofs.YtobkpglenpoacaaC

theorem bits_range (op : BinOp) (x y : Int) : 0 ≤ Go.bits op .u64 x y ∧ Go.bits op .u64 x y < M64 := by
  unfold Go.bits; simp only [wrap_u64]; unfold M64; omega

theorem text_ev (seed n : Int) (h0 : 0 ≤ n) (h1 : n ≤ 70368744177664) : ∃ r : ByteArray, Ev (fun k => arbourlaw08_Text.f k seed n) r ∧ r.size = n.toNat := by
  have loop : ∀ (d : Nat) (x : Int) (l : List Int) (i : Int), 0 ≤ i → i + d = n → (l.length : Int) = i → ∃ r : ByteArray, Ev (fun k => arbourlaw08_Text.l0 k n l x i) r ∧ r.size = n.toNat := by
    intro d
    induction d with
    | zero =>
      intro x l i hi hd hl
      refine ⟨strOfNums l, Ev.step (f := fun _ => some (strOfNums l)) (fun k => ?_) (Ev.now _), ?_⟩
      · simp only [arbourlaw08_Text.l0]; rw [if_neg (by omega)]
      · simp only [strOfNums, ByteArray.size, List.size_toArray, List.length_map]; omega
    | succ d ih =>
      intro x l i hi hd hl
      have hw : wrap64 (i + 1) = i + 1 := by unfold wrap64; omega
      generalize hb : ((IntKind.u64.wrap ((Go.bits .xor .u64 (Go.bits .xor .u64 (Go.bits .xor .u64 x (IntKind.u64.wrap (x * 8192))) ((Go.bits .xor .u64 x (IntKind.u64.wrap (x * 8192))) / 128)) (IntKind.u64.wrap ((Go.bits .xor .u64 (Go.bits .xor .u64 x (IntKind.u64.wrap (x * 8192))) ((Go.bits .xor .u64 x (IntKind.u64.wrap (x * 8192))) / 128)) * 131072))) + 11400714819323198485))) = b
      obtain ⟨r, hr, hs⟩ := ih b (l ++ [b / 72057594037927936 % 256]) (i + 1) (by omega) (by omega) (by simp; omega)
      refine ⟨r, Ev.step (fun k => ?_) hr, hs⟩
      simp only [arbourlaw08_Text.l0]; rw [if_pos (by omega), if_pos (by omega), hb, hw]
  exact loop n.toNat seed [] 0 (by omega) (by omega) rfl

theorem cut_ev (s : ByteArray) (hs : s.size ≤ 140737488351232) : Ev (fun k => chunk_Cut.f k s) ((cutN gear s : Nat) : Int) := ⟨1026, fun k hk => cut_some s hs k hk⟩

theorem short_chunks : chunks gear (⟨#[115, 104, 111, 114, 116]⟩ : ByteArray) = [(⟨#[115, 104, 111, 114, 116]⟩ : ByteArray)] := by
  have h : cutN gear (⟨#[115, 104, 111, 114, 116]⟩ : ByteArray) = 5 := rfl
  rw [chunks_cons gear (by decide), h, chunks_nil gear (by decide)]
  rfl
theorem awake_ev : Ev (fun k => arbourlaw08_awake.f k) true := by
  have h1 : chunk_List.f (⟨#[115, 104, 111, 114, 116]⟩ : ByteArray) = some [(⟨#[115, 104, 111, 114, 116]⟩ : ByteArray)] := by
    unfold chunk_List.f; rw [if_pos (by decide), short_chunks]
  have h2 : (rdOf ByteArray.empty [(⟨#[115, 104, 111, 114, 116]⟩ : ByteArray)] 0).toList = ([115, 104, 111, 114, 116] : List UInt8) := by
    simp [rdOf]
  refine Ev.congr (f := fun k => (chunk_Cut.f k (⟨#[115, 104, 111, 114, 116]⟩ : ByteArray)).bind fun t => some (t == 5)) (fun k => ?_) ?_
  · unfold arbourlaw08_awake.f
    rw [h1]; simp only [Option.bind_some]
    rw [if_pos (by simp), if_pos (by simp), if_pos h2]
  · exact Ev.bind (cut_ev _ (by decide)) (Ev.now true)

/-! The reference's cut is the same. -/
theorem times_some (a b : Int) (ha : 0 ≤ a) (ha2 : a < M64) (hb : 0 ≤ b) (hb2 : b < M64) : arbourref08_times.f a b = some (a * b % M64) := by
  unfold M64 at ha2 hb2
  have e1 : Int.tmod a 4294967296 = a % 4294967296 := Int.tmod_eq_emod_of_nonneg ha
  have e2 : Int.tmod b 4294967296 = b % 4294967296 := Int.tmod_eq_emod_of_nonneg hb
  have e3 : Int.tdiv a 4294967296 = a / 4294967296 := Int.tdiv_eq_ediv_of_nonneg ha
  have e4 : Int.tdiv b 4294967296 = b / 4294967296 := Int.tdiv_eq_ediv_of_nonneg hb
  unfold arbourref08_times.f
  simp only [e1, e2, e3, e4, wrap_u64]
  congr 1
  obtain ⟨lo, hi, hA, hl0, hl1, hh0, hh1⟩ : ∃ lo hi : Int, a = lo + hi * 4294967296 ∧ 0 ≤ lo ∧ lo < 4294967296 ∧ 0 ≤ hi ∧ hi < 4294967296 := ⟨a % 4294967296, a / 4294967296, by omega, by omega, by omega, by omega, by omega⟩
  obtain ⟨p, q, hB, hp0, hp1, hq0, hq1⟩ : ∃ p q : Int, b = p + q * 4294967296 ∧ 0 ≤ p ∧ p < 4294967296 ∧ 0 ≤ q ∧ q < 4294967296 := ⟨b % 4294967296, b / 4294967296, by omega, by omega, by omega, by omega, by omega⟩
  have d1 : a % 4294967296 = lo := by omega
  have d2 : a / 4294967296 = hi := by omega
  have d3 : b % 4294967296 = p := by omega
  have d4 : b / 4294967296 = q := by omega
  have w1 : hi % M64 = hi := by unfold M64; omega
  have w2 : q % M64 = q := by unfold M64; omega
  rw [d1, d2, d3, d4, w1, w2]
  have hprod : a * b = lo * p + (lo * q + hi * p) * 4294967296 + (hi * q) * M64 := by
    rw [hA, hB]
    unfold M64
    rw [Int.add_mul, Int.mul_add, Int.mul_add]
    rw [show hi * 4294967296 * p = (hi * p) * 4294967296 from by rw [Int.mul_right_comm], show lo * (q * 4294967296) = (lo * q) * 4294967296 from by rw [Int.mul_assoc], show hi * 4294967296 * (q * 4294967296) = (hi * q) * 18446744073709551616 from by
      rw [Int.mul_assoc, Int.mul_comm 4294967296 (q * 4294967296), Int.mul_assoc q, ← Int.mul_assoc hi q]; rfl]
    omega
  rw [hprod]
  generalize lo * p = u
  generalize lo * q = v
  generalize hi * p = x
  generalize hi * q = y
  unfold M64
  rw [Int.tmod_eq_emod_of_nonneg (a := (v % 18446744073709551616 + x % 18446744073709551616) % 18446744073709551616) (by omega)]
  omega

theorem wrap_div (x c : Int) (hx : 0 ≤ x) (h2 : x < M64) (hc : 0 < c) : IntKind.u64.wrap (Int.tdiv x c) = x / c := by
  have h3 : 0 ≤ x / c := Int.ediv_nonneg hx (by omega)
  have h4 : x / c ≤ x := Int.ediv_le_self c hx
  rw [Int.tdiv_eq_ediv_of_nonneg hx, wrap_u64]
  unfold M64 at *
  omega

theorem refGear_some (b : Int) (h0 : 0 ≤ b) (h1 : b ≤ 255) : arbourref08_Gear.f b = some (gear b) := by
  have hb : IntKind.u64.wrap (IntKind.u64.wrap b + 1) = b + 1 := by rw [wrap_u64, wrap_u64]; unfold M64; omega
  have hb0 : IntKind.u64.wrap b = b := by rw [wrap_u64]; unfold M64; omega
  have r0 : ∀ n : Int, 0 ≤ n % M64 ∧ n % M64 < M64 := fun n => by unfold M64; omega
  have hg : gear b = (Go.bits .xor .u64 (IntKind.u64.wrap ((Go.bits .xor .u64 (IntKind.u64.wrap ((Go.bits .xor .u64 (IntKind.u64.wrap ((b + 1) * 11400714819323198485)) ((IntKind.u64.wrap ((b + 1) * 11400714819323198485)) / 1073741824)) * 13787848793156543929)) ((IntKind.u64.wrap ((Go.bits .xor .u64 (IntKind.u64.wrap ((b + 1) * 11400714819323198485)) ((IntKind.u64.wrap ((b + 1) * 11400714819323198485)) / 1073741824)) * 13787848793156543929)) / 134217728)) * 10723151780598845931)) ((IntKind.u64.wrap ((Go.bits .xor .u64 (IntKind.u64.wrap ((Go.bits .xor .u64 (IntKind.u64.wrap ((b + 1) * 11400714819323198485)) ((IntKind.u64.wrap ((b + 1) * 11400714819323198485)) / 1073741824)) * 13787848793156543929)) ((IntKind.u64.wrap ((Go.bits .xor .u64 (IntKind.u64.wrap ((b + 1) * 11400714819323198485)) ((IntKind.u64.wrap ((b + 1) * 11400714819323198485)) / 1073741824)) * 13787848793156543929)) / 134217728)) * 10723151780598845931)) / 2147483648)) := by
    unfold gear chunk_Gear.f
    rw [Option.getD_some, hb]
  rw [hg]
  unfold arbourref08_Gear.f
  rw [hb, times_some (b + 1) _ (by omega) (by unfold M64; omega) (by decide) (by unfold M64; decide), Option.bind_some, ← wrap_u64]
  generalize hx1 : IntKind.u64.wrap ((b + 1) * 11400714819323198485) = x1
  have q1 : 0 ≤ x1 ∧ x1 < M64 := by rw [← hx1, wrap_u64]; exact r0 _
  rw [wrap_div x1 _ q1.1 q1.2 (by decide), times_some _ _ (bits_range .xor x1 (x1 / 1073741824)).1 (bits_range .xor x1 (x1 / 1073741824)).2 (by decide) (by unfold M64; decide), Option.bind_some, ← wrap_u64]
  generalize hx2 : IntKind.u64.wrap (Go.bits .xor .u64 x1 (x1 / 1073741824) * 13787848793156543929) = x2
  have q2 : 0 ≤ x2 ∧ x2 < M64 := by rw [← hx2, wrap_u64]; exact r0 _
  rw [wrap_div x2 _ q2.1 q2.2 (by decide), times_some _ _ (bits_range .xor x2 (x2 / 134217728)).1 (bits_range .xor x2 (x2 / 134217728)).2 (by decide) (by unfold M64; decide), Option.bind_some, ← wrap_u64]
  generalize hx3 : IntKind.u64.wrap (Go.bits .xor .u64 x2 (x2 / 134217728) * 10723151780598845931) = x3
  have q3 : 0 ≤ x3 ∧ x3 < M64 := by rw [← hx3, wrap_u64]; exact r0 _
  rw [wrap_div x3 _ q3.1 q3.2 (by decide)]

theorem gear_range (b : Int) : 0 ≤ gear b ∧ gear b < M64 := by
  unfold gear chunk_Gear.f
  rw [Option.getD_some]
  generalize IntKind.u64.wrap (Go.bits .xor .u64 (IntKind.u64.wrap ((Go.bits .xor .u64 (IntKind.u64.wrap ((IntKind.u64.wrap ((IntKind.u64.wrap b) + 1)) * 11400714819323198485)) ((IntKind.u64.wrap ((IntKind.u64.wrap ((IntKind.u64.wrap b) + 1)) * 11400714819323198485)) / 1073741824)) * 13787848793156543929)) ((IntKind.u64.wrap ((Go.bits .xor .u64 (IntKind.u64.wrap ((IntKind.u64.wrap ((IntKind.u64.wrap b) + 1)) * 11400714819323198485)) ((IntKind.u64.wrap ((IntKind.u64.wrap ((IntKind.u64.wrap b) + 1)) * 11400714819323198485)) / 1073741824)) * 13787848793156543929)) / 134217728) * 10723151780598845931) = x
  exact bits_range .xor x (x / 2147483648)

theorem mul_mod_right (a b n : Int) : a * (b % n) % n = a * b % n := by rw [Int.mul_emod, Int.emod_emod_of_dvd _ (Int.dvd_refl _), ← Int.mul_emod]

/-- The inner loop: the sum of the last bytes. -/
theorem ref_inner (s : ByteArray) (hs : s.size ≤ 140737488351232) (n : Nat) (h32 : 32 ≤ n) (hn : n < s.size) (R : Int) (hnext : ends gear s n = false → Ev (fun k => arbourref08_Cut.l0 k s ((n + 1 : Nat) : Int)) R) (hthis : ends gear s n = true → (n : Int) = R) :
    ∀ (d j : Nat), j + d = min n 64 → Ev (fun k => arbourref08_Cut.l1 k s (n : Int) (sumLast gear s n j % M64) (2 ^ j % M64) ((n : Int) - 1 - j)) R := by
  have fin : ∀ b : Bool, b = false → Ev (fun k => arbourref08_Cut.j3 k s (n : Int) (sumTo gear s n % M64) (2 ^ (min n 64) % M64) ((n : Int) - 1 - (min n 64 : Nat)) b) R := by
    rintro b rfl
    have hw : wrap64 ((n : Int) + 1) = ((n + 1 : Nat) : Int) := by unfold wrap64; omega
    have hr : 0 ≤ sumTo gear s n % M64 ∧ sumTo gear s n % M64 < M64 := by unfold M64; omega
    have ht : Int.tmod (IntKind.u64.wrap (Int.tdiv (sumTo gear s n % M64) 4294967296)) 128 = sumTo gear s n % M64 / 4294967296 % 128 := by
      rw [wrap_div _ _ hr.1 hr.2 (by decide), Int.tmod_eq_emod_of_nonneg (Int.ediv_nonneg hr.1 (by decide))]
    cases he : ends gear s n with
    | true =>
      refine Ev.step (f := fun _ => some R) (fun k => ?_) (Ev.now _)
      simp only [arbourref08_Cut.j3]
      rw [if_neg (by decide), ht, if_pos (by simpa [ends] using he), hthis he]
    | false =>
      refine Ev.step (fun k => ?_) (hnext he)
      simp only [arbourref08_Cut.j3]
      rw [if_neg (by decide), ht, if_neg (by intro h; rw [ends, h] at he; simp at he), hw]
  intro d
  induction d with
  | zero =>
    intro j hj
    obtain rfl : j = min n 64 := by omega
    have hsum : sumLast gear s n (min n 64) % M64 = sumTo gear s n % M64 := (sum_mod gear s n (min n 64) (by omega) (by omega)).symm
    rw [hsum]
    have hc : decide (wrap64 (wrap64 ((n : Int) - 1) - ((n : Int) - 1 - (min n 64 : Nat))) < 64) = false ∨ ¬ ((n : Int) - 1 - (min n 64 : Nat) ≥ 0) := by
      by_cases h : (n : Int) - 1 - (min n 64 : Nat) ≥ 0
      · left; simp only [decide_eq_false_iff_not]; unfold wrap64; omega
      · right; exact h
    rcases hc with hc | hc
    · refine Ev.step (fun k => ?_) (fin _ hc)
      simp only [arbourref08_Cut.l1]
      by_cases h : (n : Int) - 1 - (min n 64 : Nat) ≥ 0
      · rw [if_pos h]
      · rw [if_neg h, hc]
    · refine Ev.step (fun k => ?_) (fin false rfl)
      simp only [arbourref08_Cut.l1]; rw [if_neg hc]
  | succ d ih =>
    intro j hj
    have hge : (n : Int) - 1 - j ≥ 0 := by omega
    have hdec : decide (wrap64 (wrap64 ((n : Int) - 1) - ((n : Int) - 1 - j)) < 64) = true := by simp only [decide_eq_true_eq]; unfold wrap64; omega
    have hb := bt_range s ((n : Int) - 1 - j)
    have hg := gear_range (bt s ((n : Int) - 1 - j))
    have hm : (0 : Int) ≤ 2 ^ j % M64 ∧ (2 : Int) ^ j % M64 < M64 := by unfold M64; omega
    have hw : wrap64 ((n : Int) - 1 - j - 1) = (n : Int) - 1 - (j + 1 : Nat) := by unfold wrap64; omega
    have e1 : IntKind.u64.wrap (sumLast gear s n j % M64 + gear (bt s ((n : Int) - 1 - j)) * (2 ^ j % M64) % M64) = sumLast gear s n (j + 1) % M64 := by
      simp only [sumLast, wrap_u64]
      rw [← Int.add_emod, Int.add_emod (sumLast gear s n j) (gear _ * (2 ^ j % M64)), mul_mod_right, ← Int.add_emod]
    have e2 : IntKind.u64.wrap ((2 : Int) ^ j % M64 + 2 ^ j % M64) = 2 ^ (j + 1) % M64 := by
      rw [wrap_u64, Int.pow_succ]; unfold M64; omega
    refine Ev.step (f := fun k => arbourref08_Cut.j3 k s (n : Int) (sumLast gear s n j % M64) (2 ^ j % M64) ((n : Int) - 1 - j) true) (fun k => ?_) (Ev.step (fun k => ?_) (ih (j + 1) (by omega)))
    · simp only [arbourref08_Cut.l1]; rw [if_pos hge, hdec]
    · simp only [arbourref08_Cut.j3]
      rw [if_pos trivial, if_pos (by omega), if_pos (by omega), refGear_some _ hb.1 hb.2, Option.bind_some, times_some _ _ hg.1 hg.2 hm.1 hm.2, Option.bind_some, e1, e2, hw]

theorem ref_outer (s : ByteArray) (hs : s.size ≤ 140737488351232) (h0 : 32 < s.size) : ∀ (d n : Nat), n + d = min s.size 512 → 32 ≤ n → (∀ m, 32 ≤ m → m < n → ends gear s m = false) →
    Ev (fun k => arbourref08_Cut.l0 k s (n : Int)) ((cutN gear s : Nat) : Int) := by
  intro d
  induction d with
  | zero =>
    intro n hn h32 hm
    have hc : n = cutN gear s := IsCut.unique gear (.inr ⟨h0, h32, by omega, by omega, hm, by omega⟩) (isCut_cutN gear s)
    have hj : Ev (fun k => arbourref08_Cut.j1 k s (n : Int) false) ((cutN gear s : Nat) : Int) := by
      refine Ev.step (f := fun _ => some ((cutN gear s : Nat) : Int)) (fun k => ?_) (Ev.now _)
      simp only [arbourref08_Cut.j1]
      rw [if_neg (by decide), ← hc]
      by_cases h : (s.size : Int) < 512
      · rw [if_pos h]; congr 1; omega
      · rw [if_neg h]; congr 1; omega
    refine Ev.step (fun k => ?_) hj
    simp only [arbourref08_Cut.l0]
    by_cases h : (n : Int) < (s.size : Int)
    · rw [if_pos h, show decide ((n : Int) < 512) = false from by simp; omega]
    · rw [if_neg h]
  | succ d ih =>
    intro n hn h32 hm
    have hw : wrap64 ((n : Int) - 1) = (n : Int) - 1 - (0 : Nat) := by unfold wrap64; omega
    have hin := ref_inner s hs n h32 (by omega) ((cutN gear s : Nat) : Int)
      (fun he => ih (n + 1) (by omega) (by omega) fun m a b => by
        by_cases hmn : m = n
        · subst hmn; exact he
        · exact hm m a (by omega))
      (fun he => by rw [IsCut.unique gear (.inr ⟨h0, h32, by omega, by omega, hm, .inr (.inr he)⟩) (isCut_cutN gear s)])
      (min n 64) 0 (by omega)
    refine Ev.step (f := fun k => arbourref08_Cut.j1 k s (n : Int) true) (fun k => ?_) (Ev.step (fun k => ?_) hin)
    · simp only [arbourref08_Cut.l0]
      rw [if_pos (by omega), show decide ((n : Int) < 512) = true from by simp; omega]
    · simp only [arbourref08_Cut.j1]
      rw [if_pos trivial, hw]; rfl

theorem refcut_ev (s : ByteArray) (hs : s.size ≤ 140737488351232) : Ev (fun k => arbourref08_Cut.f k s) ((cutN gear s : Nat) : Int) := by
  by_cases h : s.size ≤ 32
  · refine Ev.congr (f := fun _ => some ((cutN gear s : Nat) : Int)) (fun k => ?_) (Ev.now _)
    have : s.size = cutN gear s := IsCut.unique gear (.inl ⟨h, rfl⟩) (isCut_cutN gear s)
    unfold arbourref08_Cut.f; rw [if_pos (by omega), ← this]
  · refine Ev.congr (fun k => ?_) (ref_outer s hs (by omega) (min s.size 512 - 32) 32 (by omega) (Nat.le_refl _) fun m a b => by omega)
    unfold arbourref08_Cut.f; rw [if_neg (by omega)]; rfl
end Go.Proofs.Ytobkpglenpoacaa.XChunkEnds
