/- Plain facts on chunks: the rolling sum, where the first chunk ends, the chunks of a text. No program in sight. -/
import Derived.Laws.BitsLemmas
import Derived.Test.YtobkpglenpoacaaWWords
namespace Go.Proofs.YtobkpglenpoacaaC
open Go.RowKit Go.Proofs.YtobkpglenpoacaaW.PrintWords

def M64 : Int := 18446744073709551616
theorem wrap_u64 (n : Int) : IntKind.u64.wrap n = n % M64 := by simp [IntKind.wrap, IntKind.bits, IntKind.signed, M64]
theorem wraps_u64 (n : Int) (h₀ : 0 ≤ n) (h₁ : n < 2 ^ 64) : IntKind.u64.wrap n = n := by
  rw [wrap_u64]; unfold M64; omega
theorem and127 (x : Int) (h₀ : 0 ≤ x) (h₁ : x < M64) : bits .and .u64 x 127 = x % 128 :=
  bits_mask .u64 64 (by decide) wraps_u64 7 (by decide) x h₀ (by unfold M64 at h₁; omega)

section
variable (g : Int → Int)

/-- The sum of the first n bytes' numbers, each doubled as often as bytes stand behind it. -/
def sumTo (s : ByteArray) : Nat → Int
  | 0 => 0
  | n + 1 => sumTo s n * 2 + g (bt s n)
/-- The machine's rolling sum. -/
def hashAt (s : ByteArray) : Nat → Int
  | 0 => 0
  | n + 1 => IntKind.u64.wrap (IntKind.u64.wrap (hashAt s n * 2) + g (bt s n))
theorem hash_sum (s : ByteArray) (n : Nat) : hashAt g s n = sumTo g s n % M64 := by
  induction n with
  | zero => simp [hashAt, sumTo]
  | succ n ih =>
    simp only [hashAt, sumTo, wrap_u64, ih]
    unfold M64
    omega
def ends (s : ByteArray) (n : Nat) : Bool := sumTo g s n % M64 / 4294967296 % 128 == 0

/-- The sum of the last j of the first n bytes. -/
def sumLast (s : ByteArray) (n : Nat) : Nat → Int
  | 0 => 0
  | j + 1 => sumLast s n j + g (bt s ((n : Int) - 1 - j)) * 2 ^ j
theorem sum_last (s : ByteArray) (n : Nat) : ∀ j, j ≤ n → sumTo g s n = 2 ^ j * sumTo g s (n - j) + sumLast g s n j
  | 0, _ => by simp [sumLast]
  | j + 1, h => by
    rw [sum_last s n j (by omega)]
    obtain ⟨m, hm⟩ : ∃ m, n - j = m + 1 := ⟨n - j - 1, by omega⟩
    have h1 : n - (j + 1) = m := by omega
    have h2 : (n : Int) - 1 - j = m := by omega
    rw [hm, h1]
    simp only [sumTo, sumLast, h2]
    rw [Int.pow_succ]
    rw [Int.mul_add, Int.add_assoc, Int.add_comm (sumLast g s n j), ← Int.mul_assoc, Int.mul_right_comm, Int.mul_comm (2 ^ j) (g _)]
theorem sum_mod (s : ByteArray) (n j : Nat) (h : j ≤ n) (h2 : j = n ∨ 64 ≤ j) : sumTo g s n % M64 = sumLast g s n j % M64 := by
  rw [sum_last g s n j h]
  rcases h2 with rfl | h2
  · simp [sumTo]
  · obtain ⟨d, rfl⟩ : ∃ d, j = 64 + d := ⟨j - 64, by omega⟩
    rw [Int.pow_add, show (2 : Int) ^ 64 = M64 from by decide, Int.mul_assoc, Int.add_comm, Int.add_mul_emod_self_left]

theorem bt_left (s t : ByteArray) (i : Nat) (h : i < s.size) : bt (s ++ t) i = bt s i := by
  unfold bt
  rw [dif_pos (by simp [ByteArray.size_append]; omega), dif_pos (by simpa using h)]
  simp only [Int.toNat_natCast]
  rw [ByteArray.getElem_append_left h]
theorem bt_right (s t : ByteArray) (i : Nat) (h : i < t.size) : bt (s ++ t) ((s.size + i : Nat) : Int) = bt t i := by
  unfold bt
  rw [dif_pos (by simp [ByteArray.size_append]; omega), dif_pos (by simpa using h)]
  simp only [Int.toNat_natCast]
  rw [ByteArray.getElem_append_right (by omega)]
  simp
theorem sum_left (s t : ByteArray) : ∀ n, n ≤ s.size → sumTo g (s ++ t) n = sumTo g s n
  | 0, _ => rfl
  | n + 1, h => by simp only [sumTo]; rw [sum_left s t n (by omega), bt_left s t n (by omega)]
theorem sum_right (s t : ByteArray) : ∀ n, n ≤ t.size → sumTo g (s ++ t) (s.size + n) = 2 ^ n * sumTo g s s.size + sumTo g t n
  | 0, _ => by simp [sumTo, sum_left g s t s.size (Nat.le_refl _)]
  | n + 1, h => by
    rw [← Nat.add_assoc]; simp only [sumTo]; rw [sum_right s t n (by omega), bt_right s t n (by omega), Int.pow_succ]
    rw [Int.add_mul, Int.add_assoc, Int.mul_right_comm]
theorem ends_left (s t : ByteArray) (n : Nat) (h : n ≤ s.size) : ends g (s ++ t) n = ends g s n := by
  unfold ends; rw [sum_left g s t n h]
theorem ends_right (s t : ByteArray) (n : Nat) (h : n ≤ t.size) (h2 : 64 ≤ n) : ends g (s ++ t) (s.size + n) = ends g t n := by
  unfold ends
  rw [sum_right g s t n h]
  obtain ⟨d, rfl⟩ : ∃ d, n = 64 + d := ⟨n - 64, by omega⟩
  rw [Int.pow_add, show (2 : Int) ^ 64 = M64 from by decide, Int.mul_assoc, Int.add_comm, Int.add_mul_emod_self_left]

/-- The first chunk of a text has r bytes. -/
def IsCut (s : ByteArray) (r : Nat) : Prop :=
  (s.size ≤ 32 ∧ r = s.size) ∨ (32 < s.size ∧ 32 ≤ r ∧ r ≤ s.size ∧ r ≤ 512 ∧ (∀ n, 32 ≤ n → n < r → ends g s n = false) ∧ (r = s.size ∨ r = 512 ∨ ends g s r = true))
theorem IsCut.unique {s : ByteArray} {r r' : Nat} (h : IsCut g s r) (h' : IsCut g s r') : r = r' := by
  rcases h with ⟨h1, h2⟩ | ⟨h1, h2, h3, h4, h5, h6⟩ <;> rcases h' with ⟨k1, k2⟩ | ⟨k1, k2, k3, k4, k5, k6⟩
  · omega
  · omega
  · omega
  · rcases Nat.lt_trichotomy r r' with hlt | heq | hgt
    · have := k5 r h2 hlt
      rcases h6 with h6 | h6 | h6
      · omega
      · omega
      · rw [this] at h6; cases h6
    · exact heq
    · have := h5 r' k2 hgt
      rcases k6 with k6 | k6 | k6
      · omega
      · omega
      · rw [this] at k6; cases k6

def cutFrom (s : ByteArray) : Nat → Nat → Nat
  | 0, n => n
  | d + 1, n => if ends g s n then n else cutFrom s d (n + 1)
def cutN (s : ByteArray) : Nat := if s.size ≤ 32 then s.size else cutFrom g s (min s.size 512 - 32) 32
theorem cutFrom_spec (s : ByteArray) (h0 : 32 < s.size) : ∀ d n, 32 ≤ n → n + d = min s.size 512 → (∀ m, 32 ≤ m → m < n → ends g s m = false) → IsCut g s (cutFrom g s d n)
  | 0, n, h1, h2, h3 => .inr ⟨h0, h1, by simp only [cutFrom]; omega, by simp only [cutFrom]; omega, h3, by simp only [cutFrom]; omega⟩
  | d + 1, n, h1, h2, h3 => by
    simp only [cutFrom]
    by_cases he : ends g s n = true
    · rw [if_pos he]; exact .inr ⟨h0, h1, by omega, by omega, h3, .inr (.inr he)⟩
    · rw [if_neg he]
      refine cutFrom_spec s h0 d (n + 1) (by omega) (by omega) fun m hm1 hm2 => ?_
      by_cases hm : m = n
      · subst hm; simpa using he
      · exact h3 m hm1 (by omega)
theorem isCut_cutN (s : ByteArray) : IsCut g s (cutN g s) := by
  unfold cutN
  by_cases h : s.size ≤ 32
  · rw [if_pos h]; exact .inl ⟨h, rfl⟩
  · rw [if_neg h]; exact cutFrom_spec g s (by omega) _ 32 (Nat.le_refl _) (by omega) fun m h1 h2 => by omega
theorem cutN_le (s : ByteArray) : cutN g s ≤ s.size := by rcases isCut_cutN g s with ⟨_, h⟩ | ⟨_, _, h, _⟩ <;> omega
theorem cutN_512 (s : ByteArray) : cutN g s ≤ 512 := by rcases isCut_cutN g s with ⟨_, h⟩ | ⟨_, _, h, _⟩ <;> omega
theorem cutN_pos (s : ByteArray) (h : 0 < s.size) : 0 < cutN g s := by rcases isCut_cutN g s with ⟨_, h⟩ | ⟨_, _, h, _⟩ <;> omega
theorem cutN_32 (s : ByteArray) (h : cutN g s < 32) : cutN g s = s.size := by rcases isCut_cutN g s with ⟨_, h⟩ | ⟨_, _, h, _⟩ <;> omega
/-- A chunk that isn't the last one, nor a full one, is cut so whatever stands behind it. -/
theorem cutN_mid (s t : ByteArray) (h1 : cutN g s < s.size) (h2 : cutN g s < 512) (ht : 0 < t.size) : cutN g (s.extract 0 (cutN g s) ++ t) = cutN g s := by
  have hI := isCut_cutN g s
  have hs : (s.extract 0 (cutN g s)).size = cutN g s := by rw [ByteArray.size_extract]; omega
  have hj : ∀ n, n ≤ cutN g s → ends g (s.extract 0 (cutN g s) ++ t) n = ends g s n := fun n hn => by
    rw [ends_left g _ _ n (by omega)]
    have e : s = s.extract 0 (cutN g s) ++ s.extract (cutN g s) s.size := by
      rw [ByteArray.extract_append_extract]
      rw [Nat.min_eq_left (by omega), Nat.max_eq_right (by omega)]; exact (ByteArray.extract_zero_size).symm
    rw [show ends g s n = ends g (s.extract 0 (cutN g s) ++ s.extract (cutN g s) s.size) n from by rw [← e]]
    rw [ends_left g _ _ n (by omega)]
  refine IsCut.unique g (isCut_cutN g _) ?_
  rcases hI with ⟨h3, h4⟩ | ⟨h3, h4, h5, h6, h7, h8⟩
  · omega
  · refine .inr ⟨by rw [ByteArray.size_append]; omega, h4, by rw [ByteArray.size_append]; omega, h6, fun n a b => (hj n (by omega)).trans (h7 n a b), ?_⟩
    rcases h8 with h8 | h8 | h8
    · omega
    · omega
    · exact .inr (.inr ((hj _ (Nat.le_refl _)).trans h8))

/-- The chunks of a text. -/
def chunks (s : ByteArray) : List ByteArray :=
  if _h : s.size = 0 then [] else s.extract 0 (cutN g s) :: chunks (s.extract (cutN g s) s.size)
termination_by s.size
decreasing_by rw [ByteArray.size_extract]; have := cutN_pos g s (by omega); omega
theorem chunks_nil {s : ByteArray} (h : s.size = 0) : chunks g s = [] := by rw [chunks, dif_pos h]
theorem chunks_cons {s : ByteArray} (h : 0 < s.size) : chunks g s = s.extract 0 (cutN g s) :: chunks g (s.extract (cutN g s) s.size) := by rw [chunks, dif_neg (by omega)]
theorem chunks_len (s : ByteArray) : (chunks g s).length ≤ s.size := by
  rcases Nat.eq_zero_or_pos s.size with h | h
  · rw [chunks_nil g h]; simp
  · rw [chunks_cons g h]
    have h1 := cutN_pos g s h
    have h2 := cutN_le g s
    have h3 : (s.extract (cutN g s) s.size).size = s.size - cutN g s := by rw [ByteArray.size_extract]; omega
    have := chunks_len (s.extract (cutN g s) s.size)
    simp only [List.length_cons]
    omega
termination_by s.size
decreasing_by omega
theorem chunks_len32 (s : ByteArray) : (chunks g s).length * 32 ≤ s.size + 31 := by
  rcases Nat.eq_zero_or_pos s.size with h | h
  · rw [chunks_nil g h]; simp
  · rw [chunks_cons g h]
    have h1 := cutN_pos g s h
    have h2 := cutN_le g s
    have h3 : (s.extract (cutN g s) s.size).size = s.size - cutN g s := by rw [ByteArray.size_extract]; omega
    simp only [List.length_cons]
    by_cases h4 : cutN g s < 32
    · have h5 := cutN_32 g s h4
      rw [chunks_nil g (s := s.extract (cutN g s) s.size) (by omega)]
      simp; omega
    · have := chunks_len32 (s.extract (cutN g s) s.size)
      omega
termination_by s.size
decreasing_by omega
end
end Go.Proofs.YtobkpglenpoacaaC
