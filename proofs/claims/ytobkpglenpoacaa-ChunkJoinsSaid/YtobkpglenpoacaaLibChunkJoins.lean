/- Plain facts on the printed functions of layer 8 that the statement ChunkJoins reaches. -/
import Derived.Test.YtobkpglenpoacaaXChunkJoinsx
namespace Go.Proofs.Ytobkpglenpoacaa.XChunkJoins
open Go.RowKit Go.Proofs.YtobkpglenpoacaaW.PrintWords Go.Proofs.YtobkpglenpoacaaW.PrintLast Go.Proofs.YtobkpglenpoacaaW.PrintMore Go.Proofs.YtobkpglenpoacaaC

theorem bits_range (op : BinOp) (x y : Int) : 0 ≤ Go.bits op .u64 x y ∧ Go.bits op .u64 x y < M64 := by
  unfold Go.bits; simp only [wrap_u64]; unfold M64; omega

theorem text_ev (seed n : Int) (h0 : 0 ≤ n) (h1 : n ≤ 70368744177664) : ∃ r : ByteArray, Ev (fun k => arbourlaw08_Text.f k seed n) r ∧ r.size = n.toNat := by
  have loop : ∀ (d : Nat) (x : Int) (l : List Int) (i : Int), 0 ≤ i → i + d = n → (l.length : Int) = i → ∃ r : ByteArray, Ev (fun k => arbourlaw08_Text.l0 k n l x i) r ∧ r.size = n.toNat := by
    intro d
    induction d with
    | zero =>
      intro x l i hi hd hl
      refine ⟨strOfNums l, Ev.step (f := fun _ => some (strOfNums l)) (fun k => ?_) (Ev.now _), ?_⟩
      · simp only [arbourlaw08_Text.l0]; rw [if_neg (by omega)]
      · simp only [strOfNums, ByteArray.size, List.size_toArray, List.length_map]; omega
    | succ d ih =>
      intro x l i hi hd hl
      have hw : wrap64 (i + 1) = i + 1 := by unfold wrap64; omega
      generalize hb : ((IntKind.u64.wrap ((Go.bits .xor .u64 (Go.bits .xor .u64 (Go.bits .xor .u64 x (IntKind.u64.wrap (x * 8192))) ((Go.bits .xor .u64 x (IntKind.u64.wrap (x * 8192))) / 128)) (IntKind.u64.wrap ((Go.bits .xor .u64 (Go.bits .xor .u64 x (IntKind.u64.wrap (x * 8192))) ((Go.bits .xor .u64 x (IntKind.u64.wrap (x * 8192))) / 128)) * 131072))) + 11400714819323198485))) = b
      obtain ⟨r, hr, hs⟩ := ih b (l ++ [b / 72057594037927936 % 256]) (i + 1) (by omega) (by omega) (by simp; omega)
      refine ⟨r, Ev.step (fun k => ?_) hr, hs⟩
      simp only [arbourlaw08_Text.l0]; rw [if_pos (by omega), if_pos (by omega), hb, hw]
  exact loop n.toNat seed [] 0 (by omega) (by omega) rfl

theorem cut_ev (s : ByteArray) (hs : s.size ≤ 140737488351232) : Ev (fun k => chunk_Cut.f k s) ((cutN gear s : Nat) : Int) := ⟨1026, fun k hk => cut_some s hs k hk⟩

theorem short_chunks : chunks gear (⟨#[115, 104, 111, 114, 116]⟩ : ByteArray) = [(⟨#[115, 104, 111, 114, 116]⟩ : ByteArray)] := by
  have h : cutN gear (⟨#[115, 104, 111, 114, 116]⟩ : ByteArray) = 5 := rfl
  rw [chunks_cons gear (by decide), h, chunks_nil gear (by decide)]
  rfl
theorem awake_ev : Ev (fun k => arbourlaw08_awake.f k) true := by
  have h1 : chunk_List.f (⟨#[115, 104, 111, 114, 116]⟩ : ByteArray) = some [(⟨#[115, 104, 111, 114, 116]⟩ : ByteArray)] := by
    unfold chunk_List.f; rw [if_pos (by decide), short_chunks]
  have h2 : (rdOf ByteArray.empty [(⟨#[115, 104, 111, 114, 116]⟩ : ByteArray)] 0).toList = ([115, 104, 111, 114, 116] : List UInt8) := by
    simp [rdOf]
  refine Ev.congr (f := fun k => (chunk_Cut.f k (⟨#[115, 104, 111, 114, 116]⟩ : ByteArray)).bind fun t => some (t == 5)) (fun k => ?_) ?_
  · unfold arbourlaw08_awake.f
    rw [h1]; simp only [Option.bind_some]
    rw [if_pos (by simp), if_pos (by simp), if_pos h2]
  · exact Ev.bind (cut_ev _ (by decide)) (Ev.now true)

/-- A mask of the low bits, of any number. -/
theorem bits_mask_any (x : Int) (j : Nat) (hj : j ≤ 62) : 0 ≤ Go.bits .and .i64 x (2 ^ j - 1) ∧ Go.bits .and .i64 x (2 ^ j - 1) ≤ 2 ^ j - 1 := by
  have hp : (2 ^ j : Nat) ≤ 2 ^ 62 := Nat.pow_le_pow_right (by decide) hj
  have hpos : 0 < (2 ^ j : Nat) := Nat.two_pow_pos j
  have hc : ((2 : Int) ^ j - 1) = ((2 ^ j - 1 : Nat) : Int) := by rw [Int.natCast_sub hpos]; simp
  have hlt : (2 : Nat) ^ 62 < 2 ^ 64 := by decide
  have h1 : ((BitVec.ofInt 64 x &&& BitVec.ofInt 64 ((2 : Int) ^ j - 1)).toNat) ≤ 2 ^ j - 1 := by
    rw [BitVec.toNat_and, hc, BitVec.ofInt_natCast, BitVec.toNat_ofNat, Nat.mod_eq_of_lt (by omega)]
    exact Nat.and_le_right
  have h2 : Go.bits .and .i64 x (2 ^ j - 1) = ((BitVec.ofInt 64 x &&& BitVec.ofInt 64 ((2 : Int) ^ j - 1)).toNat : Int) := by
    unfold Go.bits
    show IntKind.i64.wrap _ = _
    rw [IntKind.wrap_i64]
    show ((BitVec.ofInt 64 x &&& BitVec.ofInt 64 ((2 : Int) ^ j - 1)).toNat + 9223372036854775808 : Int) % 18446744073709551616 - 9223372036854775808 = _
    have : (2 : Nat) ^ 62 = 4611686018427387904 := by decide
    omega
  rw [h2]
  rw [hc] at h1 ⊢
  omega
theorem bits_15 (x : Int) : 0 ≤ Go.bits .and .i64 x 15 ∧ Go.bits .and .i64 x 15 ≤ 15 := bits_mask_any x 4 (by decide)
theorem bits_8191 (x : Int) : 0 ≤ Go.bits .and .i64 x 8191 ∧ Go.bits .and .i64 x 8191 ≤ 8191 := bits_mask_any x 13 (by decide)
theorem bits_16383 (x : Int) : 0 ≤ Go.bits .and .i64 x 16383 ∧ Go.bits .and .i64 x 16383 ≤ 16383 := bits_mask_any x 14 (by decide)
end Go.Proofs.Ytobkpglenpoacaa.XChunkJoins
