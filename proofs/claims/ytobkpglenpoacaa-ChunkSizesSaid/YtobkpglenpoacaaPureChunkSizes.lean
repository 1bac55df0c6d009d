/- ChunkSizes: of any bytes each chunk but the last one has from MinChunk to MaxChunk bytes, and the last one at most as many; whoever stops going over them stops. The statement over numbers and lists; no condition but the reading's own. -/
import Derived.Test.YtobkpglenpoacaaLibChunkSizes
namespace Go.Proofs.Ytobkpglenpoacaa.Pure
open Go.RowKit Go.Proofs.Ytobkpglenpoacaa.XChunkSizes Go.Proofs.YtobkpglenpoacaaW.PrintWords Go.Proofs.YtobkpglenpoacaaW.PrintLast Go.Proofs.YtobkpglenpoacaaW.PrintMore Go.Proofs.YtobkpglenpoacaaC

/-- What the statement asks of each chunk. -/
theorem chunk_fine (g : Int → Int) (s : ByteArray) (i : Nat) (x : ByteArray) (hx : (chunks g s)[i]? = some x) :
    1 ≤ x.size ∧ x.size ≤ 512 ∧ (i + 1 < (chunks g s).length → 32 ≤ x.size ∧ (x.size < 512 → ∀ t : ByteArray, 0 < t.size → cutN g (x ++ t) = x.size)) := by
  rcases Nat.eq_zero_or_pos s.size with h | h
  · rw [chunks_nil g h] at hx; cases hx
  · have h1 := cutN_pos g s h
    have h2 := cutN_le g s
    have h3 := cutN_512 g s
    have hsz : (s.extract 0 (cutN g s)).size = cutN g s := by rw [ByteArray.size_extract]; omega
    have hr : (s.extract (cutN g s) s.size).size = s.size - cutN g s := by rw [ByteArray.size_extract]; omega
    rw [chunks_cons g h] at hx ⊢
    cases i with
    | zero =>
      rw [List.getElem?_cons_zero] at hx
      obtain rfl := Option.some.inj hx
      rw [hsz]
      refine ⟨by omega, by omega, fun hl => ?_⟩
      have hne : cutN g s < s.size := by
        by_cases hlt : cutN g s < s.size
        · exact hlt
        · rw [chunks_nil g (s := s.extract (cutN g s) s.size) (by omega)] at hl
          simp at hl
      refine ⟨?_, fun h5 t ht => cutN_mid g s t hne h5 ht⟩
      by_cases h6 : cutN g s < 32
      · have := cutN_32 g s h6; omega
      · omega
    | succ j =>
      rw [List.getElem?_cons_succ] at hx
      have ih := chunk_fine g (s.extract (cutN g s) s.size) j x hx
      refine ⟨ih.1, ih.2.1, fun hl => ih.2.2 ?_⟩
      rw [List.length_cons] at hl
      omega
termination_by s.size
decreasing_by omega

theorem sizes_loop (stop : Int) (s : ByteArray) (l : List ByteArray) (hl : l = chunks gear s) (hs : s.size ≤ 8191) : ∀ (d i : Nat), i + d = l.length → Ev (fun k => arbourlaw08_ChunkSizes.l0 k stop s l (i : Int)) true := by
  have hlen : l.length ≤ 8191 := by rw [hl]; have := chunks_len gear s; omega
  intro d
  induction d with
  | zero =>
    intro i hi
    obtain ⟨K2, c2⟩ := awake_ev
    dsimp only at c2
    have hb := bits_15 stop
    have hw : Aside0 (wrap64 (Go.bits .and .i64 stop 15 + 1) = Go.bits .and .i64 stop 15 + 1) := ⟨by unfold wrap64; omega⟩
    have hf : arbourlaw08_first.f s (Go.bits .and .i64 stop 15 + 1) = some (mn (Go.bits .and .i64 stop 15 + 1) (l.length : Int)) := by
      unfold arbourlaw08_first.f
      rw [if_pos (by omega)]
      unfold firstN
      rw [← hl]
      congr 1
      unfold mn
      by_cases h0 : l.length = 0
      · rw [if_pos h0, if_pos (by omega)]; omega
      · rw [if_neg h0]; split <;> omega
    refine ⟨K2 + 1, fun k hk => ?_⟩
    obtain ⟨k, rfl⟩ : ∃ m, k = m + 1 := ⟨k - 1, by omega⟩
    simp only [arbourlaw08_ChunkSizes.l0]
    rw [if_neg (by omega), c2 k (by omega), Option.bind_some, if_pos rfl, hw.out, hf, Option.bind_some]
    simp
  | succ d ih =>
    intro i hi
    have hil : i < l.length := by omega
    have hrd : rdOf ByteArray.empty l (i : Int) = l[i] := by simp [rdOf, hil]
    have hf := chunk_fine gear s i l[i] (by rw [← hl]; exact List.getElem?_eq_getElem hil)
    rw [← hl] at hf
    generalize hx : l[i] = x at hf hrd
    have hw : Aside0 (wrap64 ((i : Int) + 1) = ((i + 1 : Nat) : Int)) := ⟨by unfold wrap64; omega⟩
    have next := ih (i + 1) (by omega)
    have hj : Ev (fun k => arbourlaw08_ChunkSizes.j1 k stop s l (i : Int) false) true := by
      refine Ev.step (fun k => ?_) next
      simp only [arbourlaw08_ChunkSizes.j1]
      rw [if_neg (by decide), hw.out]
    obtain ⟨K1, c1⟩ := hj
    obtain ⟨K2, c2⟩ := cut_ev (x ++ (⟨#[120]⟩ : ByteArray)) (by rw [ByteArray.size_append]; have : (⟨#[120]⟩ : ByteArray).size = 1 := rfl; omega)
    dsimp only at c1 c2
    refine ⟨K1 + K2 + 1, fun k hk => ?_⟩
    obtain ⟨k, rfl⟩ : ∃ m, k = m + 1 := ⟨k - 1, by omega⟩
    simp only [arbourlaw08_ChunkSizes.l0]
    rw [if_pos (by omega), if_pos (by omega), hrd, if_neg (by omega), if_neg (by omega), hw.out]
    by_cases h1 : i + 1 < l.length
    · have h2 := hf.2.2 h1
      rw [if_pos (by omega), if_neg (by omega)]
      by_cases h3 : x.size < 512
      · have h4 := h2.2 h3 (⟨#[120]⟩ : ByteArray) (by decide)
        rw [if_pos (by omega), if_pos (by omega), c2 k (by omega), Option.bind_some, h4]
        rw [show (((x.size : Nat) : Int) != ((x.size : Nat) : Int)) = false from by simp]
        exact c1 k (by omega)
      · rw [if_neg (by omega)]; exact c1 k (by omega)
    · rw [if_neg (by omega)]; exact c1 k (by omega)

theorem ChunkSizes : arbourlaw08_ChunkSizes.Pure := by
  intro seed n stop _ _ _
  have hb := bits_8191 n
  obtain ⟨t, ⟨K1, ht⟩, hs⟩ := text_ev seed (Go.bits .and .i64 n 8191) hb.1 (by omega)
  obtain ⟨K2, hl⟩ := sizes_loop stop t (chunks gear t) rfl (by omega) _ 0 (Nat.zero_add _)
  dsimp only at ht hl
  have lA : chunk_List.f t = some (chunks gear t) := by unfold chunk_List.f; rw [if_pos (by omega)]
  refine ⟨K1 + K2, ?_⟩
  unfold arbourlaw08_ChunkSizes.f
  rw [ht _ (by omega), Option.bind_some, lA, Option.bind_some]
  exact hl _ (by omega)

end Go.Proofs.Ytobkpglenpoacaa.Pure
