/- ChunkEnds: bytes ahead move a chunk's end by no more than they are, where it had more than 64 bytes. The statement over numbers and lists; no condition but the reading's own sizes. -/
import Derived.Test.YtobkpglenpoacaaLibChunkEnds
namespace Go.Proofs.Ytobkpglenpoacaa.Pure
open Go.RowKit Go.Proofs.Ytobkpglenpoacaa.XChunkEnds Go.Proofs.YtobkpglenpoacaaW.PrintWords Go.Proofs.YtobkpglenpoacaaW.PrintLast Go.Proofs.YtobkpglenpoacaaC

theorem ends_move (g : Int → Int) (a t : ByteArray) (h1 : 64 < cutN g t) (h2 : cutN g t < t.size) (h3 : a.size ≤ 60) (h4 : t.size ≤ 300) : cutN g (a ++ t) ≤ a.size + cutN g t := by
  have he : ends g t (cutN g t) = true := by
    rcases isCut_cutN g t with ⟨_, h⟩ | ⟨_, _, _, _, _, h⟩
    · omega
    · rcases h with h | h | h
      · omega
      · omega
      · exact h
  have he2 := (ends_right g a t (cutN g t) (by omega) (by omega)).trans he
  rcases isCut_cutN g (a ++ t) with ⟨h, k⟩ | ⟨_, _, _, _, h, _⟩
  · rw [ByteArray.size_append] at h; omega
  · by_cases hle : cutN g (a ++ t) ≤ a.size + cutN g t
    · exact hle
    · have := h (a.size + cutN g t) (by omega) (by omega)
      rw [this] at he2; cases he2

theorem ends_core (a t : ByteArray) (h3 : a.size ≤ 60) (h4 : t.size = 300) :
    Ev (fun k => arbourlaw08_ChunkEnds.j0 k a t ((cutN gear t : Nat) : Int)) true := by
  have hsz : (a ++ t).size = a.size + t.size := ByteArray.size_append ..
  have hw : wrap64 ((a.size : Int) + ((cutN gear t : Nat) : Int)) = ((a.size + cutN gear t : Nat) : Int) := by
    have := cutN_le gear t
    unfold wrap64; omega
  have h32 : 32 ≤ cutN gear (a ++ t) := by
    rcases isCut_cutN gear (a ++ t) with ⟨h, k⟩ | ⟨_, h, _⟩
    · omega
    · exact h
  have h32b := ends_move gear a t
  obtain ⟨K1, c1⟩ := cut_ev (a ++ t) (by omega)
  obtain ⟨K2, c2⟩ := awake_ev
  obtain ⟨K3, c3⟩ := refcut_ev (a ++ t) (by omega)
  obtain ⟨K4, c4⟩ := cut_ev t (by omega)
  dsimp only at c1 c2 c3 c4
  refine ⟨K1 + K2 + K3 + K4 + 1, fun k hk => ?_⟩
  obtain ⟨k, rfl⟩ : ∃ m, k = m + 1 := ⟨k - 1, by omega⟩
  simp only [arbourlaw08_ChunkEnds.j0]
  rw [if_pos (by omega), c1 k (by omega), Option.bind_some, c2 k (by omega), Option.bind_some, if_pos rfl, c3 k (by omega), Option.bind_some, if_pos rfl, hw, c4 k (by omega), Option.bind_some]
  have hfin : (if ((cutN gear (a ++ t) : Nat) : Int) ≥ 32 then some (((cutN gear t : Nat) : Int) == ((cutN gear t : Nat) : Int)) else some false) = some true := by rw [if_pos (by omega)]; simp
  rw [hfin]
  by_cases q1 : ((cutN gear (a ++ t) : Nat) : Int) > ((a.size + cutN gear t : Nat) : Int)
  · rw [if_pos q1]
    by_cases q2 : ((cutN gear t : Nat) : Int) > 64
    · rw [if_pos q2, if_neg]
      intro q3
      have := h32b (by omega) (by omega) h3 (by omega)
      omega
    · rw [if_neg q2]
  · rw [if_neg q1]

theorem ChunkEnds : arbourlaw08_ChunkEnds.Pure := by
  intro a seed ha _
  obtain ⟨t, ⟨K1, ht⟩, hs⟩ := text_ev seed 300 (by omega) (by omega)
  obtain ⟨K2, hcut⟩ := refcut_ev t (by omega)
  dsimp only at ht hcut
  unfold arbourlaw08_ChunkEnds.f
  by_cases h : (a.size : Int) > 60
  · obtain ⟨K3, hc⟩ := ends_core (a.extract 0 60) t (by rw [ByteArray.size_extract]; omega) (by omega)
    dsimp only at hc
    refine ⟨K1 + K2 + K3, ?_⟩
    rw [ht _ (by omega), Option.bind_some, hcut _ (by omega), Option.bind_some, if_pos h, if_pos (by omega), if_pos (by omega), hc _ (by omega)]
  · obtain ⟨K3, hc⟩ := ends_core a t (by omega) (by omega)
    dsimp only at hc
    refine ⟨K1 + K2 + K3, ?_⟩
    rw [ht _ (by omega), Option.bind_some, hcut _ (by omega), Option.bind_some, if_neg h, hc _ (by omega)]

end Go.Proofs.Ytobkpglenpoacaa.Pure
