/- ChunkShifts: where a chunk begins at the same byte of two texts, all chunks behind are the same. The statement over numbers and lists; no condition but the reading's own sizes. -/
import Derived.Test.YtobkpglenpoacaaLibChunkShifts
namespace Go.Proofs.Ytobkpglenpoacaa.Pure
open Go.RowKit Go.Proofs.Ytobkpglenpoacaa.XChunkShifts Go.Proofs.YtobkpglenpoacaaW.PrintWords Go.Proofs.YtobkpglenpoacaaW.PrintLast Go.Proofs.YtobkpglenpoacaaC

section
variable (g : Int → Int)
/-- i chunks of x have at bytes. -/
def At (x : ByteArray) (i at_ : Nat) : Prop := at_ ≤ x.size ∧ i ≤ (chunks g x).length ∧ chunks g (x.extract at_ x.size) = (chunks g x).drop i
theorem at_zero (x : ByteArray) : At g x 0 0 := ⟨by omega, by omega, by rw [ByteArray.extract_zero_size]; rfl⟩
theorem at_step {x : ByteArray} {i a : Nat} (h : At g x i a) (hi : i < (chunks g x).length) : At g x (i + 1) (a + ((chunks g x).getD i ByteArray.empty).size) := by
  obtain ⟨h1, _, h3⟩ := h
  obtain ⟨s, hs⟩ : ∃ s, s = x.extract a x.size := ⟨_, rfl⟩
  have hsz : s.size = x.size - a := by rw [hs, ByteArray.size_extract]; omega
  have hpos : 0 < s.size := by
    rcases Nat.eq_zero_or_pos s.size with h | h
    · rw [← hs, chunks_nil g h] at h3
      have := congrArg List.length h3
      simp at this; omega
    · exact h
  have hc := cutN_le g s
  rw [← hs, chunks_cons g hpos, List.drop_eq_getElem_cons hi] at h3
  injection h3 with h4 h5
  have hg : ((chunks g x).getD i ByteArray.empty).size = cutN g s := by
    rw [List.getD_eq_getElem?_getD, List.getElem?_eq_getElem hi, Option.getD_some, ← h4, ByteArray.size_extract]; omega
  refine ⟨by omega, by omega, ?_⟩
  rw [hg, ← h5]
  congr 1
  rw [hs, ByteArray.extract_extract, ByteArray.size_extract]
  congr 1
  omega
theorem at_end {x : ByteArray} {a : Nat} (h : At g x (chunks g x).length a) : a = x.size := by
  obtain ⟨h1, _, h3⟩ := h
  rw [List.drop_length] at h3
  rcases Nat.eq_zero_or_pos (x.extract a x.size).size with h | h
  · rw [ByteArray.size_extract] at h; omega
  · rw [chunks_cons g h] at h3; cases h3
theorem at_same {A B t : ByteArray} {i k a b : Nat} (h : At g (A ++ t) i a) (h' : At g (B ++ t) k b) (he : (A ++ t).size - a = (B ++ t).size - b) (ht : (A ++ t).size - a ≤ t.size) :
    (chunks g (A ++ t)).drop i = (chunks g (B ++ t)).drop k := by
  rw [← h.2.2, ← h'.2.2]
  congr 1
  have ha := h.1
  have hb := h'.1
  rw [ByteArray.size_append] at ha hb he ht ⊢
  rw [ByteArray.size_append] at he
  rw [ByteArray.size_append]
  have e1 : (A ++ t).extract a (A.size + t.size) = t.extract (a - A.size) t.size := by
    rw [ByteArray.extract_append, ByteArray.extract_eq_empty_iff.2 (by omega), ByteArray.empty_append]
    congr 1; omega
  have e2 : (B ++ t).extract b (B.size + t.size) = t.extract (b - B.size) t.size := by
    rw [ByteArray.extract_append, ByteArray.extract_eq_empty_iff.2 (by omega), ByteArray.empty_append]
    congr 1; omega
  rw [e1, e2]
  congr 1
  omega
end

theorem last_loop (x y : ByteArray) (p q : List ByteArray) (u v : Int) (hp : (p.length : Int) ≤ 140737488355328) (hq : (q.length : Int) ≤ 140737488355328) : ∀ (d i k : Nat), i + d = p.length → k ≤ q.length → p.drop i = q.drop k →
    Ev (fun n => arbourlaw08_ChunkShifts.l1 n x y p q (i : Int) (k : Int) u v) true
  | 0, i, k, hi, hk, he => by
    have hk' : k = q.length := by
      rw [List.drop_of_length_le (by omega)] at he
      have := congrArg List.length he; simp at this; omega
    refine Ev.step (f := fun n => arbourlaw08_ChunkShifts.j3 n x y p q (i : Int) (k : Int) u v false) (fun n => ?_) (Ev.step (f := fun _ => some true) (fun n => ?_) (Ev.now true))
    · simp only [arbourlaw08_ChunkShifts.l1]; rw [if_neg (by omega)]
    · simp only [arbourlaw08_ChunkShifts.j3]
      rw [if_neg (by decide), if_pos]
      have h1 : ((i : Int) == (p.length : Int)) = true := by rw [beq_iff_eq]; omega
      have h2 : ((k : Int) == (q.length : Int)) = true := by rw [beq_iff_eq]; omega
      rw [h1, h2]; rfl
  | d + 1, i, k, hi, hk, he => by
    have hi' : i < p.length := by omega
    have hk' : k < q.length := by
      have := congrArg List.length he; simp at this; omega
    rw [List.drop_eq_getElem_cons hi', List.drop_eq_getElem_cons hk'] at he
    injection he with h1 h2
    have ih := last_loop x y p q u v hp hq d (i + 1) (k + 1) (by omega) (by omega) h2
    have w1 : Aside0 (wrap64 ((i : Int) + 1) = ((i + 1 : Nat) : Int)) := ⟨by unfold wrap64; omega⟩
    have w2 : Aside0 (wrap64 ((k : Int) + 1) = ((k + 1 : Nat) : Int)) := ⟨by unfold wrap64; omega⟩
    refine Ev.step (f := fun n => arbourlaw08_ChunkShifts.j3 n x y p q (i : Int) (k : Int) u v true) (fun n => ?_) (Ev.step (fun n => ?_) ih)
    · simp only [arbourlaw08_ChunkShifts.l1]; rw [if_pos (by omega), show decide ((k : Int) < (q.length : Int)) = true from by simp; omega]
    · simp only [arbourlaw08_ChunkShifts.j3]
      rw [if_pos trivial, if_pos (by omega), if_pos (by omega), if_pos (by omega), if_pos (by omega), if_pos, w1.out, w2.out]
      simp [rdOf, hi', hk', h1]

theorem first_loop (x y t : ByteArray) (p q : List ByteArray) (PA PB : Nat → Nat → Prop) (hx : x.size ≤ 1300) (hy : y.size ≤ 1300) (ht : t.size = 700) (lA : p.length ≤ x.size) (lB : q.length ≤ y.size)
    (bA : ∀ i a, PA i a → a ≤ x.size ∧ i ≤ p.length) (bB : ∀ i a, PB i a → a ≤ y.size ∧ i ≤ q.length)
    (sA : ∀ i a, PA i a → i < p.length → PA (i + 1) (a + (p.getD i ByteArray.empty).size)) (sB : ∀ i a, PB i a → i < q.length → PB (i + 1) (a + (q.getD i ByteArray.empty).size))
    (same : ∀ i k a b, PA i a → PB k b → x.size - a = y.size - b → x.size - a ≤ t.size → p.drop i = q.drop k) :
    ∀ (d i k a b : Nat), d = p.length - i + (q.length - k) → PA i a → PB k b →
    Ev (fun n => arbourlaw08_ChunkShifts.l0 n t x y p q (i : Int) (k : Int) (a : Int) (b : Int)) true := by
  -- behind the first loop
  have tail : ∀ (i k a b : Nat) (c : Bool), c = false → PA i a → PB k b → (i = p.length ∨ k = q.length ∨ x.size - a = y.size - b) →
      Ev (fun n => arbourlaw08_ChunkShifts.j1 n t x y p q (i : Int) (k : Int) (a : Int) (b : Int) c) true := by
    rintro i k a b c rfl ha hb hor
    have h1 := (bA _ _ ha).1
    have h2 := (bB _ _ hb).1
    have w1 : Aside0 (wrap64 ((x.size : Int) - (a : Int)) = (x.size : Int) - a) := ⟨by unfold wrap64; omega⟩
    have w2 : Aside0 (wrap64 ((y.size : Int) - (b : Int)) = (y.size : Int) - b) := ⟨by unfold wrap64; omega⟩
    obtain ⟨K2, c2⟩ := awake_ev
    dsimp only at c2
    by_cases hgt : (x.size : Int) - a > (t.size : Int)
    · refine ⟨K2 + 1, fun n hn => ?_⟩
      obtain ⟨n, rfl⟩ : ∃ m, n = m + 1 := ⟨n - 1, by omega⟩
      simp only [arbourlaw08_ChunkShifts.j1]
      rw [if_neg (by decide), c2 n (by omega), Option.bind_some, if_pos rfl, w1.out, if_pos hgt]
    · have hl : Ev (fun n => arbourlaw08_ChunkShifts.l1 n x y p q (i : Int) (k : Int) (a : Int) (b : Int)) true := by
        by_cases he : x.size - a = y.size - b
        · exact last_loop _ _ _ _ _ _ (by omega) (by omega) (p.length - i) i k (by have := (bA _ _ ha).2; omega) (bB _ _ hb).2 (same _ _ _ _ ha hb he (by omega))
        · refine Ev.step (f := fun n => arbourlaw08_ChunkShifts.j3 n x y p q (i : Int) (k : Int) (a : Int) (b : Int) false) (fun n => ?_) (Ev.step (f := fun _ => some true) (fun n => ?_) (Ev.now true))
          · simp only [arbourlaw08_ChunkShifts.l1]
            by_cases hi : (i : Int) < (p.length : Int)
            · rw [if_pos hi, show decide ((k : Int) < (q.length : Int)) = false from by simp; omega]
            · rw [if_neg hi]
          · simp only [arbourlaw08_ChunkShifts.j3]
            rw [if_neg (by decide), w1.out, w2.out]
            have hne : (((x.size : Int) - a) != ((y.size : Int) - b)) = true := by rw [bne_iff_ne]; omega
            rw [hne]; split <;> rfl
      obtain ⟨K3, c3⟩ := hl
      dsimp only at c3
      refine ⟨K2 + K3 + 1, fun n hn => ?_⟩
      obtain ⟨n, rfl⟩ : ∃ m, n = m + 1 := ⟨n - 1, by omega⟩
      simp only [arbourlaw08_ChunkShifts.j1]
      rw [if_neg (by decide), c2 n (by omega), Option.bind_some, if_pos rfl, w1.out, if_neg hgt, c3 n (by omega)]
  intro d
  induction d with
  | zero =>
    intro i k a b hd ha hb
    have hi := (bA _ _ ha).2
    have hk := (bB _ _ hb).2
    refine Ev.step (fun n => ?_) (tail i k a b false rfl ha hb (by omega))
    simp only [arbourlaw08_ChunkShifts.l0]; rw [if_neg (by omega)]
  | succ d ih =>
    intro i k a b hd ha hb
    have hi := (bA _ _ ha).2
    have hk := (bB _ _ hb).2
    have h1 := (bA _ _ ha).1
    have h2 := (bB _ _ hb).1
    have w1 : Aside0 (wrap64 ((x.size : Int) - (a : Int)) = (x.size : Int) - a) := ⟨by unfold wrap64; omega⟩
    have w2 : Aside0 (wrap64 ((y.size : Int) - (b : Int)) = (y.size : Int) - b) := ⟨by unfold wrap64; omega⟩
    by_cases c1 : i < p.length
    · by_cases c2 : k < q.length
      · by_cases c3 : x.size - a = y.size - b
        · refine Ev.step (fun n => ?_) (tail i k a b false rfl ha hb (by omega))
          simp only [arbourlaw08_ChunkShifts.l0]
          rw [if_pos (by omega), if_pos (by omega), w1.out, w2.out, show (((x.size : Int) - a) != ((y.size : Int) - b)) = false from by rw [bne_eq_false_iff_eq]; omega]
        · have hne : (((x.size : Int) - a) != ((y.size : Int) - b)) = true := by rw [bne_iff_ne]; omega
          have hl0 : ∀ n, arbourlaw08_ChunkShifts.l0 (n + 1) t x y p q (i : Int) (k : Int) (a : Int) (b : Int) = arbourlaw08_ChunkShifts.j1 n t x y p q (i : Int) (k : Int) (a : Int) (b : Int) true := fun n => by
            simp only [arbourlaw08_ChunkShifts.l0]
            rw [if_pos (by omega), if_pos (by omega), w1.out, w2.out, hne]
          refine Ev.step hl0 ?_
          have nA := sA _ _ ha c1
          have nB := sB _ _ hb c2
          by_cases c4 : (x.size : Int) - a > (y.size : Int) - b
          · have e1 : Aside0 (wrap64 ((i : Int) + 1) = ((i + 1 : Nat) : Int)) := ⟨by unfold wrap64; omega⟩
            have e2 : Aside0 (wrap64 ((a : Int) + ((rdOf ByteArray.empty p (i : Int)).size : Int)) = ((a + (p.getD i ByteArray.empty).size : Nat) : Int)) := ⟨by
              have := (bA _ _ nA).1
              simp only [rdOf, Int.toNat_natCast]; unfold wrap64; omega⟩
            refine Ev.step (fun n => ?_) (ih (i + 1) k _ b (by omega) nA hb)
            simp only [arbourlaw08_ChunkShifts.j1]
            rw [if_pos trivial, w1.out, w2.out, if_pos c4, if_pos (by omega), if_pos (by omega), e1.out, e2.out]
          · have e1 : Aside0 (wrap64 ((k : Int) + 1) = ((k + 1 : Nat) : Int)) := ⟨by unfold wrap64; omega⟩
            have e2 : Aside0 (wrap64 ((b : Int) + ((rdOf ByteArray.empty q (k : Int)).size : Int)) = ((b + (q.getD k ByteArray.empty).size : Nat) : Int)) := ⟨by
              have := (bB _ _ nB).1
              simp only [rdOf, Int.toNat_natCast]; unfold wrap64; omega⟩
            refine Ev.step (fun n => ?_) (ih i (k + 1) a _ (by omega) ha nB)
            simp only [arbourlaw08_ChunkShifts.j1]
            rw [if_pos trivial, w1.out, w2.out, if_neg c4, if_pos (by omega), if_pos (by omega), e1.out, e2.out]
      · refine Ev.step (fun n => ?_) (tail i k a b false rfl ha hb (by omega))
        simp only [arbourlaw08_ChunkShifts.l0]; rw [if_pos (by omega), if_neg (by omega)]
    · refine Ev.step (fun n => ?_) (tail i k a b false rfl ha hb (by omega))
      simp only [arbourlaw08_ChunkShifts.l0]; rw [if_neg (by omega)]

theorem few_ev (a : ByteArray) (seed : Int) (ha : a.size ≤ 140737488351232) : ∃ r, Ev (fun k => arbourlaw08_few.f k a seed 0) r ∧ r.size ≤ 600 := by
  obtain ⟨t, ⟨K, ht⟩, hs⟩ := text_ev seed (Go.bits .and .i64 0 1023) (by decide) (by decide)
  dsimp only at ht
  have h0 : t.size = 0 := by rw [hs]; decide
  refine ⟨cut600 a ++ t, ⟨K, fun k hk => ?_⟩, ?_⟩
  · dsimp only; unfold arbourlaw08_few.f
    rw [ht k hk, Option.bind_some, if_pos ha, if_pos (by omega)]
  · rw [ByteArray.size_append]
    unfold cut600
    split
    · rw [ByteArray.size_extract]; omega
    · omega

theorem ChunkShifts : arbourlaw08_ChunkShifts.Pure := by
  intro a b seed ha hb _
  obtain ⟨t, ⟨K1, ht⟩, hs⟩ := text_ev seed 700 (by omega) (by omega)
  obtain ⟨A, ⟨K2, hA⟩, sA⟩ := few_ev a (Go.bits .xor .u64 seed 1) ha
  obtain ⟨B, ⟨K3, hB⟩, sB⟩ := few_ev b (Go.bits .xor .u64 seed 2) hb
  have hs' : t.size = 700 := by omega
  have zA : (A ++ t).size = A.size + t.size := ByteArray.size_append ..
  have zB : (B ++ t).size = B.size + t.size := ByteArray.size_append ..
  obtain ⟨K4, hl⟩ := first_loop (A ++ t) (B ++ t) t (chunks gear (A ++ t)) (chunks gear (B ++ t)) (At gear (A ++ t)) (At gear (B ++ t)) (by omega) (by omega) hs' (chunks_len gear _) (chunks_len gear _)
    (fun _ _ h => ⟨h.1, h.2.1⟩) (fun _ _ h => ⟨h.1, h.2.1⟩) (fun _ _ h hi => at_step gear h hi) (fun _ _ h hi => at_step gear h hi) (fun _ _ _ _ h h' he ht => at_same gear h h' he ht) _ 0 0 0 0 rfl (at_zero gear _) (at_zero gear _)
  dsimp only at ht hA hB hl
  have lA : chunk_List.f (A ++ t) = some (chunks gear (A ++ t)) := by unfold chunk_List.f; rw [if_pos (by omega)]
  have lB : chunk_List.f (B ++ t) = some (chunks gear (B ++ t)) := by unfold chunk_List.f; rw [if_pos (by omega)]
  refine ⟨K1 + K2 + K3 + K4, ?_⟩
  unfold arbourlaw08_ChunkShifts.f
  rw [ht _ (by omega), Option.bind_some, hA _ (by omega), Option.bind_some, if_pos (by omega), hB _ (by omega), Option.bind_some, if_pos (by omega), lA, Option.bind_some, lB, Option.bind_some]
  exact hl _ (by omega)

end Go.Proofs.Ytobkpglenpoacaa.Pure
