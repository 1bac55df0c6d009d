/- ChunkJoins: chunks are put together up to the bytes that a file may have, and no further. The statement over numbers and lists; no condition but the reading's own sizes. -/
import Derived.Test.YtobkpglenpoacaaLibChunkJoins
namespace Go.Proofs.Ytobkpglenpoacaa.Pure
open Go.RowKit Go.Proofs.Ytobkpglenpoacaa.XChunkJoins Go.Proofs.YtobkpglenpoacaaW.PrintWords Go.Proofs.YtobkpglenpoacaaW.PrintLast Go.Proofs.YtobkpglenpoacaaW.PrintMore Go.Proofs.YtobkpglenpoacaaC

def total (l : List ByteArray) : Nat := (l.map ByteArray.size).sum
theorem total_snoc (l : List ByteArray) (x : ByteArray) : total (l ++ [x]) = total l + x.size := by simp [total]
theorem total_take {l : List ByteArray} {i : Nat} (h : i < l.length) : total (l.take (i + 1)) = total (l.take i) + l[i].size := by rw [List.take_succ_eq_append_getElem h, total_snoc]
theorem total_le (l : List ByteArray) (i : Nat) : total (l.take i) ≤ total l := by
  have h : total l = total (l.take i) + total (l.drop i) := by
    conv => lhs; rw [← List.take_append_drop i l]
    unfold total; rw [List.map_append, List.sum_append]
  omega
theorem total_mem {l : List ByteArray} {i : Nat} (h : i < l.length) : l[i].size ≤ total l := by
  have h1 := total_take h
  have h2 := total_le l (i + 1)
  omega

theorem join_loop (p : List ByteArray) (hp : p.length ≤ 1000) (ht : total p ≤ 1000000000) : ∀ (d i : Nat) (s : ByteArray), i + d = p.length → s.size = total (p.take i) → s.size ≤ 8192 →
    ∃ r : ByteArray × Bool, Ev (fun k => chunk_Join.l0 k s p (p.length : Int) (i : Int)) r ∧ r.2 = decide (total p ≤ 8192) ∧ (r.2 = true → r.1.size = total p) ∧ (r.2 = false → r.1 = ⟨#[]⟩) := by
  intro d
  induction d with
  | zero =>
    intro i s hi hs h8
    have e : p.take i = p := List.take_of_length_le (by omega)
    rw [e] at hs
    refine ⟨(s, true), Ev.step (f := fun _ => some (s, true)) (fun k => ?_) (Ev.now _), ?_, fun _ => hs, fun h => by cases h⟩
    · simp only [chunk_Join.l0]; rw [if_neg (by omega)]
    · simp; omega
  | succ d ih =>
    intro i s hi hs h8
    have hil : i < p.length := by omega
    have hrd : rdOf ByteArray.empty p (i : Int) = p[i] := by simp [rdOf, hil]
    have h1 := total_take hil
    have h2 := total_le p (i + 1)
    have w1 : Aside0 (wrap64 ((i : Int) + 1) = ((i + 1 : Nat) : Int)) := ⟨by unfold wrap64; omega⟩
    have w2 : Aside0 (wrap64 (8192 - (s.size : Int)) = 8192 - (s.size : Int)) := ⟨by unfold wrap64; omega⟩
    by_cases hb : s.size + p[i].size ≤ 8192
    · obtain ⟨r, hr, h3⟩ := ih (i + 1) (s ++ p[i]) (by omega) (by rw [ByteArray.size_append, h1, hs]) (by rw [ByteArray.size_append]; exact hb)
      refine ⟨r, Ev.step (fun k => ?_) hr, h3⟩
      simp only [chunk_Join.l0]
      rw [if_pos (by omega), if_pos (by omega), if_pos (by omega), hrd, w2.out, if_neg (by omega), if_pos (by omega), w1.out]
    · refine ⟨(⟨#[]⟩, false), Ev.step (f := fun _ => some ((⟨#[]⟩ : ByteArray), false)) (fun k => ?_) (Ev.now _), ?_, (fun h => by cases h), fun _ => rfl⟩
      · simp only [chunk_Join.l0]
        rw [if_pos (by omega), if_pos (by omega), if_pos (by omega), hrd, w2.out, if_pos (by omega)]
      · simp; omega

theorem joins_loop (l : List ByteArray) (hl : l.length ≤ maxLen) (hs : ∀ x ∈ l, x.size ≤ maxLen) (n : Int) : ∀ (d i : Nat) (x5 : List ByteArray), i + d = min l.length 20 → x5.length = i → total x5 ≤ 600 * i →
    Ev (fun k => arbourlaw08_ChunkJoins.l0 k l n x5 ((total x5 : Nat) : Int) (i : Int)) true := by
  unfold maxLen at hl hs
  have fin : ∀ (i : Nat) (x5 : List ByteArray) (b : Bool), b = false → i ≤ 20 → x5.length = i → total x5 ≤ 600 * i → Ev (fun k => arbourlaw08_ChunkJoins.j1 k l n x5 ((total x5 : Nat) : Int) (i : Int) b) true := by
    rintro i x5 b rfl hi h5 ht
    have hb := bits_16383 n
    obtain ⟨t, ⟨K1, c1⟩, hts⟩ := text_ev 7 (Go.bits .and .i64 n 16383) hb.1 (by omega)
    have htot : total (x5 ++ [t]) = total x5 + t.size := total_snoc x5 t
    obtain ⟨r, ⟨K2, c2⟩, h1, h2, h3⟩ := join_loop (x5 ++ [t]) (by simp; omega) (by omega) _ 0 (⟨#[]⟩ : ByteArray) (Nat.zero_add _) (by simp [total, show (⟨#[]⟩ : ByteArray) = ByteArray.empty from rfl]) (by decide)
    obtain ⟨K3, c3⟩ := awake_ev
    dsimp only at c1 c2 c3
    have w : Aside0 (wrap64 (((total x5 : Nat) : Int) + Go.bits .and .i64 n 16383) = ((total (x5 ++ [t]) : Nat) : Int)) := ⟨by unfold wrap64; omega⟩
    have hj : ∀ k, K2 ≤ k → chunk_Join.f k (x5 ++ [t]) = some r := fun k hk => by unfold chunk_Join.f; exact c2 k hk
    refine ⟨K1 + K2 + K3 + 1, fun k hk => ?_⟩
    obtain ⟨k, rfl⟩ : ∃ m, k = m + 1 := ⟨k - 1, by omega⟩
    simp only [arbourlaw08_ChunkJoins.j1]
    rw [if_neg (by decide), c1 k (by omega), Option.bind_some, if_pos (by omega), hj k (by omega), Option.bind_some, c3 k (by omega), Option.bind_some, if_pos rfl, w.out]
    have hd : decide (((total (x5 ++ [t]) : Nat) : Int) ≤ 8192) = decide (total (x5 ++ [t]) ≤ 8192) := by
      by_cases h : total (x5 ++ [t]) ≤ 8192
      · rw [decide_eq_true h, decide_eq_true (by omega)]
      · rw [decide_eq_false h, decide_eq_false (by omega)]
    rw [hd, ← h1, if_pos (by simp)]
    cases hr : r.2 with
    | true => rw [if_pos rfl, h2 hr]; simp
    | false => rw [if_neg (by decide), h3 hr, if_pos (by simp)]
  intro d
  induction d with
  | zero =>
    intro i x5 hi h5 ht
    refine Ev.step (fun k => ?_) (fin i x5 false rfl (by omega) h5 ht)
    simp only [arbourlaw08_ChunkJoins.l0]
    by_cases h : (i : Int) < (l.length : Int)
    · rw [if_pos h, show decide ((i : Int) < 20) = false from by simp; omega]
    · rw [if_neg h]
  | succ d ih =>
    intro i x5 hi h5 ht
    have hil : i < l.length := by omega
    have hrd : rdOf ByteArray.empty l (i : Int) = l[i] := by simp [rdOf, hil]
    have hsz := hs l[i] (List.getElem_mem hil)
    have w1 : Aside0 (wrap64 ((i : Int) + 1) = ((i + 1 : Nat) : Int)) := ⟨by unfold wrap64; omega⟩
    have hj : Ev (fun k => arbourlaw08_ChunkJoins.j1 k l n x5 ((total x5 : Nat) : Int) (i : Int) true) true := by
      by_cases h6 : l[i].size > 600
      · have he : (l[i].extract 0 600).size = 600 := by rw [ByteArray.size_extract]; omega
        have w2 : Aside0 (wrap64 (((total x5 : Nat) : Int) + ((l[i].extract 0 600).size : Int)) = ((total (x5 ++ [l[i].extract 0 600]) : Nat) : Int)) := ⟨by rw [total_snoc]; unfold wrap64; omega⟩
        refine Ev.step (fun k => ?_) (ih (i + 1) (x5 ++ [l[i].extract 0 600]) (by omega) (by simp; omega) (by rw [total_snoc]; omega))
        simp only [arbourlaw08_ChunkJoins.j1]
        rw [if_pos trivial, if_pos (by omega), if_pos (by omega), hrd, if_pos (by omega), if_pos (by omega), if_pos (by omega), if_pos (by omega), w1.out, w2.out]
      · have w2 : Aside0 (wrap64 (((total x5 : Nat) : Int) + (l[i].size : Int)) = ((total (x5 ++ [l[i]]) : Nat) : Int)) := ⟨by rw [total_snoc]; unfold wrap64; omega⟩
        refine Ev.step (fun k => ?_) (ih (i + 1) (x5 ++ [l[i]]) (by omega) (by simp; omega) (by rw [total_snoc]; omega))
        simp only [arbourlaw08_ChunkJoins.j1]
        rw [if_pos trivial, if_pos (by omega), if_pos (by omega), hrd, if_neg (by omega), if_pos (by omega), w1.out, w2.out]
    refine Ev.step (fun k => ?_) hj
    simp only [arbourlaw08_ChunkJoins.l0]
    rw [if_pos (by omega), show decide ((i : Int) < 20) = true from by simp; omega]

theorem ChunkJoins (l0 : List ByteArray) (a1 : Int) (hl : l0.length ≤ maxLen) (hs : ∀ x ∈ l0, x.size ≤ maxLen) : ∃ k, arbourlaw08_ChunkJoins.f k l0 a1 = some true := by
  obtain ⟨K, h⟩ := joins_loop l0 hl hs a1 _ 0 [] (Nat.zero_add _) rfl (by simp [total])
  exact ⟨K, h K (Nat.le_refl _)⟩

end Go.Proofs.Ytobkpglenpoacaa.Pure
