/- PeerPlays: the walk of the law of layer 20 over any doings. -/
import Derived.Test.YtobkpglenpoacaaPeerLaw
import Derived.Test.YtobkpglenpoacaaXfindx
import Derived.Test.YtobkpglenpoacaaOpen
namespace Go.Proofs.YtobkpglenpoacaaP
set_option linter.unusedVariables false
set_option linter.unusedSimpArgs false
open Go.RowKit Go.Maps Go.Proofs.YtobkpglenpoacaaM Go.Proofs.YtobkpglenpoacaaW.PrintWords Go.Proofs.YtobkpglenpoacaaW.PrintMore Go.Proofs.YtobkpglenpoacaaW.PrintLast Go.Proofs.Ytobkpglenpoacaa.Xfind

abbrev Asked := S45
abbrev kAsked : Kd Asked := k45
/-- Something that happens. -/
structure Doing where
  kind : Int
  who : Int
  n : Int
  what : ByteArray
def zDoing : Doing := ⟨0, 0, 0, ⟨#[]⟩⟩
def kDoing : Kd Doing := Kd.iso (Kd.pair (Kd.int .i64) (Kd.pair (Kd.int .i64) (Kd.pair (Kd.int .i64) Kd.string))) (fun x : Doing => (x.kind, x.who, x.n, x.what))
theorem kDoing_open {w : World} {x : Doing} {cs : List Value} (h : kDoing.K w x cs) : cs = [.int .i64 x.kind, .int .i64 x.who, .int .i64 x.n, .string x.what] := by
  obtain ⟨_, _, rfl, rfl, _, _, rfl, rfl, _, _, rfl, rfl, rfl⟩ := h
  exact rfl
def rdD (xs : List Doing) (i : Int) : Doing := xs.getD i.toNat zDoing
theorem at_Doing {w : World} {A : Option Addr} {n : Nat} {xs : List Doing} (h : Kd.C kDoing w A n xs) (i : Nat) (h1 : i < n) :
    ∃ ad, A = some ad ∧ w.cell? (ad.add (i * 4)) = some (.int .i64 (rdD xs i).kind) ∧ w.cell? ⟨(ad.add (i * 4)).block, (ad.add (i * 4)).off + 1, none⟩ = some (.int .i64 (rdD xs i).who) ∧
      w.cell? ⟨(ad.add (i * 4)).block, (ad.add (i * 4)).off + 2, none⟩ = some (.int .i64 (rdD xs i).n) ∧ w.cell? ⟨(ad.add (i * 4)).block, (ad.add (i * 4)).off + 3, none⟩ = some (.string (rdD xs i).what) := by
  obtain ⟨ad, c, e, _, hK, hc0⟩ := Kd.C_get h zDoing i (by omega) (by omega)
  have hc : ∀ j u, c[j]? = some u → w.cell? (ad.add (i * 4 + j)) = some u := hc0
  obtain rfl := kDoing_open hK
  exact ⟨ad, e, hc 0 _ rfl, by rw [← add_field _ _ 1 (by omega)]; exact hc 1 _ rfl, by rw [← add_field _ _ 2 (by omega)]; exact hc 2 _ rfl, by rw [← add_field _ _ 3 (by omega)]; exact hc 3 _ rfl⟩

/-- The place of what was asked for. -/
def placeN (l : List Asked) (s : ByteArray) : Nat := l.findIdx (fun x => decide (x.f0 = s))
def place (l : List Asked) (s : ByteArray) : Int := if placeN l s < l.length then (placeN l s : Int) else -1
def prs (l : List Asked) : List (ByteArray × Int) := l.map (fun x => (x.f0, x.f1))
theorem toList_eq (a b : ByteArray) : a.toList = b.toList ↔ a = b := by
  constructor
  · intro h
    rw [ByteArray.toList_eq, ByteArray.toList_eq] at h
    cases a; cases b
    congr 1
    exact Array.toList_inj.1 h
  · rintro rfl; rfl
theorem find_from (l : List Asked) (s : ByteArray) (hl : l.length ≤ 1000000) : ∀ (m i : Nat), l.length - i ≤ m → i ≤ l.length → (∀ j (hj : j < l.length), j < i → l[j].f0 ≠ s) → ∃ k, arbourlaw20_find.l0 k l s i = some (place l s)
  | m, i, hm, hi, hb => by
    by_cases h : i < l.length
    · have e1 : rd_T45 l i = l[i] := by simp [rd_T45, List.getD, h]
      by_cases h2 : l[i].f0 = s
      · refine ⟨1, ?_⟩
        unfold arbourlaw20_find.l0
        rw [if_pos (by omega), if_pos (by omega), e1, if_pos ((toList_eq _ _).2 h2)]
        have : placeN l s = i := (List.findIdx_eq h).2 ⟨by simp [h2], fun j hj => by simpa using hb j (by omega) hj⟩
        rw [place, this, if_pos h]
      · cases m with
        | zero => omega
        | succ m =>
          obtain ⟨k, hk⟩ := find_from l s hl m (i + 1) (by omega) h (fun j hj hj1 => by
            by_cases e : j = i
            · subst e; exact h2
            · exact hb j hj (by omega))
          refine ⟨k + 1, ?_⟩
          unfold arbourlaw20_find.l0
          rw [if_pos (by omega), if_pos (by omega), e1, if_neg (fun e => h2 ((toList_eq _ _).1 e)), show wrap64 ((i : Int) + 1) = ((i + 1 : Nat) : Int) from by unfold wrap64; omega]
          exact hk
    · refine ⟨1, ?_⟩
      unfold arbourlaw20_find.l0
      rw [if_neg (by omega), place, if_neg]
      unfold placeN
      rw [List.findIdx_lt_length]
      rintro ⟨x, hx, hp⟩
      obtain ⟨j, hj, rfl⟩ := List.mem_iff_getElem.1 hx
      exact hb j hj (by omega) (by simpa using hp)
theorem find_run (l : List Asked) (s : ByteArray) (hl : l.length ≤ 1000000) : ∃ k, arbourlaw20_find.f k l s = some (place l s) :=
  find_from l s hl l.length 0 (by omega) (by omega) (fun _ _ h => absurd h (by omega))
theorem without_run (l : List Asked) (i : Nat) (hl : l.length ≤ 1000000) (hi : i < l.length) : arbourlaw20_without.f l i = some (l.eraseIdx i) := by
  unfold arbourlaw20_without.f
  have h1 : wrap64 ((i : Int) + 1) = ((i + 1 : Nat) : Int) := by unfold wrap64; omega
  simp only [Option.bind_some, h1]
  have ht : (l.take i).length = i := by rw [List.length_take]; omega
  rw [if_pos (by omega), if_pos (by omega), if_pos (by simp only [Int.toNat_natCast, ht, List.length_nil]; omega), if_pos (by omega), if_pos (by omega), if_pos (by simp only [Int.toNat_natCast, List.nil_append, ht, List.length_drop]; omega)]
  rw [List.eraseIdx_eq_take_drop_succ]
  rfl
theorem get_place (l : List Asked) (s : ByteArray) : (get (prs l) s).isSome = decide (0 ≤ place l s) := by
  rw [get_isSome, Bool.eq_iff_iff, decide_eq_true_eq]
  simp only [prs, List.any_map, List.any_eq_true, Function.comp, decide_eq_true_eq]
  unfold place
  constructor
  · rintro ⟨x, hx, e⟩
    rw [if_pos]
    · omega
    · unfold placeN; rw [List.findIdx_lt_length]; exact ⟨x, hx, by simpa using e⟩
  · intro h
    split at h
    · rename_i h2
      unfold placeN at h2; rw [List.findIdx_lt_length] at h2
      obtain ⟨x, hx, e⟩ := h2
      exact ⟨x, hx, by simpa using e⟩
    · omega
theorem del_place : ∀ (l : List Asked) (s : ByteArray), ((prs l).map (·.1)).Nodup → delL (prs l) s = prs (if 0 ≤ place l s then l.eraseIdx (place l s).toNat else l)
  | l, s, hn => by
    have key : ∀ l : List Asked, ((prs l).map (·.1)).Nodup → delL (prs l) s = prs (l.eraseIdx (placeN l s)) := by
      intro l
      induction l with
      | nil => intro _; rfl
      | cons x t ih =>
        intro hn
        simp only [prs, List.map_cons, List.nodup_cons] at hn
        unfold placeN
        rw [List.findIdx_cons]
        by_cases h : x.f0 = s
        · simp only [h, decide_true, cond_true, List.eraseIdx_cons_zero]
          simp only [prs, List.map_cons, delL, ne_eq, h, not_true_eq_false, decide_false, Bool.false_eq_true, not_false_eq_true, List.filter_cons_of_neg]
          refine List.filter_eq_self.2 fun p hp => ?_
          simp only [decide_eq_true_eq]
          intro e
          exact hn.1 (by rw [h, ← e]; exact List.mem_map_of_mem hp)
        · simp only [h, decide_false, cond_false, List.eraseIdx_cons_succ]
          simp only [prs, List.map_cons, delL, ne_eq, h, not_false_eq_true, decide_true, List.filter_cons_of_pos, List.cons.injEq, true_and]
          exact ih hn.2
    rw [key l hn]
    unfold place
    split
    · rw [if_pos (by omega)]; simp
    · rw [if_neg (by omega), List.eraseIdx_of_length_le (by omega)]
/-- What is left of what was asked for. -/
def live (t : Int) (l : List Asked) : List Asked := l.filter (fun x => decide (t - x.f1 < 6))
theorem prs_filter (l : List Asked) (t : Int) : (prs l).filter (stale t) = prs (live t l) := by
  unfold prs live; rw [List.filter_map]; rfl

/-- What is kept: the peers' object, the law's own two maps, its row, and where they lie. -/
structure Kept (w0 w : World) (g bF bB bA b1 b2 : Nat) (v : Value) (pf pb : List (Int × Int)) (pa : List (ByteArray × Int)) (pt : Int) (fr bs : List (Int × Int)) (l : List Asked) : Prop where
  peers : IsPeers w g bF bB bA pf pb pa pt
  m1 : IsMap Try.prog 3 ekI evI w b1 fr
  m2 : IsMap Try.prog 3 ekI evI w b2 bs
  ne : b1 ≠ b2 ∧ ¬ Foot g bF bB bA b1 ∧ ¬ Foot g bF bB bA b2
  row : Kd.R kAsked 45 w w0.heap.size (fun k => ¬ Foot g bF bB bA k ∧ k ≠ b1 ∧ k ≠ b2) v l
  below : Below w0.heap.size w0 w
  own : w0.heap.size ≤ b1 ∧ w0.heap.size ≤ b2 ∧ ∀ k, Foot g bF bB bA k → w0.heap.size ≤ k
/-- The numbers that are kept. -/
structure Fine (fr bs : List (Int × Int)) (l : List Asked) (tick : Int) (i : Nat) : Prop where
  tick0 : 0 ≤ tick ∧ tick ≤ i
  asks : ∀ p ∈ l, 0 ≤ p.f1 ∧ p.f1 ≤ tick
  lens : fr.length ≤ i ∧ bs.length ≤ i ∧ l.length ≤ i
  ats : ∀ x, (0 ≤ at0 fr x ∧ at0 fr x ≤ 16) ∧ 0 ≤ at0 bs x ∧ at0 bs x ≤ 131072
/-- The box of what happens. -/
structure Box (w : World) (g bF bB bA b1 b2 ga : Nat) (d : Doing) : Prop where
  cells : w.heap[ga]? = some (.cells #[.int .i64 d.kind, .int .i64 d.who, .int .i64 d.n, .string d.what] 41 (0, 0))
  far : ¬ Foot g bF bB bA ga ∧ ga ≠ b1 ∧ ga ≠ b2

theorem R_empty {α : Type} (d : Kd α) (e : Nat) (W : World) (base : Nat) (hb : base ≤ W.heap.size) (ok : Nat → Prop) (hok : ok W.heap.size) : d.R e (W.alloc (.cells #[] e)) base ok (.slice (some ⟨W.heap.size, 0, none⟩) 0 0) [] := by
  refine ⟨fun k hk => ?_, [], ?_, Reps.none _ _⟩
  · have : W.heap.size = k := by simpa [Value.ownBlock] using hk
    subst this
    exact hok
  · have h2 := World.ownsRow_lit (base := base) (e := e) (size := d.sz) W #[] 0 hb (by decide) (by simp)
    simpa using h2
theorem IsPeers.lt {w : World} {g bF bB bA : Nat} {fr bs : List (Int × Int)} {ask : List (ByteArray × Int)} {tick : Int} (h : IsPeers w g bF bB bA fr bs ask tick) : ∀ k, Foot g bF bB bA k → k < w.heap.size := fun k hk => by
  rcases hk with rfl | rfl | rfl | rfl
  · exact blk_lt h.cells
  · exact h.mF.lt
  · exact h.mB.lt
  · exact h.mA.lt
theorem IsPeers.alloc {w : World} {g bF bB bA : Nat} {fr bs : List (Int × Int)} {ask : List (ByteArray × Int)} {tick : Int} (h : IsPeers w g bF bB bA fr bs ask tick) (o : Obj) : IsPeers (w.alloc o) g bF bB bA fr bs ask tick :=
  h.later fun k hk _ => (World.grownBy_alloc w o none).block k hk (by simp)
theorem Kept.start {w0 w : World} {g bF bB bA : Nat} (h : IsPeers w g bF bB bA [] [] [] 0) (t : Turn (fun _ => False) w0 w) (hf : ∀ k, Foot g bF bB bA k → w0.heap.size ≤ k) :
    Kept w0 (((w.alloc (.map #[] 0)).alloc (.map #[] 0)).alloc (.cells #[] 45)) g bF bB bA w.heap.size (w.heap.size + 1) (.slice (some ⟨w.heap.size + 1 + 1, 0, none⟩) 0 0) [] [] [] 0 [] [] [] := by
  have hm1 : IsMap Try.prog 3 ekI evI (w.alloc (.map #[] 0)) w.heap.size [] := IsMap.new w _ _
  have hm2 : IsMap Try.prog 3 ekI evI ((w.alloc (.map #[] 0)).alloc (.map #[] 0)) (w.heap.size + 1) [] := by have := IsMap.new (ek := ekI) (ev := evI) (w.alloc (.map #[] 0)) Try.prog 3; simpa using this
  have hlt := h.lt
  have hs := t.size
  have hB := t.toBelow
  refine ⟨((h.alloc _).alloc _).alloc _, (hm1.alloc _).alloc _, hm2.alloc _, ⟨by omega, fun hk => by have := hlt _ hk; omega, fun hk => by have := hlt _ hk; omega⟩, ?_, below_alloc (below_alloc (below_alloc hB _) _) _, ⟨hs, by omega, hf⟩⟩
  have := R_empty kAsked 45 ((w.alloc (.map #[] 0)).alloc (.map #[] 0)) w0.heap.size (by simp; omega) (fun k => ¬ Foot g bF bB bA k ∧ k ≠ w.heap.size ∧ k ≠ w.heap.size + 1) (by
    simp only [World.size_alloc]
    exact ⟨fun hk => by have := hlt _ hk; omega, by omega, by omega⟩)
  simpa using this

theorem fine_start : Fine [] [] [] 0 0 := ⟨by omega, by simp, by simp, fun x => by simp [at0, get_nil]⟩
section
variable {w0 w w' : World} {g bF bB bA b1 b2 ga : Nat} {v v' : Value} {pf pb fr bs pf' pb' fr' bs' : List (Int × Int)} {pa pa' : List (ByteArray × Int)} {pt pt' : Int} {l l' : List Asked} {d : Doing}
theorem Turn.below' {S : Nat → Prop} (hb : Below w0.heap.size w0 w) (t : Turn S w w') (hS : ∀ k, S k → w0.heap.size ≤ k) : Below w0.heap.size w0 w' :=
  ⟨t.os.trans hb.os, t.tape.trans hb.tape, t.output.trans hb.output, Nat.le_trans hb.size t.size, fun k hk => (t.block k (Nat.lt_of_lt_of_le hk hb.size) (fun hs => by have := hS k hs; omega)).trans (hb.block k hk)⟩
theorem Kept.peer (h : Kept w0 w g bF bB bA b1 b2 v pf pb pa pt fr bs l) (hp : IsPeers w' g bF bB bA pf' pb' pa' pt') (t : Turn (Foot g bF bB bA) w w') : Kept w0 w' g bF bB bA b1 b2 v pf' pb' pa' pt' fr bs l :=
  ⟨hp, h.m1.heap (t.block _ h.m1.lt h.ne.2.1), h.m2.heap (t.block _ h.m2.lt h.ne.2.2), h.ne, Kd.R_step h.row (fun k hk hlt => t.block k hlt hk.1), t.below' h.below h.own.2.2, h.own⟩
theorem Kept.turn0 (h : Kept w0 w g bF bB bA b1 b2 v pf pb pa pt fr bs l) (t : Turn (fun _ => False) w w') : Kept w0 w' g bF bB bA b1 b2 v pf pb pa pt fr bs l :=
  h.peer (h.peers.later fun k hk _ => t.block k hk (fun hf => hf)) ⟨t.os, t.tape, t.output, t.size, fun k hk _ => t.block k hk (fun hf => hf)⟩
theorem Kept.row' (h : Kept w0 w g bF bB bA b1 b2 v pf pb pa pt fr bs l) (hr : Kd.R kAsked 45 w' w.heap.size (fun _ => True) v' l') (hb : Below w.heap.size w w') : Kept w0 w' g bF bB bA b1 b2 v' pf pb pa pt fr bs l' := by
  have h1 := h.turn0 (w' := w') ⟨hb.os, hb.tape, hb.output, hb.size, fun k hk _ => hb.block k hk⟩
  refine ⟨h1.peers, h1.m1, h1.m2, h1.ne, ?_, h1.below, h1.own⟩
  have hlt := h.peers.lt
  have l1 := h.m1.lt
  have l2 := h.m2.lt
  exact Kd.R_lower (Kd.R_mono (Kd.R_bound hr) (fun k hk => ⟨fun hf => by have := hlt k hf; have := hk.2.1; omega, fun e => by have := hk.2.1; omega, fun e => by have := hk.2.1; omega⟩)) h.below.size
theorem Kept.store1 (h : Kept w0 w g bF bB bA b1 b2 v pf pb pa pt fr bs l) (hm : IsMap Try.prog 3 ekI evI w' b1 fr') (hg : w.grownBy w' (some b1)) : Kept w0 w' g bF bB bA b1 b2 v pf pb pa pt fr' bs l :=
  ⟨h.peers.later fun k hk hf => hg.block k hk (fun e => h.ne.2.1 (by cases e; exact hf)), hm, h.m2.kept hg (fun e => h.ne.1 (by cases e; rfl)), h.ne, Kd.R_grown h.row hg (fun k hk e => hk.2.1 (by cases e; rfl)),
    ⟨hg.os.trans h.below.os, hg.tape.trans h.below.tape, hg.output.trans h.below.output, Nat.le_trans h.below.size hg.size, fun k hk => (hg.block k (Nat.lt_of_lt_of_le hk h.below.size) (fun e => by cases e; have := h.own.1; omega)).trans (h.below.block k hk)⟩, h.own⟩
theorem Kept.store2 (h : Kept w0 w g bF bB bA b1 b2 v pf pb pa pt fr bs l) (hm : IsMap Try.prog 3 ekI evI w' b2 bs') (hg : w.grownBy w' (some b2)) : Kept w0 w' g bF bB bA b1 b2 v pf pb pa pt fr bs' l :=
  ⟨h.peers.later fun k hk hf => hg.block k hk (fun e => h.ne.2.2 (by cases e; exact hf)), h.m1.kept hg (fun e => h.ne.1 (by cases e; rfl)), hm, h.ne, Kd.R_grown h.row hg (fun k hk e => hk.2.2 (by cases e; rfl)),
    ⟨hg.os.trans h.below.os, hg.tape.trans h.below.tape, hg.output.trans h.below.output, Nat.le_trans h.below.size hg.size, fun k hk => (hg.block k (Nat.lt_of_lt_of_le hk h.below.size) (fun e => by cases e; have := h.own.2.1; omega)).trans (h.below.block k hk)⟩, h.own⟩
theorem Kept.maps (h : Kept w0 w g bF bB bA b1 b2 v pf pb pa pt fr bs l) : Kept w0 (((w.alloc (.map #[] 0)).alloc (.map #[] 0))) g bF bB bA w.heap.size (w.heap.size + 1) v pf pb pa pt [] [] l := by
  have hm1 : IsMap Try.prog 3 ekI evI (w.alloc (.map #[] 0)) w.heap.size [] := IsMap.new w _ _
  have hm2 : IsMap Try.prog 3 ekI evI ((w.alloc (.map #[] 0)).alloc (.map #[] 0)) (w.heap.size + 1) [] := by have := IsMap.new (ek := ekI) (ev := evI) (w.alloc (.map #[] 0)) Try.prog 3; simpa using this
  have hlt := h.peers.lt
  have hs := h.below.size
  refine ⟨(h.peers.alloc _).alloc _, hm1.alloc _, hm2, ⟨by omega, fun hk => by have := hlt _ hk; omega, fun hk => by have := hlt _ hk; omega⟩, ?_, below_alloc (below_alloc h.below _) _, ⟨hs, by omega, h.own.2.2⟩⟩
  exact Kd.R_mono (Kd.R_alloc (Kd.R_alloc (Kd.R_bound h.row) _) _) (fun k hk => ⟨hk.1.1, by have := hk.2.2.1; omega, by have := hk.2.2.1; omega⟩)
theorem Kept.box (h : Kept w0 w g bF bB bA b1 b2 v pf pb pa pt fr bs l) : Kept w0 (w.alloc (.cells #[.int .i64 d.kind, .int .i64 d.who, .int .i64 d.n, .string d.what] 41)) g bF bB bA b1 b2 v pf pb pa pt fr bs l ∧
    Box (w.alloc (.cells #[.int .i64 d.kind, .int .i64 d.who, .int .i64 d.n, .string d.what] 41)) g bF bB bA b1 b2 w.heap.size d := by
  refine ⟨h.turn0 ((Turn.refl _ _).alloc _), ?_, fun hk => by have := h.peers.lt _ hk; omega, fun e => by have := h.m1.lt; omega, fun e => by have := h.m2.lt; omega⟩
  exact heap_alloc_new w _
theorem Box.turn (h : Box w g bF bB bA b1 b2 ga d) (t : Turn (Foot g bF bB bA) w w') : Box w' g bF bB bA b1 b2 ga d := ⟨(t.block ga (blk_lt h.cells) h.far.1).trans h.cells, h.far⟩
theorem Box.turn0 (h : Box w g bF bB bA b1 b2 ga d) (t : Turn (fun _ => False) w w') : Box w' g bF bB bA b1 b2 ga d := ⟨(t.block ga (blk_lt h.cells) (fun hf => hf)).trans h.cells, h.far⟩
theorem Box.store1 (h : Box w g bF bB bA b1 b2 ga d) (hg : w.grownBy w' (some b1)) : Box w' g bF bB bA b1 b2 ga d := ⟨(hg.block ga (blk_lt h.cells) (fun e => h.far.2.1 (by cases e; rfl))).trans h.cells, h.far⟩
theorem Box.read (h : Box w g bF bB bA b1 b2 ga d) : w.cell? ⟨ga, 0, none⟩ = some (.int .i64 d.kind) ∧ w.cell? ⟨ga, 1, none⟩ = some (.int .i64 d.who) ∧ w.cell? ⟨ga, 2, none⟩ = some (.int .i64 d.n) ∧ w.cell? ⟨ga, 3, none⟩ = some (.string d.what) := (four h.cells).1
theorem drawn_turn (S : Nat → Prop) (h : Drawn0 w w') : Turn S w w' := by obtain ⟨m, rfl⟩ := h; exact ⟨rfl, rfl, rfl, Nat.le_refl _, fun _ _ _ => rfl⟩
theorem asked_l (h : IsPeers w g bF bB bA fr bs (prs l) pt) : Calls Try.prog 26 #[.pointer (some ⟨g, 0, none⟩)] w fun e w' => e = .returned (.int .i64 l.length) ∧ w = w' := by
  have := asked_any h
  simpa [prs] using this
theorem Fine.later {i : Nat} (h : Fine fr bs l pt i) : Fine fr bs l pt (i + 1) := ⟨by have := h.tick0; omega, h.asks, by have := h.lens; omega, h.ats⟩
theorem Fine.take {i : Nat} {who n : Int} (h : Fine fr bs l pt i) (e : takeOk fr bs who n = true) : Fine (setL fr who (at0 fr who + 1)) (setL bs who (at0 bs who + n)) l pt (i + 1) := by
  simp only [takeOk, Bool.and_eq_true, decide_eq_true_eq] at e
  have h3 := h.lens
  have l1 := len_setL fr who (at0 fr who + 1)
  have l2 := len_setL bs who (at0 bs who + n)
  refine ⟨by have := h.tick0; omega, h.asks, by omega, fun x => ?_⟩
  have h4 := h.ats x
  have h5 := h.ats who
  rw [at0_setL, at0_setL]
  split <;> omega
theorem Fine.erase {i : Nat} (j : Nat) (h : Fine fr bs l pt i) : Fine fr bs (l.eraseIdx j) pt (i + 1) :=
  ⟨by have := h.tick0; omega, fun p hp => h.asks p (List.mem_of_mem_eraseIdx hp), by have := h.lens; have := List.length_eraseIdx_le l j; omega, h.ats⟩
theorem Fine.asked {i : Nat} (s : ByteArray) (h : Fine fr bs l pt i) : Fine fr bs (l ++ [⟨s, pt⟩]) pt (i + 1) :=
  ⟨by have := h.tick0; omega, fun p hp => by
    rcases List.mem_append.1 hp with h1 | h1
    · exact h.asks p h1
    · obtain rfl := List.mem_singleton.1 h1
      exact ⟨h.tick0.1, Int.le_refl _⟩, by have := h.lens; simp only [List.length_append, List.length_singleton]; omega, h.ats⟩
theorem Fine.tick {i : Nat} (h : Fine fr bs l pt i) : Fine [] [] (live (pt + 1) l) (pt + 1) (i + 1) :=
  ⟨by have := h.tick0; omega, fun p hp => by have := h.asks p (List.mem_filter.1 hp).1; omega, by have := h.lens; have := List.length_filter_le (fun x : Asked => decide (pt + 1 - x.f1 < 6)) l; simp only [List.length_nil, live]; omega, fun x => by simp [at0, get_nil]⟩
theorem live_next {t : Int} {m : Nat} (hm : m < l.length) : live t (l.take (m + 1)) = if t - (l[m]).f1 < 6 then live t (l.take m) ++ [l[m]] else live t (l.take m) := by
  unfold live
  rw [List.take_succ_eq_append_getElem hm, List.filter_append]
  by_cases h : t - (l[m]).f1 < 6 <;> simp [h]
theorem at_Asked {A : Option Addr} {n : Nat} (h : Kd.C kAsked w A n l) (m : Nat) (h1 : m < n) (h2 : m < l.length) :
    ∃ ad, A = some ad ∧ w.cell? (ad.add (m * 2)) = some (.string (l[m]).f0) ∧ w.cell? ⟨(ad.add (m * 2)).block, (ad.add (m * 2)).off + 1, none⟩ = some (.int .i64 (l[m]).f1) := by
  have e : rd_T45 l m = l[m] := by simp [rd_T45, List.getD, h2]
  have := at_T45 h m (by omega) (by omega)
  rw [e] at this
  simpa using this
theorem plays_mid {who : Int} (h : Kept w0 w g bF bB bA b1 b2 v pf pb pa pt fr bs l) (hx : Box w g bF bB bA b1 b2 ga d) (hm : IsMap Try.prog 3 ekI evI w' b1 fr') (hg : w.grownBy w' (some b1))
    (hkey : keyOf Try.prog 3 (.int .i64 who) = some (ekI who)) {b : Int} (hb : b = at0 bs who) :
    Hid (Kept w0 w' g bF bB bA b1 b2 v pf pb pa pt fr' bs l ∧ Box w' g bF bB bA b1 b2 ga d) ∧ (w'.cell? ⟨ga, 0, none⟩ = some (.int .i64 d.kind) ∧ w'.cell? ⟨ga, 1, none⟩ = some (.int .i64 d.who) ∧ w'.cell? ⟨ga, 2, none⟩ = some (.int .i64 d.n) ∧ w'.cell? ⟨ga, 3, none⟩ = some (.string d.what)) ∧
      (Instr.lookup 38 (.map (some b2)) (.int .i64 who) false).run Try.prog w' = .ok (.int .i64 b) w' := by
  have h1 := h.store1 hm hg
  have h2 := hx.store1 hg
  have l2 := h1.m2.run_lookup lawI (t := 38) Try.underlying38 (zeroI w') who hkey
  rw [valAt_at0, ← hb] at l2
  exact ⟨⟨h1, h2⟩, h2.read, l2⟩
end

-- the region of two appends: its order
def T23 : Bool × List (List Nat × List Nat) := (true, [([], []), ([], []), ([0, 1], [0, 1]), ([], []), ([3], [3]), ([], []), ([4, 5], [4, 5]), ([6], [6]), ([2, 7, 2], [2, 7]), ([8, 8, 0, 1, 2, 3, 4, 5, 6, 7, 8], [1, 8])])
def B23 : List Nat := [0, 0, 3, 0, 8, 0, 56, 120, 255, 511]
theorem tab23 : rtab .any (opsOf Try.f7 23) = T23 := by kernel_rfl
theorem bits23 : waitsOk T23.2 B23 = true := by kernel_rfl
theorem reps_single {α : Type} {R : α → List Value → Prop} {size : Nat} {p : α} {c : List Value} (hp : R p c) (hc : c.length = size) : Reps R size [p] c := (Reps.none R size).snoc hp hc
theorem R_next {w w' : World} {base : Nat} {v v97 : Value} {xs : List Asked} (h : Kd.R kAsked 45 w base (fun _ => True) v xs) (hg : w.grownBy w' v97.ownBlock) (hn : v97.ownBlock = none ∨ v97.ownBlock ≠ v.ownBlock) :
    Kd.R kAsked 45 w' base (fun _ => True) v xs :=
  Kd.R_mono (Kd.R_grown (Kd.R_flat (ok' := fun k => v.ownBlock = some k) (fun h => h) h (fun _ hk _ => hk)) hg (fun _ hk => atom_of' hn hk)) (fun _ _ => trivial)
theorem R_lt {w : World} {base : Nat} {v : Value} {xs : List Asked} (h : Kd.R kAsked 45 w base (fun _ => True) v xs) : ∀ k, v.ownBlock = some k → k < w.heap.size := fun k hk => ((Kd.R_bound h).1 k hk).2.2.1
theorem Kept.place {w0 w w' : World} {g bF bB bA b1 b2 ga : Nat} {v : Value} {pf pb fr bs : List (Int × Int)} {pa : List (ByteArray × Int)} {pt : Int} {l : List Asked} {d : Doing}
    (h : Kept w0 w g bF bB bA b1 b2 v pf pb pa pt fr bs l ∧ Box w g bF bB bA b1 b2 ga d) (hb : Below w.heap.size w w') : w'.cell? ⟨ga, 3, none⟩ = some (.string d.what) :=
  (h.2.turn0 ⟨hb.os, hb.tape, hb.output, hb.size, fun k hk _ => hb.block k hk⟩).read.2.2.2

-- the empty row
-- the row of one


set_option maxHeartbeats 8000000 in
set_option maxRecDepth 100000 in
theorem plays_law (A : Option Addr) (c : Nat) (l : List Doing) (w : World) (hr : Kd.C kDoing w A l.length l) (hc : l.length ≤ c) (hok : ∀ x ∈ l, (Lit.int .i64 x.who).wf = true ∧ x.what.size ≤ maxLen) :
    Calls Try.prog 7 #[.slice A l.length c] w fun e w' => e = .returned (.bool true) ∧ Below w.heap.size w w' := by
  have HR := Lib.hid hr
  clear hr
  have hmm := @run_makeMap Try.prog
  go_enter Try.func7, Try.ntmps7
  go_wp2_with fail
  refine (new_any w).mono ?_
  rintro e w1 ⟨rfl, h1, t1⟩
  obtain ⟨g, hg⟩ : ∃ g, g = w.heap.size + 3 := ⟨_, rfl⟩
  obtain ⟨bF, hF⟩ : ∃ g, g = w.heap.size := ⟨_, rfl⟩
  obtain ⟨bB, hB⟩ : ∃ g, g = w.heap.size + 1 := ⟨_, rfl⟩
  obtain ⟨bA, hA⟩ : ∃ g, g = w.heap.size + 2 := ⟨_, rfl⟩
  rw [← hg, ← hB, ← hA] at h1
  rw [← hg]
  have hfoot : Hid (∀ k, Foot g bF bB bA k → w.heap.size ≤ k) := fun k hk => by rcases hk with rfl | rfl | rfl | rfl <;> omega
  rw [← hF] at h1
  have T1 := Lib.hid t1
  have H0 : Hid (IsPeers w1 g bF bB bA [] [] [] 0) := h1
  clear h1 t1 hg hF hB hA
  go_wp2_with fail
  refine (awake_any w1).mono ?_
  rintro e w2 ⟨rfl, hAw⟩
  have H1 : Hid (IsPeers w2 g bF bB bA [] [] [] 0) := (H0.out).later (fun k hk _ => hAw.block k hk (fun hf => hf))
  have T2 : Hid (Turn (fun _ => False) w w2) := (T1.out).trans hAw
  clear hAw H0 T1
  go_wp2_with fail
  have K0 := Lib.hid (Kept.start H1.out T2.out hfoot.out)
  clear H1 T2
  go_loopw [4, 5, 6, 7, 8] (fun u4 u5 u6 u7 u8 wr => ∃ (i b1 b2 : Nat) (fr bs : List (Int × Int)) (ask : List Asked) (tick : Int), i ≤ 200 ∧ i ≤ l.length ∧ u4 = .map (some b1) ∧ u5 = .map (some b2) ∧ u7 = .int .i64 tick ∧ u8 = .int .i64 i ∧ Hid (Kept w wr g bF bB bA b1 b2 u6 fr bs (prs ask) tick fr bs ask) ∧ Hid (Fine fr bs ask tick i)) (fun _ _ _ _ i _ => 201 - (intOf i).toNat)
  case atStart => exact ⟨0, _, _, _, _, [], _, by omega, by omega, rfl, rfl, rfl, rfl, K0, fine_start⟩
  case round =>
    obtain ⟨i, b1, b2, fr, bs, ask, tick, hi, hil, rfl, rfl, rfl, rfl, HK, HF⟩ := hrel
    clear K0
    by_cases hlt : i < 200
    · have hd1 : decide ((i : Int) < 200) = true := decide_eq_true (by omega)
      by_cases hlt2 : i < l.length
      · have hd2 : decide ((i : Int) < (l.length : Int)) = true := decide_eq_true (by omega)
        have p1 : (0 ≤ (i : Int)) = True := eq_true (by omega)
        have q1 : ((i : Int) < (l.length : Int)) = True := eq_true (by omega)
        obtain ⟨ad, rfl, x0, x1, x2, x3⟩ := at_Doing (Kd.C_below HR.out HK.out.below) i (by omega)
        have hdo : rdD l i ∈ l := by simp [rdD, List.getD, hlt2]
        generalize rdD l i = d at x0 x1 x2 x3 hdo
        have HD := Lib.hid (hok d hdo)
        clear hdo
        obtain ⟨A6, c6, rfl, hc6, hC6⟩ := Kd.R_reads HK.out.row
        have HC6 := Lib.hid hc6
        clear hc6 hC6
        go_wp2_with fail
        have HX := Lib.hid (HK.out.box (d := d))
        obtain ⟨ga, hga⟩ : ∃ ga, ga = wr.heap.size := ⟨_, rfl⟩
        rw [← hga] at HX ⊢
        generalize wr.alloc _ = w3 at HX ⊢
        clear x0 x1 x2 x3 HK hga
        obtain ⟨k, hk⟩ := find_run ask d.what (by have := HF.out.lens; omega)
        refine (arbourlaw20_find.calls k A6 c6 ask d.what (place ask d.what) w3 (Kd.R_reads' HX.out.1.row).2.2 HC6.out hk).mono ?_
        rintro e w4 ⟨rfl, hdr⟩
        clear hk
        have H4 := Lib.hid (And.intro (HX.out.1.turn0 (drawn_turn _ hdr)) (HX.out.2.turn0 (drawn_turn _ hdr)))
        clear hdr HX
        obtain ⟨x0, x1, x2, x3⟩ := H4.out.2.read
        by_cases h34 : d.kind = 3 ∨ d.kind = 4
        · by_cases hp : 0 ≤ place ask d.what
          · have gp : decide (place ask d.what < 0) = false := decide_eq_false (by omega)
            have hs : (get (prs ask) d.what).isSome = true := by rw [get_place, decide_eq_true hp]
            rcases h34 with h3 | h4
            · have e3 : (d.kind == 3) = true := beq_iff_eq.2 h3
              go_wp2_with fail
              refine (ask_no H4.out.1.peers d.what HD.out.2 hs).mono ?_
              rintro e w5 ⟨rfl, h5', t5⟩
              have HT := Lib.hid (H4.out.1.peer h5' t5)
              have HF' := Lib.hid HF.out.later
              clear h5' t5
              go_wp2_with fail
              refine (asked_l HT.out.peers).mono ?_
              rintro e w9 ⟨rfl, rfl⟩
              go_wp2_with fail
              go_roundw
              case rel => exact ⟨i + 1, _, _, _, _, _, _, by omega, by omega, rfl, rfl, (by first | rfl | go_num), by go_num, HT, HF'⟩
              case measure => simp [intOf]; omega
            · have e3 : (d.kind == 3) = false := beq_eq_false_iff_ne.2 (by omega)
              have e4 : (d.kind == 4) = true := beq_iff_eq.2 h4
              go_wp2_with fail
              refine (ask_no H4.out.1.peers d.what HD.out.2 hs).mono ?_
              rintro e w5 ⟨rfl, h5', t5⟩
              have HT := Lib.hid (H4.out.1.peer h5' t5)
              have HF' := Lib.hid HF.out.later
              clear h5' t5
              go_wp2_with fail
              refine (asked_l HT.out.peers).mono ?_
              rintro e w9 ⟨rfl, rfl⟩
              go_wp2_with fail
              go_roundw
              case rel => exact ⟨i + 1, _, _, _, _, _, _, by omega, by omega, rfl, rfl, (by first | rfl | go_num), by go_num, HT, HF'⟩
              case measure => simp [intOf]; omega
          · have gp : decide (place ask d.what < 0) = true := decide_eq_true (by omega)
            have hs : get (prs ask) d.what = none := by
              have := get_place ask d.what
              rw [decide_eq_false hp] at this
              exact Option.isSome_eq_false_iff.1 this |> Option.isNone_iff_eq_none.1
            rcases h34 with h3 | h4
            · have e3 : (d.kind == 3) = true := beq_iff_eq.2 h3
              go_wp2_with fail
              refine (ask_yes H4.out.1.peers d.what HD.out.2 hs (by have := HF.out.lens; simp only [prs, List.length_map]; omega)).mono ?_
              rintro e w5 ⟨rfl, h5', t5⟩
              rw [show prs ask ++ [(d.what, tick)] = prs (ask ++ [⟨d.what, tick⟩]) from by simp [prs]] at h5'
              have H5 := Lib.hid (And.intro (H4.out.1.peer h5' t5) (H4.out.2.turn t5))
              have HF' := Lib.hid (HF.out.asked d.what)
              clear h5' t5 x0 x1 x2 x3
              obtain ⟨x0, x1, x2, x3⟩ := H5.out.2.read
              go_wp2_with fail
              refine start_ (n := 10) (S := fun w' => w'.cell? ⟨ga, 3, none⟩ = some (.string d.what)) (ds := []) #[false, false, false, false, false, false, false, false, false, false] (by kernel_rfl) rfl rfl x3 (fun hHeld => ?_)
              refine with_tabW tab23 bits23 (fun HT_ HW_ => ?_)
              have HB := Lib.hid (below_drew1 (Below.refl w5.heap.size w5))
              generalize w5.drew = w10 at HB hHeld ⊢
              refine pure_ (i := 1) (N := some 98) (v := ?_) (a' := ?_) #[false, true, false, false, false, false, false, false, false, false] rfl rfl (any_of HT_.out (by kernel_rfl)) (fun _ _ _ h => h) (Or.inl ⟨by rfl, ?_⟩) ?_ ?_
              rotate_left
              · intro w'
                go_simp
                with_reducible rfl
              rotate_left
              · simp only [Act.put, List.setIfInBounds_toArray, List.set_cons_zero, List.set_cons_succ, i64_w, i32_w]
                rfl
              refine pure_ (i := 3) (N := some 100) (v := ?_) (a' := ?_) #[false, true, false, true, false, false, false, false, false, false] rfl rfl (any_of HT_.out (by kernel_rfl)) (fun _ _ _ h => h) (Or.inl ⟨by rfl, ?_⟩) ?_ ?_
              rotate_left
              · intro w'
                go_simp
                with_reducible rfl
              rotate_left
              · simp only [Act.put, List.setIfInBounds_toArray, List.set_cons_zero, List.set_cons_succ, i64_w, i32_w]
                rfl
              refine pure_ (i := 5) (N := some 102) (v := ?_) (a' := ?_) #[false, true, false, true, false, true, false, false, false, false] rfl rfl (any_of HT_.out (by kernel_rfl)) (fun _ _ _ h => h) (Or.inl ⟨by rfl, ?_⟩) ?_ ?_
              rotate_left
              · intro w'
                go_simp
                with_reducible rfl
              rotate_left
              · simp only [Act.put, List.setIfInBounds_toArray, List.set_cons_zero, List.set_cons_succ, i64_w, i32_w]
                rfl
              refine take_ (i := 4) (N := some 101) (v := ?_) (a' := ?_) #[false, true, false, true, true, true, false, false, false, false] rfl rfl (take_ofW HT_.out HW_.out (by kernel_rfl)) (fun _ _ _ h => h) (Or.inl ⟨by rfl, ?_⟩) hHeld ?_ ?_
              rotate_left
              · intro w' s0
                go_simp
                with_reducible rfl
              rotate_left
              · simp only [Act.put, List.setIfInBounds_toArray, List.set_cons_zero, List.set_cons_succ, i64_w, i32_w]
                rfl
              refine pure_ (i := 6) (N := some 103) (v := ?_) (a' := ?_) #[false, true, false, true, true, true, true, false, false, false] rfl rfl (any_of HT_.out (by kernel_rfl)) (fun _ _ _ h => h) (Or.inl ⟨by rfl, ?_⟩) ?_ ?_
              rotate_left
              · intro w'
                go_simp
                with_reducible rfl
              rotate_left
              · simp only [Act.put, List.setIfInBounds_toArray, List.set_cons_zero, List.set_cons_succ, i64_w, i32_w]
                rfl
              refine two_ (i := 0) (j := 7) (Ni := some 97) (Nj := some 104) #[true, true, false, true, true, true, true, false, false, false] #[false, true, false, true, true, true, true, true, false, false] rfl rfl rfl rfl (two_of HT_.out (by kernel_rfl)) (by simp) (by simp) (fun K hK => ?_) (fun K hK => ?_)
              · refine Kd.R_lit_step kAsked (w0 := w5) w5.heap.size 45 ?hg (N := 97) ?hd (xs := ([] : List Asked)) (inner := []) (ok := fun _ => True) (okp := fun _ => True) ?hr ?hp (fun _ hk => hk) trivial HB.out HB.out.size (by simp) ?_
                (case hd => rfl)
                (case hg => rfl)
                (case hr => first | (go_simp; done) | (go_simp; rfl))
                (case hp => exact (Reps.none _ _))
                intro v97 wA ho hb hg hfr
                have HA := Lib.hid ho
                clear HB
                have HB := Lib.hid hb
                clear ho hb hg hfr
                refine hK.out _ _ (Kept.place H5.out HB.out) (fun hHeld => ?_)
                clear hK K
                refine norm_ (a' := ?_) ?_ ?_
                rotate_left
                · show Act.put _ (some 97) _ = _
                  simp only [Act.put, List.setIfInBounds_toArray, List.set_cons_zero, List.set_cons_succ, i64_w, i32_w]
                  rfl
                refine two_ (i := 2) (j := 7) (Ni := some 99) (Nj := some 104) #[true, true, true, true, true, true, true, false, false, false] #[true, true, false, true, true, true, true, true, false, false] rfl rfl rfl rfl (two_of HT_.out (by kernel_rfl)) (by simp) (by simp) (fun K hK => ?_) (fun K hK => ?_)
                · refine Kd.R_append_rows_step kAsked (w0 := w5) w5.heap.size (by rfl) (.tmp 97) (.tmp 98) 39 45 (.agg #[(.string ⟨#[]⟩), (.int .i64 0)]) 24 rfl Try.underlying39 info45 rfl (by decide) (by omega) v97 [] ask _ _ _ (fun _ => True) (fun _ => False) rfl rfl HA.out (Kd.C_below (Kd.R_reads' H5.out.1.row).2.2 HB.out) (fun _ _ h => h) (fun _ h => h.elim) (fun _ _ => trivial) HB.out HB.out.size ?aL ?_
                  (case aL => have := HF.out.lens; simp only [List.length_nil]; omega)
                  intro v99 wA ho hb hg hat
                  rw [List.nil_append] at ho
                  have H99' := Lib.hid ho
                  clear HB HA
                  have HB := Lib.hid hb
                  clear ho hb hg hat
                  refine hK.out _ _ (Kept.place H5.out HB.out) (fun hHeld => ?_)
                  clear hK K
                  refine norm_ (a' := ?_) ?_ ?_
                  rotate_left
                  · show Act.put _ (some 99) _ = _
                    simp only [Act.put, List.setIfInBounds_toArray, List.set_cons_zero, List.set_cons_succ, i64_w, i32_w]
                    rfl
                  refine one_ (i := 7) (N := some 104) #[true, true, true, true, true, true, true, true, false, false] rfl rfl (one_of HT_.out (by kernel_rfl)) (by decide) (fun K hK => ?_)
                  refine Kd.R_lit_step kAsked (w0 := w5) w5.heap.size 45 ?hg (N := 104) ?hd (xs := [(⟨d.what, tick⟩ : Asked)]) (inner := [.string d.what, .int .i64 tick]) (ok := fun _ => True) (okp := fun _ => True) ?hr ?hp (fun _ hk => hk) trivial HB.out HB.out.size (by simp) ?_
                  (case hd => rfl)
                  (case hg => rfl)
                  (case hr => first | (go_simp; done) | (go_simp; rfl))
                  (case hp => exact reps_single (k45_mkM _ _ _ _) rfl)
                  intro v104 wA ho hb hg hfr
                  have HC7 := Lib.hid ho
                  have H99 := Lib.hid (Kd.R_grown H99'.out hg (fun _ _ => by simp))
                  clear HB H99'
                  have HB := Lib.hid hb
                  clear ho hb hg hfr
                  refine hK.out _ _ (Kept.place H5.out HB.out) (fun hHeld => ?_)
                  clear hK K
                  refine norm_ (a' := ?_) ?_ ?_
                  rotate_left
                  · show Act.put _ (some 104) _ = _
                    simp only [Act.put, List.setIfInBounds_toArray, List.set_cons_zero, List.set_cons_succ, i64_w, i32_w]
                    rfl
                  refine one_ (i := 8) (N := some 105) #[true, true, true, true, true, true, true, true, true, false] rfl rfl (one_of HT_.out (by kernel_rfl)) (by decide) (fun K hK => ?_)
                  obtain ⟨A104, c104, rfl, -, hC104⟩ := Kd.R_reads HC7.out
                  refine Kd.R_append_rows_step kAsked (w0 := w5) w5.heap.size (by rfl) (.tmp 99) (.tmp 104) 39 45 (.agg #[(.string ⟨#[]⟩), (.int .i64 0)]) 24 rfl Try.underlying39 info45 rfl (by decide) (by omega) v99 ask [(⟨d.what, tick⟩ : Asked)] _ _ _ (fun _ => True) (fun _ => False) rfl rfl H99.out hC104 (fun _ _ h => h) (fun _ h => h.elim) (fun _ _ => trivial) HB.out HB.out.size ?aL ?_
                  (case aL => have := HF.out.lens; simp only [List.length_singleton]; omega)
                  intro v105 wA ho hb hg hat
                  clear HB
                  have HB := Lib.hid hb
                  have HZ := Lib.hid ho
                  clear ho hb hg hat
                  refine hK.out _ _ (Kept.place H5.out HB.out) (fun hHeld => ?_)
                  clear hK K
                  refine norm_ (a' := ?_) ?_ ?_
                  rotate_left
                  · show Act.put _ (some 105) _ = _
                    simp only [Act.put, List.setIfInBounds_toArray, List.set_cons_zero, List.set_cons_succ, i64_w, i32_w]
                    rfl
                  refine pure_ (i := 9) (N := some 6) (v := ?_) (a' := ?_) #[true, true, true, true, true, true, true, true, true, true] rfl rfl (any_of HT_.out (by kernel_rfl)) (fun _ _ _ h => h) (Or.inl ⟨by rfl, ?_⟩) ?_ ?_
                  rotate_left
                  · intro w'
                    go_simp
                    with_reducible rfl
                  rotate_left
                  · simp only [Act.put, List.setIfInBounds_toArray, List.set_cons_zero, List.set_cons_succ, i64_w, i32_w]
                    rfl
                  refine done_ (done_of HT_.out (by kernel_rfl)) ?_
                  have HT := Lib.hid (H5.out.1.row' HZ.out HB.out)
                  obtain ⟨l2, hl2⟩ : ∃ l2 : List Asked, l2 = ask ++ [(⟨d.what, tick⟩ : Asked)] := ⟨_, rfl⟩
                  rw [← hl2] at HT HF'
                  clear hl2
                  obtain ⟨A7, c7, rfl, -, -⟩ := Kd.R_reads HT.out.row
                  go_wp2_with fail
                  refine (asked_l HT.out.peers).mono ?_
                  rintro e w9 ⟨rfl, rfl⟩
                  go_wp2_with fail
                  go_roundw
                  case rel => exact ⟨i + 1, _, _, _, _, _, _, by omega, by omega, rfl, rfl, (by first | rfl | go_num), by go_num, HT, HF'⟩
                  case measure => simp [intOf]; omega
                · refine Kd.R_lit_step kAsked (w0 := w5) w5.heap.size 45 ?hg (N := 104) ?hd (xs := [(⟨d.what, tick⟩ : Asked)]) (inner := [.string d.what, .int .i64 tick]) (ok := fun _ => True) (okp := fun _ => True) ?hr ?hp (fun _ hk => hk) trivial HB.out HB.out.size (by simp) ?_
                  (case hd => rfl)
                  (case hg => rfl)
                  (case hr => first | (go_simp; done) | (go_simp; rfl))
                  (case hp => exact reps_single (k45_mkM _ _ _ _) rfl)
                  intro v104 wA ho hb hg hfr
                  have HC7' := Lib.hid ho
                  have HN := Lib.hid (own_apart (R_lt HA.out) (fun k hk => by obtain ⟨b, h1, h2⟩ := hfr; rw [h1] at hk; cases hk; exact h2))
                  have HA' := Lib.hid (Kd.R_grown HA.out hg (fun _ _ => by simp))
                  clear HA HB
                  have HA := HA'
                  have HB := Lib.hid hb
                  clear ho hb hg hfr HA'
                  refine hK.out _ _ (Kept.place H5.out HB.out) (fun hHeld => ?_)
                  clear hK K
                  refine norm_ (a' := ?_) ?_ ?_
                  rotate_left
                  · show Act.put _ (some 104) _ = _
                    simp only [Act.put, List.setIfInBounds_toArray, List.set_cons_zero, List.set_cons_succ, i64_w, i32_w]
                    rfl
                  refine one_ (i := 2) (N := some 99) #[true, true, true, true, true, true, true, true, false, false] rfl rfl (one_of HT_.out (by kernel_rfl)) (by decide) (fun K hK => ?_)
                  refine Kd.R_append_rows_step kAsked (w0 := w5) w5.heap.size (by rfl) (.tmp 97) (.tmp 98) 39 45 (.agg #[(.string ⟨#[]⟩), (.int .i64 0)]) 24 rfl Try.underlying39 info45 rfl (by decide) (by omega) v97 [] ask _ _ _ (fun _ => True) (fun _ => False) rfl rfl HA.out (Kd.C_below (Kd.R_reads' H5.out.1.row).2.2 HB.out) (fun _ _ h => h) (fun _ h => h.elim) (fun _ _ => trivial) HB.out HB.out.size ?aL ?_
                  (case aL => have := HF.out.lens; simp only [List.length_nil]; omega)
                  intro v99 wA ho hb hg hat
                  rw [List.nil_append] at ho
                  have H99 := Lib.hid ho
                  have HC7 := Lib.hid (R_next HC7'.out hg HN.out)
                  clear HB HC7' HA
                  have HB := Lib.hid hb
                  clear ho hb hg hat
                  refine hK.out _ _ (Kept.place H5.out HB.out) (fun hHeld => ?_)
                  clear hK K
                  refine norm_ (a' := ?_) ?_ ?_
                  rotate_left
                  · show Act.put _ (some 99) _ = _
                    simp only [Act.put, List.setIfInBounds_toArray, List.set_cons_zero, List.set_cons_succ, i64_w, i32_w]
                    rfl
                  refine one_ (i := 8) (N := some 105) #[true, true, true, true, true, true, true, true, true, false] rfl rfl (one_of HT_.out (by kernel_rfl)) (by decide) (fun K hK => ?_)
                  obtain ⟨A104, c104, rfl, -, hC104⟩ := Kd.R_reads HC7.out
                  refine Kd.R_append_rows_step kAsked (w0 := w5) w5.heap.size (by rfl) (.tmp 99) (.tmp 104) 39 45 (.agg #[(.string ⟨#[]⟩), (.int .i64 0)]) 24 rfl Try.underlying39 info45 rfl (by decide) (by omega) v99 ask [(⟨d.what, tick⟩ : Asked)] _ _ _ (fun _ => True) (fun _ => False) rfl rfl H99.out hC104 (fun _ _ h => h) (fun _ h => h.elim) (fun _ _ => trivial) HB.out HB.out.size ?aL ?_
                  (case aL => have := HF.out.lens; simp only [List.length_singleton]; omega)
                  intro v105 wA ho hb hg hat
                  clear HB
                  have HB := Lib.hid hb
                  have HZ := Lib.hid ho
                  clear ho hb hg hat
                  refine hK.out _ _ (Kept.place H5.out HB.out) (fun hHeld => ?_)
                  clear hK K
                  refine norm_ (a' := ?_) ?_ ?_
                  rotate_left
                  · show Act.put _ (some 105) _ = _
                    simp only [Act.put, List.setIfInBounds_toArray, List.set_cons_zero, List.set_cons_succ, i64_w, i32_w]
                    rfl
                  refine pure_ (i := 9) (N := some 6) (v := ?_) (a' := ?_) #[true, true, true, true, true, true, true, true, true, true] rfl rfl (any_of HT_.out (by kernel_rfl)) (fun _ _ _ h => h) (Or.inl ⟨by rfl, ?_⟩) ?_ ?_
                  rotate_left
                  · intro w'
                    go_simp
                    with_reducible rfl
                  rotate_left
                  · simp only [Act.put, List.setIfInBounds_toArray, List.set_cons_zero, List.set_cons_succ, i64_w, i32_w]
                    rfl
                  refine done_ (done_of HT_.out (by kernel_rfl)) ?_
                  have HT := Lib.hid (H5.out.1.row' HZ.out HB.out)
                  obtain ⟨l2, hl2⟩ : ∃ l2 : List Asked, l2 = ask ++ [(⟨d.what, tick⟩ : Asked)] := ⟨_, rfl⟩
                  rw [← hl2] at HT HF'
                  clear hl2
                  obtain ⟨A7, c7, rfl, -, -⟩ := Kd.R_reads HT.out.row
                  go_wp2_with fail
                  refine (asked_l HT.out.peers).mono ?_
                  rintro e w9 ⟨rfl, rfl⟩
                  go_wp2_with fail
                  go_roundw
                  case rel => exact ⟨i + 1, _, _, _, _, _, _, by omega, by omega, rfl, rfl, (by first | rfl | go_num), by go_num, HT, HF'⟩
                  case measure => simp [intOf]; omega
              · refine Kd.R_lit_step kAsked (w0 := w5) w5.heap.size 45 ?hg (N := 104) ?hd (xs := [(⟨d.what, tick⟩ : Asked)]) (inner := [.string d.what, .int .i64 tick]) (ok := fun _ => True) (okp := fun _ => True) ?hr ?hp (fun _ hk => hk) trivial HB.out HB.out.size (by simp) ?_
                (case hd => rfl)
                (case hg => rfl)
                (case hr => first | (go_simp; done) | (go_simp; rfl))
                (case hp => exact reps_single (k45_mkM _ _ _ _) rfl)
                intro v104 wA ho hb hg hfr
                have HC7'' := Lib.hid ho
                clear HB
                have HB := Lib.hid hb
                clear ho hb hg hfr
                refine hK.out _ _ (Kept.place H5.out HB.out) (fun hHeld => ?_)
                clear hK K
                refine norm_ (a' := ?_) ?_ ?_
                rotate_left
                · show Act.put _ (some 104) _ = _
                  simp only [Act.put, List.setIfInBounds_toArray, List.set_cons_zero, List.set_cons_succ, i64_w, i32_w]
                  rfl
                refine one_ (i := 0) (N := some 97) #[true, true, false, true, true, true, true, true, false, false] rfl rfl (one_of HT_.out (by kernel_rfl)) (by decide) (fun K hK => ?_)
                refine Kd.R_lit_step kAsked (w0 := w5) w5.heap.size 45 ?hg (N := 97) ?hd (xs := ([] : List Asked)) (inner := []) (ok := fun _ => True) (okp := fun _ => True) ?hr ?hp (fun _ hk => hk) trivial HB.out HB.out.size (by simp) ?_
                (case hd => rfl)
                (case hg => rfl)
                (case hr => first | (go_simp; done) | (go_simp; rfl))
                (case hp => exact (Reps.none _ _))
                intro v97 wA ho hb hg hfr
                have HA := Lib.hid ho
                have HN := Lib.hid (own_apart' (fun k hk => by obtain ⟨b, h1, h2⟩ := hfr; rw [h1] at hk; cases hk; exact h2) (R_lt HC7''.out))
                have HC7' := Lib.hid (Kd.R_grown HC7''.out hg (fun _ _ => by simp))
                clear HC7'' HB
                have HB := Lib.hid hb
                clear ho hb hg hfr
                refine hK.out _ _ (Kept.place H5.out HB.out) (fun hHeld => ?_)
                clear hK K
                refine norm_ (a' := ?_) ?_ ?_
                rotate_left
                · show Act.put _ (some 97) _ = _
                  simp only [Act.put, List.setIfInBounds_toArray, List.set_cons_zero, List.set_cons_succ, i64_w, i32_w]
                  rfl
                refine one_ (i := 2) (N := some 99) #[true, true, true, true, true, true, true, true, false, false] rfl rfl (one_of HT_.out (by kernel_rfl)) (by decide) (fun K hK => ?_)
                refine Kd.R_append_rows_step kAsked (w0 := w5) w5.heap.size (by rfl) (.tmp 97) (.tmp 98) 39 45 (.agg #[(.string ⟨#[]⟩), (.int .i64 0)]) 24 rfl Try.underlying39 info45 rfl (by decide) (by omega) v97 [] ask _ _ _ (fun _ => True) (fun _ => False) rfl rfl HA.out (Kd.C_below (Kd.R_reads' H5.out.1.row).2.2 HB.out) (fun _ _ h => h) (fun _ h => h.elim) (fun _ _ => trivial) HB.out HB.out.size ?aL ?_
                (case aL => have := HF.out.lens; simp only [List.length_nil]; omega)
                intro v99 wA ho hb hg hat
                rw [List.nil_append] at ho
                have H99 := Lib.hid ho
                have HC7 := Lib.hid (R_next HC7'.out hg HN.out)
                clear HB HC7' HA
                have HB := Lib.hid hb
                clear ho hb hg hat
                refine hK.out _ _ (Kept.place H5.out HB.out) (fun hHeld => ?_)
                clear hK K
                refine norm_ (a' := ?_) ?_ ?_
                rotate_left
                · show Act.put _ (some 99) _ = _
                  simp only [Act.put, List.setIfInBounds_toArray, List.set_cons_zero, List.set_cons_succ, i64_w, i32_w]
                  rfl
                refine one_ (i := 8) (N := some 105) #[true, true, true, true, true, true, true, true, true, false] rfl rfl (one_of HT_.out (by kernel_rfl)) (by decide) (fun K hK => ?_)
                obtain ⟨A104, c104, rfl, -, hC104⟩ := Kd.R_reads HC7.out
                refine Kd.R_append_rows_step kAsked (w0 := w5) w5.heap.size (by rfl) (.tmp 99) (.tmp 104) 39 45 (.agg #[(.string ⟨#[]⟩), (.int .i64 0)]) 24 rfl Try.underlying39 info45 rfl (by decide) (by omega) v99 ask [(⟨d.what, tick⟩ : Asked)] _ _ _ (fun _ => True) (fun _ => False) rfl rfl H99.out hC104 (fun _ _ h => h) (fun _ h => h.elim) (fun _ _ => trivial) HB.out HB.out.size ?aL ?_
                (case aL => have := HF.out.lens; simp only [List.length_singleton]; omega)
                intro v105 wA ho hb hg hat
                clear HB
                have HB := Lib.hid hb
                have HZ := Lib.hid ho
                clear ho hb hg hat
                refine hK.out _ _ (Kept.place H5.out HB.out) (fun hHeld => ?_)
                clear hK K
                refine norm_ (a' := ?_) ?_ ?_
                rotate_left
                · show Act.put _ (some 105) _ = _
                  simp only [Act.put, List.setIfInBounds_toArray, List.set_cons_zero, List.set_cons_succ, i64_w, i32_w]
                  rfl
                refine pure_ (i := 9) (N := some 6) (v := ?_) (a' := ?_) #[true, true, true, true, true, true, true, true, true, true] rfl rfl (any_of HT_.out (by kernel_rfl)) (fun _ _ _ h => h) (Or.inl ⟨by rfl, ?_⟩) ?_ ?_
                rotate_left
                · intro w'
                  go_simp
                  with_reducible rfl
                rotate_left
                · simp only [Act.put, List.setIfInBounds_toArray, List.set_cons_zero, List.set_cons_succ, i64_w, i32_w]
                  rfl
                refine done_ (done_of HT_.out (by kernel_rfl)) ?_
                have HT := Lib.hid (H5.out.1.row' HZ.out HB.out)
                obtain ⟨l2, hl2⟩ : ∃ l2 : List Asked, l2 = ask ++ [(⟨d.what, tick⟩ : Asked)] := ⟨_, rfl⟩
                rw [← hl2] at HT HF'
                clear hl2
                obtain ⟨A7, c7, rfl, -, -⟩ := Kd.R_reads HT.out.row
                go_wp2_with fail
                refine (asked_l HT.out.peers).mono ?_
                rintro e w9 ⟨rfl, rfl⟩
                go_wp2_with fail
                go_roundw
                case rel => exact ⟨i + 1, _, _, _, _, _, _, by omega, by omega, rfl, rfl, (by first | rfl | go_num), by go_num, HT, HF'⟩
                case measure => simp [intOf]; omega
            · have e3 : (d.kind == 3) = false := beq_eq_false_iff_ne.2 (by omega)
              have e4 : (d.kind == 4) = true := beq_iff_eq.2 h4
              go_wp2_with fail
              refine (ask_yes H4.out.1.peers d.what HD.out.2 hs (by have := HF.out.lens; simp only [prs, List.length_map]; omega)).mono ?_
              rintro e w5 ⟨rfl, h5', t5⟩
              rw [show prs ask ++ [(d.what, tick)] = prs (ask ++ [⟨d.what, tick⟩]) from by simp [prs]] at h5'
              have H5 := Lib.hid (And.intro (H4.out.1.peer h5' t5) (H4.out.2.turn t5))
              have HF' := Lib.hid (HF.out.asked d.what)
              clear h5' t5 x0 x1 x2 x3
              obtain ⟨x0, x1, x2, x3⟩ := H5.out.2.read
              go_wp2_with fail
              refine start_ (n := 10) (S := fun w' => w'.cell? ⟨ga, 3, none⟩ = some (.string d.what)) (ds := []) #[false, false, false, false, false, false, false, false, false, false] (by kernel_rfl) rfl rfl x3 (fun hHeld => ?_)
              refine with_tabW tab23 bits23 (fun HT_ HW_ => ?_)
              have HB := Lib.hid (below_drew1 (Below.refl w5.heap.size w5))
              generalize w5.drew = w10 at HB hHeld ⊢
              refine pure_ (i := 1) (N := some 98) (v := ?_) (a' := ?_) #[false, true, false, false, false, false, false, false, false, false] rfl rfl (any_of HT_.out (by kernel_rfl)) (fun _ _ _ h => h) (Or.inl ⟨by rfl, ?_⟩) ?_ ?_
              rotate_left
              · intro w'
                go_simp
                with_reducible rfl
              rotate_left
              · simp only [Act.put, List.setIfInBounds_toArray, List.set_cons_zero, List.set_cons_succ, i64_w, i32_w]
                rfl
              refine pure_ (i := 3) (N := some 100) (v := ?_) (a' := ?_) #[false, true, false, true, false, false, false, false, false, false] rfl rfl (any_of HT_.out (by kernel_rfl)) (fun _ _ _ h => h) (Or.inl ⟨by rfl, ?_⟩) ?_ ?_
              rotate_left
              · intro w'
                go_simp
                with_reducible rfl
              rotate_left
              · simp only [Act.put, List.setIfInBounds_toArray, List.set_cons_zero, List.set_cons_succ, i64_w, i32_w]
                rfl
              refine pure_ (i := 5) (N := some 102) (v := ?_) (a' := ?_) #[false, true, false, true, false, true, false, false, false, false] rfl rfl (any_of HT_.out (by kernel_rfl)) (fun _ _ _ h => h) (Or.inl ⟨by rfl, ?_⟩) ?_ ?_
              rotate_left
              · intro w'
                go_simp
                with_reducible rfl
              rotate_left
              · simp only [Act.put, List.setIfInBounds_toArray, List.set_cons_zero, List.set_cons_succ, i64_w, i32_w]
                rfl
              refine take_ (i := 4) (N := some 101) (v := ?_) (a' := ?_) #[false, true, false, true, true, true, false, false, false, false] rfl rfl (take_ofW HT_.out HW_.out (by kernel_rfl)) (fun _ _ _ h => h) (Or.inl ⟨by rfl, ?_⟩) hHeld ?_ ?_
              rotate_left
              · intro w' s0
                go_simp
                with_reducible rfl
              rotate_left
              · simp only [Act.put, List.setIfInBounds_toArray, List.set_cons_zero, List.set_cons_succ, i64_w, i32_w]
                rfl
              refine pure_ (i := 6) (N := some 103) (v := ?_) (a' := ?_) #[false, true, false, true, true, true, true, false, false, false] rfl rfl (any_of HT_.out (by kernel_rfl)) (fun _ _ _ h => h) (Or.inl ⟨by rfl, ?_⟩) ?_ ?_
              rotate_left
              · intro w'
                go_simp
                with_reducible rfl
              rotate_left
              · simp only [Act.put, List.setIfInBounds_toArray, List.set_cons_zero, List.set_cons_succ, i64_w, i32_w]
                rfl
              refine two_ (i := 0) (j := 7) (Ni := some 97) (Nj := some 104) #[true, true, false, true, true, true, true, false, false, false] #[false, true, false, true, true, true, true, true, false, false] rfl rfl rfl rfl (two_of HT_.out (by kernel_rfl)) (by simp) (by simp) (fun K hK => ?_) (fun K hK => ?_)
              · refine Kd.R_lit_step kAsked (w0 := w5) w5.heap.size 45 ?hg (N := 97) ?hd (xs := ([] : List Asked)) (inner := []) (ok := fun _ => True) (okp := fun _ => True) ?hr ?hp (fun _ hk => hk) trivial HB.out HB.out.size (by simp) ?_
                (case hd => rfl)
                (case hg => rfl)
                (case hr => first | (go_simp; done) | (go_simp; rfl))
                (case hp => exact (Reps.none _ _))
                intro v97 wA ho hb hg hfr
                have HA := Lib.hid ho
                clear HB
                have HB := Lib.hid hb
                clear ho hb hg hfr
                refine hK.out _ _ (Kept.place H5.out HB.out) (fun hHeld => ?_)
                clear hK K
                refine norm_ (a' := ?_) ?_ ?_
                rotate_left
                · show Act.put _ (some 97) _ = _
                  simp only [Act.put, List.setIfInBounds_toArray, List.set_cons_zero, List.set_cons_succ, i64_w, i32_w]
                  rfl
                refine two_ (i := 2) (j := 7) (Ni := some 99) (Nj := some 104) #[true, true, true, true, true, true, true, false, false, false] #[true, true, false, true, true, true, true, true, false, false] rfl rfl rfl rfl (two_of HT_.out (by kernel_rfl)) (by simp) (by simp) (fun K hK => ?_) (fun K hK => ?_)
                · refine Kd.R_append_rows_step kAsked (w0 := w5) w5.heap.size (by rfl) (.tmp 97) (.tmp 98) 39 45 (.agg #[(.string ⟨#[]⟩), (.int .i64 0)]) 24 rfl Try.underlying39 info45 rfl (by decide) (by omega) v97 [] ask _ _ _ (fun _ => True) (fun _ => False) rfl rfl HA.out (Kd.C_below (Kd.R_reads' H5.out.1.row).2.2 HB.out) (fun _ _ h => h) (fun _ h => h.elim) (fun _ _ => trivial) HB.out HB.out.size ?aL ?_
                  (case aL => have := HF.out.lens; simp only [List.length_nil]; omega)
                  intro v99 wA ho hb hg hat
                  rw [List.nil_append] at ho
                  have H99' := Lib.hid ho
                  clear HB HA
                  have HB := Lib.hid hb
                  clear ho hb hg hat
                  refine hK.out _ _ (Kept.place H5.out HB.out) (fun hHeld => ?_)
                  clear hK K
                  refine norm_ (a' := ?_) ?_ ?_
                  rotate_left
                  · show Act.put _ (some 99) _ = _
                    simp only [Act.put, List.setIfInBounds_toArray, List.set_cons_zero, List.set_cons_succ, i64_w, i32_w]
                    rfl
                  refine one_ (i := 7) (N := some 104) #[true, true, true, true, true, true, true, true, false, false] rfl rfl (one_of HT_.out (by kernel_rfl)) (by decide) (fun K hK => ?_)
                  refine Kd.R_lit_step kAsked (w0 := w5) w5.heap.size 45 ?hg (N := 104) ?hd (xs := [(⟨d.what, tick⟩ : Asked)]) (inner := [.string d.what, .int .i64 tick]) (ok := fun _ => True) (okp := fun _ => True) ?hr ?hp (fun _ hk => hk) trivial HB.out HB.out.size (by simp) ?_
                  (case hd => rfl)
                  (case hg => rfl)
                  (case hr => first | (go_simp; done) | (go_simp; rfl))
                  (case hp => exact reps_single (k45_mkM _ _ _ _) rfl)
                  intro v104 wA ho hb hg hfr
                  have HC7 := Lib.hid ho
                  have H99 := Lib.hid (Kd.R_grown H99'.out hg (fun _ _ => by simp))
                  clear HB H99'
                  have HB := Lib.hid hb
                  clear ho hb hg hfr
                  refine hK.out _ _ (Kept.place H5.out HB.out) (fun hHeld => ?_)
                  clear hK K
                  refine norm_ (a' := ?_) ?_ ?_
                  rotate_left
                  · show Act.put _ (some 104) _ = _
                    simp only [Act.put, List.setIfInBounds_toArray, List.set_cons_zero, List.set_cons_succ, i64_w, i32_w]
                    rfl
                  refine one_ (i := 8) (N := some 105) #[true, true, true, true, true, true, true, true, true, false] rfl rfl (one_of HT_.out (by kernel_rfl)) (by decide) (fun K hK => ?_)
                  obtain ⟨A104, c104, rfl, -, hC104⟩ := Kd.R_reads HC7.out
                  refine Kd.R_append_rows_step kAsked (w0 := w5) w5.heap.size (by rfl) (.tmp 99) (.tmp 104) 39 45 (.agg #[(.string ⟨#[]⟩), (.int .i64 0)]) 24 rfl Try.underlying39 info45 rfl (by decide) (by omega) v99 ask [(⟨d.what, tick⟩ : Asked)] _ _ _ (fun _ => True) (fun _ => False) rfl rfl H99.out hC104 (fun _ _ h => h) (fun _ h => h.elim) (fun _ _ => trivial) HB.out HB.out.size ?aL ?_
                  (case aL => have := HF.out.lens; simp only [List.length_singleton]; omega)
                  intro v105 wA ho hb hg hat
                  clear HB
                  have HB := Lib.hid hb
                  have HZ := Lib.hid ho
                  clear ho hb hg hat
                  refine hK.out _ _ (Kept.place H5.out HB.out) (fun hHeld => ?_)
                  clear hK K
                  refine norm_ (a' := ?_) ?_ ?_
                  rotate_left
                  · show Act.put _ (some 105) _ = _
                    simp only [Act.put, List.setIfInBounds_toArray, List.set_cons_zero, List.set_cons_succ, i64_w, i32_w]
                    rfl
                  refine pure_ (i := 9) (N := some 6) (v := ?_) (a' := ?_) #[true, true, true, true, true, true, true, true, true, true] rfl rfl (any_of HT_.out (by kernel_rfl)) (fun _ _ _ h => h) (Or.inl ⟨by rfl, ?_⟩) ?_ ?_
                  rotate_left
                  · intro w'
                    go_simp
                    with_reducible rfl
                  rotate_left
                  · simp only [Act.put, List.setIfInBounds_toArray, List.set_cons_zero, List.set_cons_succ, i64_w, i32_w]
                    rfl
                  refine done_ (done_of HT_.out (by kernel_rfl)) ?_
                  have HT := Lib.hid (H5.out.1.row' HZ.out HB.out)
                  obtain ⟨l2, hl2⟩ : ∃ l2 : List Asked, l2 = ask ++ [(⟨d.what, tick⟩ : Asked)] := ⟨_, rfl⟩
                  rw [← hl2] at HT HF'
                  clear hl2
                  obtain ⟨A7, c7, rfl, -, -⟩ := Kd.R_reads HT.out.row
                  go_wp2_with fail
                  refine (asked_l HT.out.peers).mono ?_
                  rintro e w9 ⟨rfl, rfl⟩
                  go_wp2_with fail
                  go_roundw
                  case rel => exact ⟨i + 1, _, _, _, _, _, _, by omega, by omega, rfl, rfl, (by first | rfl | go_num), by go_num, HT, HF'⟩
                  case measure => simp [intOf]; omega
                · refine Kd.R_lit_step kAsked (w0 := w5) w5.heap.size 45 ?hg (N := 104) ?hd (xs := [(⟨d.what, tick⟩ : Asked)]) (inner := [.string d.what, .int .i64 tick]) (ok := fun _ => True) (okp := fun _ => True) ?hr ?hp (fun _ hk => hk) trivial HB.out HB.out.size (by simp) ?_
                  (case hd => rfl)
                  (case hg => rfl)
                  (case hr => first | (go_simp; done) | (go_simp; rfl))
                  (case hp => exact reps_single (k45_mkM _ _ _ _) rfl)
                  intro v104 wA ho hb hg hfr
                  have HC7' := Lib.hid ho
                  have HN := Lib.hid (own_apart (R_lt HA.out) (fun k hk => by obtain ⟨b, h1, h2⟩ := hfr; rw [h1] at hk; cases hk; exact h2))
                  have HA' := Lib.hid (Kd.R_grown HA.out hg (fun _ _ => by simp))
                  clear HA HB
                  have HA := HA'
                  have HB := Lib.hid hb
                  clear ho hb hg hfr HA'
                  refine hK.out _ _ (Kept.place H5.out HB.out) (fun hHeld => ?_)
                  clear hK K
                  refine norm_ (a' := ?_) ?_ ?_
                  rotate_left
                  · show Act.put _ (some 104) _ = _
                    simp only [Act.put, List.setIfInBounds_toArray, List.set_cons_zero, List.set_cons_succ, i64_w, i32_w]
                    rfl
                  refine one_ (i := 2) (N := some 99) #[true, true, true, true, true, true, true, true, false, false] rfl rfl (one_of HT_.out (by kernel_rfl)) (by decide) (fun K hK => ?_)
                  refine Kd.R_append_rows_step kAsked (w0 := w5) w5.heap.size (by rfl) (.tmp 97) (.tmp 98) 39 45 (.agg #[(.string ⟨#[]⟩), (.int .i64 0)]) 24 rfl Try.underlying39 info45 rfl (by decide) (by omega) v97 [] ask _ _ _ (fun _ => True) (fun _ => False) rfl rfl HA.out (Kd.C_below (Kd.R_reads' H5.out.1.row).2.2 HB.out) (fun _ _ h => h) (fun _ h => h.elim) (fun _ _ => trivial) HB.out HB.out.size ?aL ?_
                  (case aL => have := HF.out.lens; simp only [List.length_nil]; omega)
                  intro v99 wA ho hb hg hat
                  rw [List.nil_append] at ho
                  have H99 := Lib.hid ho
                  have HC7 := Lib.hid (R_next HC7'.out hg HN.out)
                  clear HB HC7' HA
                  have HB := Lib.hid hb
                  clear ho hb hg hat
                  refine hK.out _ _ (Kept.place H5.out HB.out) (fun hHeld => ?_)
                  clear hK K
                  refine norm_ (a' := ?_) ?_ ?_
                  rotate_left
                  · show Act.put _ (some 99) _ = _
                    simp only [Act.put, List.setIfInBounds_toArray, List.set_cons_zero, List.set_cons_succ, i64_w, i32_w]
                    rfl
                  refine one_ (i := 8) (N := some 105) #[true, true, true, true, true, true, true, true, true, false] rfl rfl (one_of HT_.out (by kernel_rfl)) (by decide) (fun K hK => ?_)
                  obtain ⟨A104, c104, rfl, -, hC104⟩ := Kd.R_reads HC7.out
                  refine Kd.R_append_rows_step kAsked (w0 := w5) w5.heap.size (by rfl) (.tmp 99) (.tmp 104) 39 45 (.agg #[(.string ⟨#[]⟩), (.int .i64 0)]) 24 rfl Try.underlying39 info45 rfl (by decide) (by omega) v99 ask [(⟨d.what, tick⟩ : Asked)] _ _ _ (fun _ => True) (fun _ => False) rfl rfl H99.out hC104 (fun _ _ h => h) (fun _ h => h.elim) (fun _ _ => trivial) HB.out HB.out.size ?aL ?_
                  (case aL => have := HF.out.lens; simp only [List.length_singleton]; omega)
                  intro v105 wA ho hb hg hat
                  clear HB
                  have HB := Lib.hid hb
                  have HZ := Lib.hid ho
                  clear ho hb hg hat
                  refine hK.out _ _ (Kept.place H5.out HB.out) (fun hHeld => ?_)
                  clear hK K
                  refine norm_ (a' := ?_) ?_ ?_
                  rotate_left
                  · show Act.put _ (some 105) _ = _
                    simp only [Act.put, List.setIfInBounds_toArray, List.set_cons_zero, List.set_cons_succ, i64_w, i32_w]
                    rfl
                  refine pure_ (i := 9) (N := some 6) (v := ?_) (a' := ?_) #[true, true, true, true, true, true, true, true, true, true] rfl rfl (any_of HT_.out (by kernel_rfl)) (fun _ _ _ h => h) (Or.inl ⟨by rfl, ?_⟩) ?_ ?_
                  rotate_left
                  · intro w'
                    go_simp
                    with_reducible rfl
                  rotate_left
                  · simp only [Act.put, List.setIfInBounds_toArray, List.set_cons_zero, List.set_cons_succ, i64_w, i32_w]
                    rfl
                  refine done_ (done_of HT_.out (by kernel_rfl)) ?_
                  have HT := Lib.hid (H5.out.1.row' HZ.out HB.out)
                  obtain ⟨l2, hl2⟩ : ∃ l2 : List Asked, l2 = ask ++ [(⟨d.what, tick⟩ : Asked)] := ⟨_, rfl⟩
                  rw [← hl2] at HT HF'
                  clear hl2
                  obtain ⟨A7, c7, rfl, -, -⟩ := Kd.R_reads HT.out.row
                  go_wp2_with fail
                  refine (asked_l HT.out.peers).mono ?_
                  rintro e w9 ⟨rfl, rfl⟩
                  go_wp2_with fail
                  go_roundw
                  case rel => exact ⟨i + 1, _, _, _, _, _, _, by omega, by omega, rfl, rfl, (by first | rfl | go_num), by go_num, HT, HF'⟩
                  case measure => simp [intOf]; omega
              · refine Kd.R_lit_step kAsked (w0 := w5) w5.heap.size 45 ?hg (N := 104) ?hd (xs := [(⟨d.what, tick⟩ : Asked)]) (inner := [.string d.what, .int .i64 tick]) (ok := fun _ => True) (okp := fun _ => True) ?hr ?hp (fun _ hk => hk) trivial HB.out HB.out.size (by simp) ?_
                (case hd => rfl)
                (case hg => rfl)
                (case hr => first | (go_simp; done) | (go_simp; rfl))
                (case hp => exact reps_single (k45_mkM _ _ _ _) rfl)
                intro v104 wA ho hb hg hfr
                have HC7'' := Lib.hid ho
                clear HB
                have HB := Lib.hid hb
                clear ho hb hg hfr
                refine hK.out _ _ (Kept.place H5.out HB.out) (fun hHeld => ?_)
                clear hK K
                refine norm_ (a' := ?_) ?_ ?_
                rotate_left
                · show Act.put _ (some 104) _ = _
                  simp only [Act.put, List.setIfInBounds_toArray, List.set_cons_zero, List.set_cons_succ, i64_w, i32_w]
                  rfl
                refine one_ (i := 0) (N := some 97) #[true, true, false, true, true, true, true, true, false, false] rfl rfl (one_of HT_.out (by kernel_rfl)) (by decide) (fun K hK => ?_)
                refine Kd.R_lit_step kAsked (w0 := w5) w5.heap.size 45 ?hg (N := 97) ?hd (xs := ([] : List Asked)) (inner := []) (ok := fun _ => True) (okp := fun _ => True) ?hr ?hp (fun _ hk => hk) trivial HB.out HB.out.size (by simp) ?_
                (case hd => rfl)
                (case hg => rfl)
                (case hr => first | (go_simp; done) | (go_simp; rfl))
                (case hp => exact (Reps.none _ _))
                intro v97 wA ho hb hg hfr
                have HA := Lib.hid ho
                have HN := Lib.hid (own_apart' (fun k hk => by obtain ⟨b, h1, h2⟩ := hfr; rw [h1] at hk; cases hk; exact h2) (R_lt HC7''.out))
                have HC7' := Lib.hid (Kd.R_grown HC7''.out hg (fun _ _ => by simp))
                clear HC7'' HB
                have HB := Lib.hid hb
                clear ho hb hg hfr
                refine hK.out _ _ (Kept.place H5.out HB.out) (fun hHeld => ?_)
                clear hK K
                refine norm_ (a' := ?_) ?_ ?_
                rotate_left
                · show Act.put _ (some 97) _ = _
                  simp only [Act.put, List.setIfInBounds_toArray, List.set_cons_zero, List.set_cons_succ, i64_w, i32_w]
                  rfl
                refine one_ (i := 2) (N := some 99) #[true, true, true, true, true, true, true, true, false, false] rfl rfl (one_of HT_.out (by kernel_rfl)) (by decide) (fun K hK => ?_)
                refine Kd.R_append_rows_step kAsked (w0 := w5) w5.heap.size (by rfl) (.tmp 97) (.tmp 98) 39 45 (.agg #[(.string ⟨#[]⟩), (.int .i64 0)]) 24 rfl Try.underlying39 info45 rfl (by decide) (by omega) v97 [] ask _ _ _ (fun _ => True) (fun _ => False) rfl rfl HA.out (Kd.C_below (Kd.R_reads' H5.out.1.row).2.2 HB.out) (fun _ _ h => h) (fun _ h => h.elim) (fun _ _ => trivial) HB.out HB.out.size ?aL ?_
                (case aL => have := HF.out.lens; simp only [List.length_nil]; omega)
                intro v99 wA ho hb hg hat
                rw [List.nil_append] at ho
                have H99 := Lib.hid ho
                have HC7 := Lib.hid (R_next HC7'.out hg HN.out)
                clear HB HC7' HA
                have HB := Lib.hid hb
                clear ho hb hg hat
                refine hK.out _ _ (Kept.place H5.out HB.out) (fun hHeld => ?_)
                clear hK K
                refine norm_ (a' := ?_) ?_ ?_
                rotate_left
                · show Act.put _ (some 99) _ = _
                  simp only [Act.put, List.setIfInBounds_toArray, List.set_cons_zero, List.set_cons_succ, i64_w, i32_w]
                  rfl
                refine one_ (i := 8) (N := some 105) #[true, true, true, true, true, true, true, true, true, false] rfl rfl (one_of HT_.out (by kernel_rfl)) (by decide) (fun K hK => ?_)
                obtain ⟨A104, c104, rfl, -, hC104⟩ := Kd.R_reads HC7.out
                refine Kd.R_append_rows_step kAsked (w0 := w5) w5.heap.size (by rfl) (.tmp 99) (.tmp 104) 39 45 (.agg #[(.string ⟨#[]⟩), (.int .i64 0)]) 24 rfl Try.underlying39 info45 rfl (by decide) (by omega) v99 ask [(⟨d.what, tick⟩ : Asked)] _ _ _ (fun _ => True) (fun _ => False) rfl rfl H99.out hC104 (fun _ _ h => h) (fun _ h => h.elim) (fun _ _ => trivial) HB.out HB.out.size ?aL ?_
                (case aL => have := HF.out.lens; simp only [List.length_singleton]; omega)
                intro v105 wA ho hb hg hat
                clear HB
                have HB := Lib.hid hb
                have HZ := Lib.hid ho
                clear ho hb hg hat
                refine hK.out _ _ (Kept.place H5.out HB.out) (fun hHeld => ?_)
                clear hK K
                refine norm_ (a' := ?_) ?_ ?_
                rotate_left
                · show Act.put _ (some 105) _ = _
                  simp only [Act.put, List.setIfInBounds_toArray, List.set_cons_zero, List.set_cons_succ, i64_w, i32_w]
                  rfl
                refine pure_ (i := 9) (N := some 6) (v := ?_) (a' := ?_) #[true, true, true, true, true, true, true, true, true, true] rfl rfl (any_of HT_.out (by kernel_rfl)) (fun _ _ _ h => h) (Or.inl ⟨by rfl, ?_⟩) ?_ ?_
                rotate_left
                · intro w'
                  go_simp
                  with_reducible rfl
                rotate_left
                · simp only [Act.put, List.setIfInBounds_toArray, List.set_cons_zero, List.set_cons_succ, i64_w, i32_w]
                  rfl
                refine done_ (done_of HT_.out (by kernel_rfl)) ?_
                have HT := Lib.hid (H5.out.1.row' HZ.out HB.out)
                obtain ⟨l2, hl2⟩ : ∃ l2 : List Asked, l2 = ask ++ [(⟨d.what, tick⟩ : Asked)] := ⟨_, rfl⟩
                rw [← hl2] at HT HF'
                clear hl2
                obtain ⟨A7, c7, rfl, -, -⟩ := Kd.R_reads HT.out.row
                go_wp2_with fail
                refine (asked_l HT.out.peers).mono ?_
                rintro e w9 ⟨rfl, rfl⟩
                go_wp2_with fail
                go_roundw
                case rel => exact ⟨i + 1, _, _, _, _, _, _, by omega, by omega, rfl, rfl, (by first | rfl | go_num), by go_num, HT, HF'⟩
                case measure => simp [intOf]; omega
        · by_cases h5 : d.kind = 5
          · have e3 : (d.kind == 3) = false := beq_eq_false_iff_ne.2 (by omega)
            have e4 : (d.kind == 4) = false := beq_eq_false_iff_ne.2 (by omega)
            have e5 : (d.kind == 5) = true := beq_iff_eq.2 h5
            go_wp2_with fail
            refine (got_any H4.out.1.peers d.what HD.out.2).mono ?_
            rintro e w5 ⟨rfl, h5', t5⟩
            rw [del_place ask d.what H4.out.1.peers.mA.nodup] at h5'
            have H5 := Lib.hid (H4.out.1.peer h5' t5)
            clear h5' t5
            by_cases hp : 0 ≤ place ask d.what
            · have gp : decide (0 ≤ place ask d.what) = true := decide_eq_true hp
              rw [if_pos hp] at H5
              go_wp2_with fail
              obtain ⟨j, hj, hj2⟩ : ∃ j : Nat, place ask d.what = j ∧ j < ask.length := by
                unfold place at hp ⊢
                split at hp
                · rename_i h; exact ⟨_, if_pos h, h⟩
                · omega
              rw [hj] at H5 ⊢
              refine (arbourlaw20_without.calls A6 c6 ask j (ask.eraseIdx j) w5 (Kd.R_reads' H5.out.row).2.2 HC6.out (without_run ask j (by have := HF.out.lens; omega) hj2)).mono ?_
              rintro e w6 ⟨v6, rfl, hr6, hb6⟩
              have HT := Lib.hid (H5.out.row' hr6 hb6)
              have HF' := Lib.hid (HF.out.erase j)
              clear hr6 hb6
              rw [Int.toNat_natCast] at HT
              obtain ⟨A7, c7, rfl, -, -⟩ := Kd.R_reads HT.out.row
              go_wp2_with fail
              refine (asked_l HT.out.peers).mono ?_
              rintro e w9 ⟨rfl, rfl⟩
              go_wp2_with fail
              go_roundw
              case rel => exact ⟨i + 1, _, _, _, _, _, _, by omega, by omega, rfl, rfl, (by first | rfl | go_num), by go_num, HT, HF'⟩
              case measure => simp [intOf]; omega
            · have gp : decide (0 ≤ place ask d.what) = false := decide_eq_false hp
              rw [if_neg hp] at H5
              have HT := H5
              have HF' := Lib.hid HF.out.later
              go_wp2_with fail
              refine (asked_l HT.out.peers).mono ?_
              rintro e w9 ⟨rfl, rfl⟩
              go_wp2_with fail
              go_roundw
              case rel => exact ⟨i + 1, _, _, _, _, _, _, by omega, by omega, rfl, rfl, (by first | rfl | go_num), by go_num, HT, HF'⟩
              case measure => simp [intOf]; omega
          · by_cases h6 : d.kind = 6
            · have e3 : (d.kind == 3) = false := beq_eq_false_iff_ne.2 (by omega)
              have e4 : (d.kind == 4) = false := beq_eq_false_iff_ne.2 (by omega)
              have e5 : (d.kind == 5) = false := beq_eq_false_iff_ne.2 h5
              have e6 : (d.kind == 6) = true := beq_iff_eq.2 h6
              have tb : 0 ≤ tick ∧ tick ≤ 200 := by have := HF.out.tick0; omega
              obtain ⟨tb0, tb1⟩ := tb
              have hal : ask.length ≤ 200 := by have := HF.out.lens; omega
              go_wp2_with fail
              refine (tick_any H4.out.1.peers tb0 (by omega) (fun p hp => by obtain ⟨q, hq, rfl⟩ := List.mem_map.1 hp; exact HF.out.asks q hq)).mono ?_
              rintro e w5 ⟨rfl, h5', t5⟩
              rw [prs_filter] at h5'
              have HM := Lib.hid (H4.out.1.peer h5' t5).maps
              clear h5' t5
              go_wp2_with fail
              obtain ⟨wL, hwL⟩ : ∃ wL, wL = (w5.alloc (.map #[] 0)).alloc (.map #[] 0) := ⟨_, rfl⟩
              have hsz : w5.heap.size + 1 + 1 = wL.heap.size := by rw [hwL]; simp
              rw [← hwL] at HM ⊢
              rw [hsz]
              have HS := Lib.hid hsz
              obtain ⟨m1, hm1⟩ : ∃ m1, m1 = w5.heap.size := ⟨_, rfl⟩
              rw [← hm1] at HM ⊢
              obtain ⟨m2, hm2⟩ : ∃ m2, m2 = m1 + 1 := ⟨_, rfl⟩
              rw [← hm2] at HM ⊢
              clear hwL hsz hm1 hm2
              have HQ : Hid (Kd.R kAsked 45 (wL.alloc (.cells #[] 45)) wL.heap.size (fun _ => True) (.slice (some ⟨wL.heap.size, 0, none⟩) 0 0) (live (tick + 1) (ask.take 0)) ∧ Below wL.heap.size wL (wL.alloc (.cells #[] 45))) :=
                ⟨R_empty kAsked _ wL wL.heap.size (Nat.le_refl _) (fun _ => True) trivial, below_alloc (Below.refl _ _) _⟩
              go_loopw [11, 12] (fun u11 u12 wr' => ∃ m : Nat, m ≤ ask.length ∧ u12 = .int .i64 m ∧ Hid (Kd.R kAsked 45 wr' wL.heap.size (fun _ => True) u11 (live (tick + 1) (ask.take m)) ∧ Below wL.heap.size wL wr')) (fun _ m _ => ask.length + 1 - (intOf m).toNat)
              case atStart => exact ⟨0, by omega, rfl, HQ⟩
              case round =>
                obtain ⟨m, hm, rfl, HL⟩ := hrel
                clear HQ
                by_cases hml : m < ask.length
                · have dm : decide ((m : Int) < (ask.length : Int)) = true := decide_eq_true (by omega)
                  have p2 : (0 ≤ (m : Int)) = True := eq_true (by omega)
                  have q2 : ((m : Int) < (ask.length : Int)) = True := eq_true (by omega)
                  obtain ⟨ad2, e2, z0, z1⟩ := at_Asked (Kd.C_below (Kd.R_reads' HM.out.row).2.2 HL.out.2) m hml hml
                  cases e2
                  have hnx := live_next (t := tick + 1) hml
                  have hmem := HF.out.asks _ (List.getElem_mem hml)
                  generalize ask[m] = x at z0 z1 hnx hmem
                  obtain ⟨hx0, hx1⟩ := hmem
                  have HNX := Lib.hid hnx
                  clear hnx
                  obtain ⟨A8, c8, rfl, -, -⟩ := Kd.R_reads HL.out.1
                  have hlen : (live (tick + 1) (ask.take m)).length ≤ 1000000 := by
                    have h1 := List.length_filter_le (fun x : Asked => decide (tick + 1 - x.f1 < 6)) (ask.take m)
                    have h2 := HF.out.lens
                    rw [List.length_take] at h1
                    unfold live
                    omega
                  have HLN := Lib.hid hlen
                  clear hlen
                  by_cases hx : tick + 1 - x.f1 < 6
                  · have gx : decide (tick + 1 - x.f1 < 6) = true := decide_eq_true hx
                    go_wp2_with (first
                      | ((with_reducible refine gate_builtin (b := .append) (xs := #[.tmp 140, .tmp 145]) rfl ?_)
                         at_builtin
                         refine Kd.R_append kAsked (w0 := wL) wL.heap.size rfl (.tmp 140) (.tmp 145) 39 45 (.agg #[(.string ⟨#[]⟩), (.int .i64 0)]) 24 rfl Try.underlying39 info45 rfl (by decide) (by omega) _ (live (tick + 1) (ask.take m)) x [.string x.f0, .int .i64 x.f1] (fun _ => True) (fun _ => False) rfl rfl ?aP (fun _ hk => hk.elim) ?aF ?aO ?aB ?aS ?aL ?_
                         (case aP => exact k45_mkM _ _ _ x)
                         (case aF => exact fun _ _ => trivial)
                         (case aO => exact HL.out.1)
                         (case aB => exact HL.out.2)
                         (case aS => exact HL.out.2.size)
                         (case aL => have := HLN.out; omega)
                         intro v9 w9 ho hb hg hat
                         have H9 := Lib.hid (And.intro ho hb)
                         clear ho hb hg hat)
                      | fail)
                    go_roundw
                    case rel =>
                      refine ⟨m + 1, by omega, by go_num, ?_⟩
                      rw [HNX.out, if_pos hx]
                      exact H9
                    case measure => simp [intOf]; omega
                  · have gx : decide (tick + 1 - x.f1 < 6) = false := decide_eq_false hx
                    go_wp2_with fail
                    go_roundw
                    case rel =>
                      refine ⟨m + 1, by omega, by go_num, ?_⟩
                      rw [HNX.out, if_neg hx]
                      exact HL
                    case measure => simp [intOf]; omega
                · obtain rfl : m = ask.length := by omega
                  have dm : decide (((ask.length : Nat) : Int) < (ask.length : Int)) = false := decide_eq_false (by omega)
                  obtain ⟨A8, c8, rfl, -, -⟩ := Kd.R_reads HL.out.1
                  go_wp2_with fail
                  rw [List.take_length] at HL ⊢
                  have HT := Lib.hid (HM.out.row' HL.out.1 HL.out.2)
                  have HF' := Lib.hid HF.out.tick
                  go_wp2_with fail
                  refine (asked_l HT.out.peers).mono ?_
                  rintro e w9 ⟨rfl, rfl⟩
                  go_wp2_with fail
                  go_roundw
                  case rel => exact ⟨i + 1, _, _, _, _, _, _, by omega, by omega, rfl, rfl, (by first | rfl | go_num), by go_num, HT, HF'⟩
                  case measure => simp [intOf]; omega
            · have e3 : (d.kind == 3) = false := beq_eq_false_iff_ne.2 (fun h => h34 (.inl h))
              have e4 : (d.kind == 4) = false := beq_eq_false_iff_ne.2 (fun h => h34 (.inr h))
              have e5 : (d.kind == 5) = false := beq_eq_false_iff_ne.2 h5
              have e6 : (d.kind == 6) = false := beq_eq_false_iff_ne.2 h6
              have hkey : keyOf Try.prog 3 (.int .i64 d.who) = some (ekI d.who) := keyOf_int_mk Try.underlying3 HD.out.1
              have l1 := H4.out.1.m1.run_lookup lawI (t := 38) Try.underlying38 (zeroI w4) d.who hkey
              have l2 := H4.out.1.m2.run_lookup lawI (t := 38) Try.underlying38 (zeroI w4) d.who hkey
              rw [valAt_at0] at l1 l2
              obtain ⟨cF, hcF⟩ : ∃ cF, cF = at0 fr d.who := ⟨_, rfl⟩
              obtain ⟨cB, hcB⟩ : ∃ cB, cB = at0 bs d.who := ⟨_, rfl⟩
              rw [← hcF] at l1
              rw [← hcB] at l2
              have r1 : 0 ≤ cF ∧ cF ≤ 16 ∧ 0 ≤ cB ∧ cB ≤ 131072 := by have := HF.out.ats d.who; omega
              obtain ⟨r1, r2, r3, r4⟩ := r1
              have HC := Lib.hid (And.intro hcF hcB)
              by_cases n0 : 0 ≤ d.n
              · have g0 : decide (0 ≤ d.n) = true := decide_eq_true n0
                by_cases n1 : cF < 16
                · have g1 : decide (cF < 16) = true := decide_eq_true n1
                  by_cases n2 : d.n ≤ 131072 - cB
                  · have g2 : decide (d.n ≤ 131072 - cB) = true := decide_eq_true n2
                    have eT : Hid (takeOk fr bs d.who d.n = true) := by simp [takeOk, Hid, n0, ← hcF, ← hcB, n1, n2]
                    clear hcF hcB
                    go_wp2_with fail
                    refine (take_any H4.out.1.peers d.who d.n HD.out.1 (HF.out.ats _).1.1 (HF.out.ats _).2.1 (HF.out.ats _).2.2 (by have := HF.out.lens; omega) (by have := HF.out.lens; omega)).mono ?_
                    rw [eT.out]
                    rintro e w5 ⟨rfl, h5', t5⟩
                    have H5 := Lib.hid (And.intro (H4.out.1.peer h5' t5) (H4.out.2.turn t5))
                    have HF' := Lib.hid (HF.out.take eT.out)
                    clear h5' t5 l1 l2 x0 x1 x2 x3
                    obtain ⟨x0, x1, x2, x3⟩ := H5.out.2.read
                    have l1 := H5.out.1.m1.run_lookup lawI (t := 38) Try.underlying38 (zeroI w5) d.who hkey
                    rw [valAt_at0, ← HC.out.1] at l1
                    go_wp2_with (first
                      | (at_mapUpdate; refine wpList_store_is _ rfl _ _ _ 38 rfl lawI Try.underlying38 rfl H5.out.1.m1 (by have := HF.out.lens; unfold maxLen; omega) ekI_inj ekI_key d.who (cF + 1) hkey rfl ?_; intro w6 hm6 hg6; obtain ⟨H6, ⟨y0, y1, y2, y3⟩, l3⟩ := plays_mid H5.out.1 H5.out.2 hm6 hg6 hkey HC.out.2; clear hm6 hg6)
                      | (at_mapUpdate; refine wpList_store_is _ rfl _ _ _ 38 rfl lawI Try.underlying38 rfl H6.out.1.m2 (by have := HF.out.lens; unfold maxLen; omega) ekI_inj ekI_key d.who (cB + d.n) hkey rfl ?_; intro w7 hm7 hg7; have HT := Lib.hid (H6.out.1.store2 hm7 hg7); clear hm7 hg7)
                      | fail)
                    rw [HC.out.1, HC.out.2] at HT
                    go_wp2_with fail
                    refine (asked_l HT.out.peers).mono ?_
                    rintro e w9 ⟨rfl, rfl⟩
                    go_wp2_with fail
                    go_roundw
                    case rel => exact ⟨i + 1, _, _, _, _, _, _, by omega, by omega, rfl, rfl, (by first | rfl | go_num), by go_num, HT, HF'⟩
                    case measure => simp [intOf]; omega
                  · have g2 : decide (d.n ≤ 131072 - cB) = false := decide_eq_false n2
                    have eT : Hid (takeOk fr bs d.who d.n = false) := by simp [takeOk, Hid, ← hcB, n2]
                    clear hcF hcB
                    go_wp2_with fail
                    refine (take_any H4.out.1.peers d.who d.n HD.out.1 (HF.out.ats _).1.1 (HF.out.ats _).2.1 (HF.out.ats _).2.2 (by have := HF.out.lens; omega) (by have := HF.out.lens; omega)).mono ?_
                    rw [eT.out]
                    rintro e w5 ⟨rfl, h5', t5⟩
                    have HT := Lib.hid (H4.out.1.peer h5' t5)
                    have HF' := Lib.hid HF.out.later
                    clear h5' t5
                    go_wp2_with fail
                    refine (asked_l HT.out.peers).mono ?_
                    rintro e w9 ⟨rfl, rfl⟩
                    go_wp2_with fail
                    go_roundw
                    case rel => exact ⟨i + 1, _, _, _, _, _, _, by omega, by omega, rfl, rfl, (by first | rfl | go_num), by go_num, HT, HF'⟩
                    case measure => simp [intOf]; omega
                · have g1 : decide (cF < 16) = false := decide_eq_false n1
                  have eT : Hid (takeOk fr bs d.who d.n = false) := by simp [takeOk, Hid, ← hcF, n1]
                  clear hcF hcB
                  go_wp2_with fail
                  refine (take_any H4.out.1.peers d.who d.n HD.out.1 (HF.out.ats _).1.1 (HF.out.ats _).2.1 (HF.out.ats _).2.2 (by have := HF.out.lens; omega) (by have := HF.out.lens; omega)).mono ?_
                  rw [eT.out]
                  rintro e w5 ⟨rfl, h5', t5⟩
                  have HT := Lib.hid (H4.out.1.peer h5' t5)
                  have HF' := Lib.hid HF.out.later
                  clear h5' t5
                  go_wp2_with fail
                  refine (asked_l HT.out.peers).mono ?_
                  rintro e w9 ⟨rfl, rfl⟩
                  go_wp2_with fail
                  go_roundw
                  case rel => exact ⟨i + 1, _, _, _, _, _, _, by omega, by omega, rfl, rfl, (by first | rfl | go_num), by go_num, HT, HF'⟩
                  case measure => simp [intOf]; omega
              · have g0 : decide (0 ≤ d.n) = false := decide_eq_false n0
                have eT : Hid (takeOk fr bs d.who d.n = false) := by simp [takeOk, Hid, n0]
                clear hcF hcB
                go_wp2_with fail
                refine (take_any H4.out.1.peers d.who d.n HD.out.1 (HF.out.ats _).1.1 (HF.out.ats _).2.1 (HF.out.ats _).2.2 (by have := HF.out.lens; omega) (by have := HF.out.lens; omega)).mono ?_
                rw [eT.out]
                rintro e w5 ⟨rfl, h5', t5⟩
                have HT := Lib.hid (H4.out.1.peer h5' t5)
                have HF' := Lib.hid HF.out.later
                clear h5' t5
                go_wp2_with fail
                refine (asked_l HT.out.peers).mono ?_
                rintro e w9 ⟨rfl, rfl⟩
                go_wp2_with fail
                go_roundw
                case rel => exact ⟨i + 1, _, _, _, _, _, _, by omega, by omega, rfl, rfl, (by first | rfl | go_num), by go_num, HT, HF'⟩
                case measure => simp [intOf]; omega
      · have hd2 : decide ((i : Int) < (l.length : Int)) = false := decide_eq_false (by omega)
        go_wp2_with fail
        go_ret
        exact ⟨rfl, HK.out.below⟩
    · have hd1 : decide ((i : Int) < 200) = false := decide_eq_false (by omega)
      go_wp2_with fail
      all_goals go_ret
      all_goals exact ⟨rfl, HK.out.below⟩

set_option maxRecDepth 100000 in
open Go.Proofs.YtobkpglenpoacaaO Go.ChangeShapes Go.WideShapes in
theorem opens_doing : Opens Try.prog 41 kDoing (fun x => (Lit.int .i64 x.who).wf = true ∧ x.what.size ≤ maxLen) := by
  intro H enc w base spare held fuel cs x h
  obtain ⟨xs, n, _, _, hl, hlen, hf⟩ := DataW.trod_struct Try.underlying41 h
  have hc : Try.prog.cellsOf 41 = 4 := by kernel_rfl
  have hi : Try.prog.cellsOf 3 = 1 := by kernel_rfl
  have hs : Try.prog.cellsOf 9 = 1 := by kernel_rfl
  rw [hc] at hl
  match cs, hl with
  | [c0, c1, c2, c3], _ =>
    match xs, hlen with
    | [x0, x1, x2, x3], _ =>
      have h0 := hf 0 _ rfl
      have h1 := hf 1 _ rfl
      have h2 := hf 2 _ rfl
      have h3 := hf 3 _ rfl
      simp only [hi, hs, List.drop_zero, List.drop_succ_cons, List.take_succ_cons, List.take_zero, List.getElem?_cons_zero, List.getElem?_cons_succ] at h0 h1 h2 h3
      obtain ⟨a0, e0, _, _⟩ := DataW.trod_int Try.underlying3 h0
      obtain ⟨a1, e1, _, w1⟩ := DataW.trod_int Try.underlying3 h1
      obtain ⟨a2, e2, _, _⟩ := DataW.trod_int Try.underlying3 h2
      obtain ⟨a3, e3, _, w3⟩ := DataW.trod_string Try.underlying9 h3
      cases e0; cases e1; cases e2; cases e3
      exact ⟨⟨a0, a1, a2, a3⟩, ⟨[_], [_, _, _], rfl, rfl, [_], [_, _], rfl, rfl, [_], [_], rfl, rfl, rfl⟩, w1, w3⟩
end Go.Proofs.YtobkpglenpoacaaP
