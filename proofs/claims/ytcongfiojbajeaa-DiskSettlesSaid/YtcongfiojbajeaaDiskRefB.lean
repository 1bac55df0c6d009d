/- The document's disk: a file put in, a file taken out: the walks. Conditions: the state is small. -/
import Derived.Test.YtcongfiojbajeaaDiskRefA
import Derived.Deep.RegionLaw
import Derived.Deep.CutRange
namespace Go.Proofs.YtcongfiojbajeaaK
open Go Go.RowKit Go.Maps Go.Proofs.YtcongfiojbajeaaM Go.Proofs.YtcongfiojbajeaaW.PrintWords Go.Proofs.YtcongfiojbajeaaN
set_option linter.unusedVariables false
set_option linter.unusedSimpArgs false
section
variable {α : Type} {R : α → List Value → Prop} {sz : Nat} {w w' : World} {A : Option Addr} {n m : Nat} {xs : List α}
theorem reads_take (h : ReadsRow R sz w A n xs) (hm : m ≤ n) : ReadsRow R sz w A m (xs.take m) := by
  obtain ⟨h1, h2, h3⟩ := h
  refine ⟨by rw [List.length_take, h1]; omega, by omega, fun hp => ?_⟩
  obtain ⟨ad, e, hc⟩ := h3 (by omega)
  refine ⟨ad, e, fun j p hj => hc j p ?_⟩
  rw [List.getElem?_take] at hj
  split at hj
  · exact hj
  · cases hj
theorem reads_drop (h : ReadsRow R sz w A n xs) (hm : m ≤ n) (hA : Option Addr) (he : m < n → hA = A.map (·.add (m * sz))) : ReadsRow R sz w hA (n - m) (xs.drop m) := by
  obtain ⟨h1, h2, h3⟩ := h
  refine ⟨by rw [List.length_drop, h1], by omega, fun hp => ?_⟩
  obtain ⟨ad, e, hc⟩ := h3 (by omega)
  refine ⟨ad.add (m * sz), by rw [he (by omega), e]; rfl, fun j p hj => ?_⟩
  rw [List.getElem?_drop] at hj
  obtain ⟨c, c1, c2, c3⟩ := hc (m + j) p hj
  refine ⟨c, c1, c2, fun i u hu => ?_⟩
  have := c3 i u hu
  rw [Addr.add_add, Nat.add_mul, Nat.add_assoc] at *
  exact this
theorem reads_at (h : ReadsRow R sz w A n xs) (hw : ∀ b, b < w.heap.size → w'.heap[b]? = w.heap[b]?) : ReadsRow R sz w' A n xs := by
  refine ⟨h.1, h.2.1, fun hp => ?_⟩
  obtain ⟨ad, e, hc⟩ := h.2.2 hp
  refine ⟨ad, e, fun j p hj => ?_⟩
  obtain ⟨c, c1, c2, c3⟩ := hc j p hj
  refine ⟨c, c1, c2, fun i u hu => ?_⟩
  have h1 := c3 i u hu
  have hlt := World.block_lt_of_cell? w _ h1
  unfold World.cell? at h1 ⊢
  rw [hw _ hlt]; exact h1
end
section
variable {P : Program} {α : Type}
/-- append(v, ys...), v a row of one's own, in one run. -/
theorem run_rows (d : Kd α) (W : World) (base : Nat) (t ty e : TypeId) (i0 : TypeInfo) (z : Value) (bytes : Nat) (ht : P.underlying t = some (.slice e)) (hi : P.info? e = some i0) (hz0 : i0.zero = some z) (hz1 : i0.size = d.sz) (hz2 : i0.bytes = bytes) (hz : z.cells.size = d.sz) (hs0 : 0 < d.sz)
    (v : Value) (xs ys : List α) (A : Option Addr) (m c : Nat) (ok okp : Nat → Prop) (HO : d.R e W base ok v xs) (HR : ReadsRow (d.M W base okp) d.sz W A m ys) (hokp : ∀ k, okp k → ok k ∧ some k ≠ v.ownBlock) (hfresh : ∀ k, W.heap.size ≤ k → ok k) (hbase : base ≤ W.heap.size)
    (hlen : xs.length + m ≤ maxLen) (hl : (xs.length + m) * bytes ≤ 140737488355328) :
    ∃ v1 w1, (Builtin.append_ #[t, t] ty #[v, .slice A m c]).run P W = .ok v1 w1 ∧ d.R e w1 base ok v1 (xs ++ ys) ∧ W.grownBy w1 v.ownBlock ∧ (v1.ownBlock = v.ownBlock ∨ ∃ b, v1.ownBlock = some b ∧ W.heap.size ≤ b) := by
  have hm : ys.length = m := HR.1
  obtain ⟨hok, inner, hown, hr⟩ := HO
  rcases A with _ | ad
  · have h0 : m = 0 := by
      rcases Nat.eq_zero_or_pos m with h0 | h0
      · exact h0
      · obtain ⟨ad, h, _⟩ := HR.2.2 h0
        cases h
    subst h0
    obtain rfl : ys = [] := List.eq_nil_of_length_eq_zero hm
    refine ⟨v, W, ?_, by rw [List.append_nil]; exact ⟨hok, inner, hown, hr⟩, World.grownBy.refl W _, .inl rfl⟩
    rcases hown.2 with ⟨rfl, hn⟩ | ⟨g, cap, cur, rfl, _, _, hnc, _⟩
    · simp [Builtin.append_, run_underlying ht, sizeOf, typeInfo, hi, Builtin.lenOf, Builtin.firstCells]
    · simp [Builtin.append_, run_underlying ht, sizeOf, typeInfo, hi, Builtin.lenOf, Builtin.firstCells, hnc, storeCells]
  · obtain ⟨news, hnM, hnc⟩ := ReadsRow.inner_ HR
    have hone : ∀ u ∈ news, u.oneCell' = true := by
      intro u hu
      obtain ⟨q, hq, rfl⟩ := List.mem_iff_getElem.1 hu
      have hql : q / d.sz < ys.length := by
        rw [Nat.div_lt_iff_lt_mul hs0, ← hnM.1]
        exact hq
      refine d.K_one (d.K_of_M (hnM.2 (q / d.sz) _ (List.getElem?_eq_getElem hql))) _ ?_
      rw [List.mem_iff_getElem?]
      refine ⟨q % d.sz, ?_⟩
      rw [List.getElem?_take, if_pos (Nat.mod_lt _ hs0), List.getElem?_drop, Nat.mul_comm, Nat.div_add_mod, List.getElem?_eq_getElem hq]
    obtain ⟨v1, w1, hrun, h2, hg, _, hat⟩ := run_append_own_at (P := P) W base t ty e i0 z d.sz bytes ht hi hz0 hz1 hz2 hz hs0 v xs.length inner hown ad m c news (by rw [hnM.1, hm]) hnc hone hlen hl hbase
    have hat' : v1.ownBlock = v.ownBlock ∨ ∃ b, v1.ownBlock = some b ∧ W.heap.size ≤ b := hat.imp id (fun h => ⟨_, h, Nat.le_refl _⟩)
    have hne : ∀ k, some k ≠ v.ownBlock → k < W.heap.size → some k ≠ v1.ownBlock := fun k hk hlt => by
      rcases hat' with hat | ⟨b, hb, hle⟩
      · rw [hat]; exact hk
      · rw [hb]; intro he; have := Option.some.inj he; omega
    have step : ∀ {q : α} {c : List Value} {o : Nat → Prop}, d.M W base o q c → (∀ k, o k → ok k ∧ some k ≠ v.ownBlock) → d.M w1 base (fun k => ok k ∧ some k ≠ v1.ownBlock) q c := fun hq ho =>
      d.M_mono (fun k hk => ⟨(ho k hk.1).1, hne k (ho k hk.1).2 hk.2.2.1⟩) (d.M_move (w1 := w1) (fun k hk => hg.block k hk.2.2.1 (ho k hk.1).2) (d.M_bound hq))
    refine ⟨v1, w1, hrun, ⟨fun k hk => ?_, inner ++ news, by rw [List.length_append, hm]; exact h2, Kd.reps_append (hr.imp_ (fun _ _ hq => step hq (fun _ hk => hk))) (hnM.imp_ (fun _ _ hq => step hq hokp))⟩, hg, hat'⟩
    rcases hat' with hat | ⟨b, hb, hle⟩
    · exact hok k (hat ▸ hk)
    · rw [hb] at hk
      have := Option.some.inj hk
      exact hfresh k (by omega)
/-- .. at a step of a region that draws its order. -/
theorem step_rows (d : Kd α) {W : World} {ops : Array Oper} {o : Oper} {a : Act} {K : Act → World → Prop} {Q : Exit → Act → World → Prop} {E : Prop} (hgd : o.guard = none) (s x : Operand) (t e : TypeId) (ho : o.op = .call { callee := .builtin .append, args := #[s, x], argTypes := #[t, t] })
    (base : Nat) (i0 : TypeInfo) (z : Value) (bytes : Nat) (ht : P.underlying t = some (.slice e)) (hi : P.info? e = some i0) (hz0 : i0.zero = some z) (hz1 : i0.size = d.sz) (hz2 : i0.bytes = bytes) (hz : z.cells.size = d.sz) (hs0 : 0 < d.sz)
    (v : Value) (xs ys : List α) (A : Option Addr) (m c : Nat) (ok okp : Nat → Prop) (hs : a.eval s = v) (hx : a.eval x = .slice A m c) (HO : d.R e W base ok v xs) (HR : ReadsRow (d.M W base okp) d.sz W A m ys) (hokp : ∀ k, okp k → ok k ∧ some k ≠ v.ownBlock) (hfresh : ∀ k, W.heap.size ≤ k → ok k) (hbase : base ≤ W.heap.size)
    (hlen : xs.length + m ≤ maxLen) (hl : (xs.length + m) * bytes ≤ 140737488355328)
    (h : ∀ v1 w1, d.R e w1 base ok v1 (xs ++ ys) → W.grownBy w1 v.ownBlock → (v1.ownBlock = v.ownBlock ∨ ∃ b, v1.ownBlock = some b ∧ W.heap.size ≤ b) → K (a.put o.dst v1) w1) :
    if Region.wanted o (yielded ops a.tmps) = true then Oper.wp P o a W K Q else E := by
  obtain ⟨v1, w1, hr, h1, hg, hat⟩ := run_rows (P := P) d W base t o.type e i0 z bytes ht hi hz0 hz1 hz2 hz hs0 v xs ys A m c ok okp HO HR hokp hfresh hbase hlen hl
  have hw : Region.wanted o (yielded ops a.tmps) = true := by simp [Region.wanted, hgd]
  rw [if_pos hw]
  unfold Oper.wp execOp
  simp only [ho, resolve, invoke, builtin, Sem.run_bind, Sem.run_pure, Result.andThen_ok, List.map_toArray, List.map_cons, List.map_nil, hs, hx, hr]
  exact h v1 w1 h1 hg hat
end
theorem infoF : (Try.prog.info? 75).map (fun i => (i.zero, i.size, i.bytes)) = some (some (.agg #[.string ByteArray.empty, .string ByteArray.empty, .bool false, .slice none 0 0]), 4, 64) := by kernel_rfl
/-- The files' row, read: its elements may be laid into a new row. -/
theorem rows_read {w : World} {vf : Value} {l : List (ByteArray × PF)} (h : Kd.R kF 75 w 0 (fun _ => True) vf l) : ∃ A c, vf = .slice A l.length c ∧ l.length ≤ c ∧ ReadsRow (kF.M w 0 (fun k => k < w.heap.size)) 4 w A l.length l := by
  obtain ⟨A, c, h1, h2, h3⟩ := OwnRow.reads (Kd.R_bound h).2
  exact ⟨A, c, h1, h2, h3.imp_ (Below.refl _ _) (fun _ _ hp => kF.M_mono (fun k hk => hk.1.2.2.1) hp)⟩
theorem rows_later {w w' : World} {A : Option Addr} {n : Nat} {l : List (ByteArray × PF)} (h : ReadsRow (kF.M w 0 (fun k => k < w.heap.size)) 4 w A n l) (hb : Below w.heap.size w w') : ReadsRow (kF.M w' 0 (fun k => k < w.heap.size)) 4 w' A n l :=
  reads_at (h.imp_ (Below.refl _ _) (fun _ _ hp => Kd.M_below hp hb)) hb.block
theorem rows_nil (w : World) (ok : Nat → Prop) (hok : ok w.heap.size) : Kd.R kF 75 (w.alloc (.cells #[] 75)) 0 ok (.slice (some ⟨w.heap.size, 0, none⟩) 0 0) [] :=
  ⟨fun k hk => by have : w.heap.size = k := by simpa [Value.ownBlock] using hk
                  exact this ▸ hok, OwnRow.lit w 0 (Reps.none _ _) (Nat.zero_le _) (by simp)⟩
theorem R_below2 {w w' : World} {v : Value} {l : List (ByteArray × PF)} (h : Kd.R kF 75 w 0 (fun _ => True) v l) (hb : Below w.heap.size w w') : Kd.R kF 75 w' 0 (fun _ => True) v l := Kd.R_below h hb
theorem C_of_R {w : World} {A : Option Addr} {n c : Nat} {l : List (ByteArray × PF)} (h : Kd.R kF 75 w 0 (fun _ => True) (.slice A n c) l) : Kd.C kF w A l.length l := by
  obtain ⟨A', c', he, _, hC⟩ := Kd.R_reads h
  injection he with he1 he2 he3
  subst he1
  exact hC
/-- Stores into a block of another kind. -/
def setsOf (w : World) (g : Nat) : List (Nat × Value) → World
  | [] => w
  | (j, u) :: l => setsOf (w.setCell ⟨g, j, none⟩ u) g l
theorem R_sets {α : Type} {d : Kd α} {e base g t : Nat} {ok : Nat → Prop} {w : World} {v : Value} {xs : List α} {cells : Array Value} (h : d.R e w base ok v xs) (hb : w.heap[g]? = some (.cells cells t (0, 0))) (ht : ∀ q, q ∈ e :: d.E → q ≠ t) (l : List (Nat × Value)) : d.R e (setsOf w g l) base ok v xs := by
  induction l generalizing w cells with
  | nil => exact h
  | cons p l ih => exact ih (Kd.R_set h hb ht p.1 p.2) (blk_set hb p.1 p.2)
theorem below_sets {B g : Nat} {w0 w : World} (h : Below B w0 w) (hg : B ≤ g) (l : List (Nat × Value)) : Below B w0 (setsOf w g l) := by
  induction l generalizing w with
  | nil => exact h
  | cons p l ih => exact ih (Below.setCell h hg _)
theorem row_new {N k : Nat} {v1 : Value} {W : World} (hat : v1.ownBlock = (Value.slice (some ⟨N, 0, none⟩) 0 0).ownBlock ∨ ∃ b, v1.ownBlock = some b ∧ W.heap.size ≤ b) (hk : v1.ownBlock = some k) (hN : N ≤ W.heap.size) : N ≤ k := by
  rcases hat with h | ⟨b, hb, hle⟩
  · rw [hk] at h
    have : k = N := by simpa [Value.ownBlock] using h
    omega
  · rw [hk] at hb
    have := Option.some.inj hb
    omega
set_option maxHeartbeats 4000000 in
set_option maxRecDepth 100000 in
theorem rwithout (l : List (ByteArray × PF)) (vf : Value) (room next : Int) (down : Bool) (nme : ByteArray) (w : World) (h : Kd.R kF 75 w 0 (fun _ => True) vf l) (hl : l.length ≤ 1000000) (hr : Rises l) :
    Calls Try.prog 57 #[.agg #[vf, .int .i64 room, .slice none 0 0, .int .i64 next, .bool down], .string nme] w fun e' w' => ∃ vf', e' = .returned (.agg #[vf', .int .i64 room, .slice none 0 0, .int .i64 next, .bool down]) ∧ Kd.R kF 75 w' 0 (fun _ => True) vf' (delL l nme) ∧ Below w.heap.size w w' := by
  obtain ⟨w1, hw1⟩ : ∃ w1, w.alloc (.cells #[vf, .int .i64 room, .slice none 0 0, .int .i64 next, .bool down] 29) = w1 := ⟨_, rfl⟩
  have HB1 := Lib.hid (show Below w.heap.size w w1 by rw [← hw1]; exact (Below.refl _ _).alloc (Nat.le_refl _) _)
  have hx1 : w1.heap[w.heap.size]? = some (.cells #[vf, .int .i64 room, .slice none 0 0, .int .i64 next, .bool down] 29 (0, 0)) := by rw [← hw1]; exact alloc_at w _
  have hs1 : w1.heap.size = w.heap.size + 1 := by rw [← hw1]; simp
  obtain ⟨w2, hw2⟩ : ∃ w2, w1.alloc (.cells #[.slice none 0 0, .int .i64 0, .slice none 0 0, .int .i64 0, .bool false] 29) = w2 := ⟨_, rfl⟩
  have HB2 := Lib.hid (show Below w.heap.size w w2 by rw [← hw2]; exact HB1.out.alloc HB1.out.size _)
  have HX2 := Lib.hid (show w2.heap[w.heap.size]? = some (.cells #[vf, .int .i64 room, .slice none 0 0, .int .i64 next, .bool down] 29 (0, 0)) by rw [← hw2]; exact (Below.heap_alloc w1 _ _ (blk_lt hx1)).trans hx1)
  have HY2 := Lib.hid (show w2.heap[w.heap.size + 1]? = some (.cells #[.slice none 0 0, .int .i64 0, .slice none 0 0, .int .i64 0, .bool false] 29 (0, 0)) by rw [← hw2, ← hs1]; exact alloc_at w1 _)
  have x0 : w2.cell? ⟨w.heap.size, 0, none⟩ = some vf := cell_in HX2.out 0
  have x1 : w2.cell? ⟨w.heap.size, 1, none⟩ = some (.int .i64 room) := cell_in HX2.out 1
  have x2 : w2.cell? ⟨w.heap.size, 2, none⟩ = some (.slice none 0 0) := cell_in HX2.out 2
  have x3 : w2.cell? ⟨w.heap.size, 3, none⟩ = some (.int .i64 next) := cell_in HX2.out 3
  have x4 : w2.cell? ⟨w.heap.size, 4, none⟩ = some (.bool down) := cell_in HX2.out 4
  have HH := Lib.hid (R_below2 h HB2.out)
  obtain ⟨A, c, rfl, hlc, hRR⟩ := rows_read HH.out
  have HFd := Lib.hid (rfind l A c (.int .i64 room) (.slice none 0 0) (.int .i64 next) (.bool down) nme w2 (C_of_R HH.out) hl)
  have HRR := Lib.hid hRR
  have HRi := Lib.hid hr
  clear hx1 h hr hRR
  go_enter Try.func57, Try.ntmps57
  go_wp2_with fail
  refine HFd.out.mono ?_
  rintro e' w3 ⟨rfl, hb3⟩
  have HX3 := Lib.hid ((hb3.block _ (blk_lt HX2.out)).trans HX2.out)
  have HY3 := Lib.hid ((hb3.block _ (blk_lt HY2.out)).trans HY2.out)
  have HB3 := Lib.hid (HB2.out.trans (hb3.mono HB2.out.size))
  have HH3 := Lib.hid (R_below2 HH.out hb3)
  have y0 : w3.cell? ⟨w.heap.size, 0, none⟩ = some (.slice A l.length c) := cell_in HX3.out 0
  have fz : w3.frozen? ⟨w.heap.size, 0, none⟩ = false := free_in HX3.out 0
  obtain ⟨bi, hbi⟩ : ∃ bi, bi = isI l nme := ⟨_, rfl⟩
  obtain ⟨n, hn⟩ : ∃ n, n = idx l nme := ⟨_, rfl⟩
  have HI := Lib.hid (And.intro hbi hn)
  rw [← hbi, ← hn]
  clear hb3 x0 x1 x2 x3 x4 HRR HFd hbi hn
  go_upto_if 13 with fail
  go_cut [] from 14 to 26 (fun wx => ∃ vf', Hid (wx.heap[w.heap.size]? = some (.cells #[vf', .int .i64 room, .slice none 0 0, .int .i64 next, .bool down] 29 (0, 0))) ∧ Hid (wx.heap[w.heap.size + 1]? = some (.cells #[.slice none 0 0, .int .i64 0, .slice none 0 0, .int .i64 0, .bool false] 29 (0, 0))) ∧ Hid (Kd.R kF 75 wx 0 (fun _ => True) vf' (delL l nme)) ∧ Hid (Below w.heap.size w wx))
  case first =>
    have HDl := Lib.hid (delL_split HRi.out nme)
    cases bi with
    | false =>
      have HD2 := Lib.hid (show delL l nme = l by rw [HDl.out, ← HI.out.1, if_neg (by simp)])
      go_wp2_with fail
      go_meet
      exact ⟨_, HX3, HY3, by rw [HD2.out]; exact HH3, HB3⟩
    | true =>
      have HD2 := Lib.hid (show delL l nme = [] ++ l.take n ++ l.drop (n + 1) by rw [HDl.out, ← HI.out.1, ← HI.out.2, if_pos rfl]; rfl)
      have hlt : n < l.length := by rw [HI.out.2]; exact isI_lt HI.out.1.symm
      clear HDl
      have p0 : (0 ≤ (n : Int)) = True := eq_true (by omega)
      have p1 : ((n : Int) ≤ (c : Int)) = True := eq_true (by omega)
      obtain ⟨n1, hn1⟩ : ∃ n1, n1 = n + 1 := ⟨_, rfl⟩
      have HW := Lib.hid (show IntKind.i64.wrap ((n : Int) + 1) = (n1 : Int) by rw [IntKind.wrap_i64]; omega)
      have hle1 : n1 ≤ l.length := by omega
      have p2 : ((n1 : Int) ≤ (l.length : Int)) = True := eq_true (by omega)
      have p4 : (0 ≤ (n1 : Int)) = True := eq_true (by omega)
      rw [← hn1] at HD2
      have hw := HW.out
      clear hn1
      have p3 : ((l.length : Int) ≤ (c : Int)) = True := eq_true (by omega)
      have hnlt : w.heap.size < w3.heap.size := blk_lt HX3.out
      have nf : ∀ o, (w3.alloc o).drew.frozen? ⟨w.heap.size, 0, none⟩ = false := fun o => free_in (w := (w3.alloc o).drew) ((Below.heap_alloc w3 o _ hnlt).trans HX3.out) 0
      have nc : ∀ o, (w3.alloc o).drew.cell? ⟨w.heap.size, 0, none⟩ = some (.slice A l.length c) := fun o => cell_in (w := (w3.alloc o).drew) ((Below.heap_alloc w3 o _ hnlt).trans HX3.out) 0
      have hd0 : w3.drew.cell? ⟨w.heap.size, 0, none⟩ = some (.slice A l.length c) := y0
      obtain ⟨A', c', he, hlc', hRR⟩ := rows_read HH3.out
      obtain ⟨i0, hi0, hz0, hz1, hz2⟩ := info_parts infoF
      have HR3 := Lib.hid hRR
      have he1 : A = A' := by injection he
      subst he1
      have hb1 : ∀ o, Below w3.heap.size w3 (w3.alloc o).drew := fun o => ((Below.refl _ w3).alloc (Nat.le_refl _) o).drew
      have hln1 : ([] : List (ByteArray × PF)).length + n ≤ maxLen := by unfold maxLen; simp; omega
      have hln2 : (([] : List (ByteArray × PF)).length + n) * 64 ≤ 140737488355328 := by simp; omega
      have hcn : n1 < l.length → (if c = n1 then A else Option.map (fun x => x.add (n1 * 4)) A) = Option.map (fun x => x.add (n1 * kF.sz)) A := fun h => by rw [if_neg (by omega)]; rfl
      have hln3 : ([] ++ l.take n).length + (l.length - n1) ≤ maxLen := by unfold maxLen; simp; omega
      have hln4 : (([] ++ l.take n).length + (l.length - n1)) * 64 ≤ 140737488355328 := by simp; omega
      have hrow1 : ∀ k, (Value.slice (some ⟨w3.heap.size, 0, none⟩) 0 0).ownBlock = some k → w3.heap.size ≤ k := fun k hk => by have : w3.heap.size = k := (by simpa [Value.ownBlock] using hk); omega
      have hlt3 : ∀ o, w3.heap.size < (w3.alloc o).drew.heap.size := fun o => by simp
      clear hRR he
      go_wp2_with fail
      go_region_law (first
        | (guard_hyp hb4; refine step_rows kF (by rfl) _ _ _ 75 (by rfl) 0 i0 _ 64 Try.underlying26 hi0 hz0 hz1 hz2 rfl (by decide) v1 ([] ++ l.take n) (l.drop n1) (if c = n1 then A else Option.map (fun x => x.add (n1 * 4)) A) (l.length - n1) (c - n1) (fun _ => True) (fun k => k < w3.heap.size) (by rfl) (by rfl) hR4 (reads_drop (rows_later HR3.out hb4) hle1 _ hcn) (fun k hk => ⟨trivial, fun h => hown4 k hk h⟩) (fun _ _ => trivial) (Nat.zero_le _) hln3 hln4 ?_; intro v2 w5 hR5 hg5 hat5; have hb5 : Below w3.heap.size w3 w5 := pw_below_grown hb4 _ hb4.size hg5 hown5; have k2 : w5.cell? ⟨w.heap.size, 0, none⟩ = some (.slice A l.length c) := cell_in ((hb5.block _ hnlt).trans HX3.out) 0; have k3 : w5.frozen? ⟨w.heap.size, 0, none⟩ = false := free_in ((hb5.block _ hnlt).trans HX3.out) 0; rw [← HD2.out] at hR5; obtain ⟨A9, c9, rfl⟩ := Kd.R_slice hR5)
        | (refine step_rows kF (by rfl) _ _ _ 75 (by rfl) 0 i0 _ 64 Try.underlying26 hi0 hz0 hz1 hz2 rfl (by decide) (.slice (some ⟨w3.heap.size, 0, none⟩) 0 0) [] (l.take n) A n c (fun _ => True) (fun k => k < w3.heap.size) (by rfl) (by rfl) (Kd.R_drew (rows_nil w3 (fun _ => True) trivial)) (reads_take (rows_later HR3.out (hb1 _)) (Nat.le_of_lt hlt)) (fun k hk => ⟨trivial, fun h => Nat.lt_irrefl _ ((Option.some.inj h) ▸ hk)⟩) (fun _ _ => trivial) (Nat.zero_le _) hln1 hln2 ?_; intro v1 w4 hR4 hg4 hat4; have hb4 : Below w3.heap.size w3 w4 := pw_below_grown (hb1 _) _ (Nat.le_of_lt (hlt3 _)) hg4 hrow1; have k1 : w4.cell? ⟨w.heap.size, 0, none⟩ = some (.slice A l.length c) := cell_in ((hb4.block _ hnlt).trans HX3.out) 0; have hown5 : ∀ k, v1.ownBlock = some k → w3.heap.size ≤ k := fun k hk => row_new hat4 hk (Nat.le_of_lt (hlt3 _)); have hown4 : ∀ k, k < w3.heap.size → some k = v1.ownBlock → False := fun k hk h => Nat.lt_irrefl _ (Nat.lt_of_lt_of_le hk (hown5 k h.symm))))
      all_goals
        have HF := Lib.hid (show Kd.R kF 75 (w5.setCell ⟨w.heap.size, 0, none⟩ (.slice A9 (delL l nme).length c9)) 0 (fun _ => True) (.slice A9 (delL l nme).length c9) (delL l nme) from Kd.R_set hR5 ((hb5.block _ hnlt).trans HX3.out) (by decide) 0 _)
        have HX5 := Lib.hid (show (w5.setCell ⟨w.heap.size, 0, none⟩ (.slice A9 (delL l nme).length c9)).heap[w.heap.size]? = some (.cells #[.slice A9 (delL l nme).length c9, .int .i64 room, .slice none 0 0, .int .i64 next, .bool down] 29 (0, 0)) from blk_set ((hb5.block _ hnlt).trans HX3.out) 0 _)
        have HY5 := Lib.hid (show (w5.setCell ⟨w.heap.size, 0, none⟩ (.slice A9 (delL l nme).length c9)).heap[w.heap.size + 1]? = some (.cells #[.slice none 0 0, .int .i64 0, .slice none 0 0, .int .i64 0, .bool false] 29 (0, 0)) from (Below.heap_setCell _ _ _ _ (by show w.heap.size + 1 ≠ w.heap.size; omega)).trans ((hb5.block _ (blk_lt HY3.out)).trans HY3.out))
        have HB5 := Lib.hid (show Below w.heap.size w (w5.setCell ⟨w.heap.size, 0, none⟩ (.slice A9 (delL l nme).length c9)) from Below.setCell (HB3.out.trans (hb5.mono HB3.out.size)) (Nat.le_refl _) _)
        generalize w5.setCell ⟨w.heap.size, 0, none⟩ (.slice A9 (delL l nme).length c9) = w6 at HF HX5 HY5 HB5 ⊢
        generalize (if c = n1 then A else Option.map (fun x => x.add (n1 * 4)) A) = A2
        clear hR4 hg4 hat4 hb4 k1 hown5 hown4 hR5 hg5 hat5 hb5 k2 k3
        go_wp2_with fail
        go_meet
        exact ⟨_, HX5, HY5, HF, HB5⟩
  case rest =>
    obtain ⟨vf', HX, HY, HF, HB⟩ := hcut
    have x0 : wc.cell? ⟨w.heap.size, 0, none⟩ = some vf' := cell_in HX.out 0
    have x1 : wc.cell? ⟨w.heap.size, 1, none⟩ = some (.int .i64 room) := cell_in HX.out 1
    have x2 : wc.cell? ⟨w.heap.size, 2, none⟩ = some (.slice none 0 0) := cell_in HX.out 2
    have x3 : wc.cell? ⟨w.heap.size, 3, none⟩ = some (.int .i64 next) := cell_in HX.out 3
    have x4 : wc.cell? ⟨w.heap.size, 4, none⟩ = some (.bool down) := cell_in HX.out 4
    have z0 : wc.cell? ⟨w.heap.size + 1, 0, none⟩ = some (.slice none 0 0) := cell_in HY.out 0
    have z1 : wc.cell? ⟨w.heap.size + 1, 1, none⟩ = some (.int .i64 0) := cell_in HY.out 1
    have z2 : wc.cell? ⟨w.heap.size + 1, 2, none⟩ = some (.slice none 0 0) := cell_in HY.out 2
    have z3 : wc.cell? ⟨w.heap.size + 1, 3, none⟩ = some (.int .i64 0) := cell_in HY.out 3
    have z4 : wc.cell? ⟨w.heap.size + 1, 4, none⟩ = some (.bool false) := cell_in HY.out 4
    have fz2 := free_in HY.out
    obtain ⟨A9, c9, rfl⟩ := Kd.R_slice HF.out
    clear y0 fz
    go_wp2_with fail
    refine bodyPost_ret (results_cell_row rfl _ _ (w.heap.size + 1) 29 #[.slice A9 (delL l nme).length c9, .int .i64 room, .slice none 0 0, .int .i64 next, .bool down] (0, 0) _ rfl (blk_set (blk_set (blk_set (blk_set (blk_set HY.out 0 _) 1 _) 2 _) 3 _) 4 _) Try.underlying29 rfl (by kernel_rfl)) rfl ?_
    refine ⟨_, rfl, ?_, ?_⟩
    · exact R_sets HF.out HY.out (by decide) [(0, _), (1, _), (2, _), (3, _), (4, _)]
    · exact below_sets HB.out (Nat.le_succ _) [(0, _), (1, _), (2, _), (3, _), (4, _)]
end Go.Proofs.YtcongfiojbajeaaK
