/- Drawn regions whose operations read and whose calls leave what lies there: one walk, in the order of the text, serves every order. Conditions: none. -/
import Derived.BigQuiet
import Derived.Below
import Derived.WalkKit
namespace Go.Proofs.YtcongfiojbajeaaT
open Go Go.RowKit
set_option linter.unusedVariables false
/-- A world that came behind w, in which all that w had lies as it lay. -/
structure Aft (w : World) where
  out : World
  below : Below w.heap.size w out
instance (w : World) : Nonempty (Aft w) := ⟨⟨w, Below.refl _ _⟩⟩
theorem Aft.cell {w : World} (n : Aft w) {b j : Nat} {cells : Array Value} {t : Nat} {o : Nat × Nat} (h : w.heap[b]? = some (.cells cells t o)) : n.out.heap[b]? = some (.cells cells t o) :=
  (n.below.block b (by
    rcases Nat.lt_or_ge b w.heap.size with h1 | h1
    · exact h1
    · rw [Array.getElem?_eq_none h1] at h; cases h)).trans h
theorem Aft.old {w : World} {p : Addr} {v : Value} (h : w.cell? p = some v) (n : Aft w) : n.out.cell? p = some v := (n.below.cell (World.block_lt_of_cell? w p h)).trans h
section
variable {P : Program}
theorem region_aft {id : Nat} {Q : Exit → Act → World → Prop} {a : Act} {w : World} {l : List Oper} (hm : P.follows .mixedOrders = true) (hB : Region.lexB .any l.toArray = true)
    (h : wpQuiet P l.toArray (fun w' => ∃ n : Aft w, w' = n.out) (fun a' => ∀ w', (∃ n : Aft w, w' = n.out) → Q .normal a' w') l a) : (Code.region id l.toArray true).wp P Q a w :=
  wp_region_quiet (C := fun w' => ∃ n : Aft w, w' = n.out) hm hB ⟨⟨_, (Below.refl w.heap.size w).drew⟩, rfl⟩ (by simpa using h)
/-- The same, begun in a world behind w. -/
theorem region_aft2 {id : Nat} {Q : Exit → Act → World → Prop} {a : Act} {w : World} {n : Aft w} {l : List Oper} (hm : P.follows .mixedOrders = true) (hB : Region.lexB .any l.toArray = true)
    (h : wpQuiet P l.toArray (fun w' => ∃ n : Aft w, w' = n.out) (fun a' => ∀ w', (∃ n : Aft w, w' = n.out) → Q .normal a' w') l a) : (Code.region id l.toArray true).wp P Q a n.out :=
  wp_region_quiet (C := fun w' => ∃ n : Aft w, w' = n.out) hm hB ⟨⟨_, n.below.drew⟩, rfl⟩ (by simpa using h)
theorem calls_aft {f : FuncId} {args : Array Value} {w : World} {n : Aft w} {v : Value}
    (h : Calls P f args n.out fun e w'' => e = .returned v ∧ Below n.out.heap.size n.out w'') : Calls P f args n.out fun e w'' => e = .returned v ∧ ∃ m : Aft w, w'' = m.out :=
  h.mono fun _ w'' ⟨he, hb⟩ => ⟨he, ⟨w'', n.below.trans (hb.mono n.below.size)⟩, rfl⟩
theorem calls_aft_same {f : FuncId} {args : Array Value} {w : World} {n : Aft w} {v : Value}
    (h : Calls P f args n.out fun e w'' => e = .returned v ∧ w'' = n.out) : Calls P f args n.out fun e w'' => e = .returned v ∧ ∃ m : Aft w, w'' = m.out :=
  h.mono fun _ w'' ⟨he, hb⟩ => ⟨he, n, hb⟩
end
end Go.Proofs.YtcongfiojbajeaaT
