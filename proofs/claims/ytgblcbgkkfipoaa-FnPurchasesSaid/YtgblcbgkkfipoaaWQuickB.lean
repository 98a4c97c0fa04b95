/-
  Short words for what a printed walk says often: a fact over what was made and drawn since; what a tactic finds by itself.
-/
import Derived.Test.YtgblcbgkkfipoaaWApart
import Derived.Test.YtgblcbgkkfipoaaWTab
import Derived.Test.YtgblcbgkkfipoaaWLast
namespace Go.Proofs.YtgblcbgkkfipoaaW.PrintWords
set_option linter.unusedVariables false
open Go Go.RowKit Go.Proofs.YtgblcbgkkfipoaaW.PrintLast
def bq (n m : Nat) : Array Bool := ((List.range n).map (fun i => m.testBit i)).toArray
theorem qB {w W W2 : World} (h : Aside0 (Below w.heap.size w W)) (u : Below w.heap.size w W2 := by
    repeat (first | (with_reducible first | exact Aside0.out (by assumption) | apply below_alloc | apply pw_below_drewN | apply below_drew1) | exact Aside0.out (by assumption))) : Below w.heap.size w W2 := u
theorem qT {w W W2 : World} {g : Nat} (h : Aside0 (Below w.heap.size w W)) (k : Aside0 (w.heap.size ≤ g)) (u : Below w.heap.size w W2 := by
    repeat (first | (with_reducible first | exact Aside0.out (by assumption) | apply below_alloc | apply pw_below_drewN | apply below_drew1 | refine below_set ?_ (Aside0.out (by assumption))) | exact Aside0.out (by assumption))) : Below w.heap.size w W2 := u
theorem qU {w W W2 : World} (h : Aside0 (Below w.heap.size w W)) (u : Below w.heap.size w W2 := by
    repeat (first | (with_reducible first | exact Aside0.out (by assumption) | apply below_alloc | apply pw_below_drewN | apply below_drew1 | refine below_set ?_ (Aside0.out (by assumption))) | exact Aside0.out (by assumption))) : Below w.heap.size w W2 := u
theorem qP {w W W2 : World} {g : Nat} {row : Option Nat} (h : Aside0 (KeepBut w W g row)) (u : KeepBut w W2 g row := by
    repeat (first | (with_reducible first | exact Aside0.out (by assumption) | apply KeepBut.set_ | apply keep_drewN | apply keep_drew | apply keep_alloc | refine keep_far ?_ (Aside0.out (by assumption)) _) | exact Aside0.out (by assumption))) : KeepBut w W2 g row := u
section
variable {α : Type} {d : Kd α} {e base : Nat} {w w' : World} {ok : Nat → Prop} {v : Value} {xs : List α} {A : Option Addr} {n : Nat}
theorem uR (h : d.R e w base ok v xs) (u : Below w.heap.size w w' := by (with_reducible repeat (first | exact Below.refl _ _ | apply below_alloc | apply pw_below_drewN | apply below_drew1)); first | done | exact Below.refl _ _) : d.R e w' base ok v xs := Kd.R_below h u
theorem qR (h : Aside0 (d.R e w base ok v xs)) (u : Below w.heap.size w w' := by (with_reducible repeat (first | exact Below.refl _ _ | apply below_alloc | apply pw_below_drewN | apply below_drew1)); first | done | exact Below.refl _ _) : d.R e w' base ok v xs := Kd.R_below h.out u
theorem uC (h : d.C w A n xs) (u : Below w.heap.size w w' := by (with_reducible repeat (first | exact Below.refl _ _ | apply below_alloc | apply pw_below_drewN | apply below_drew1)); first | done | exact Below.refl _ _) : d.C w' A n xs := Kd.C_below h u
theorem uS (h : d.S e w base ok v xs) (u : Below w.heap.size w w' := by (with_reducible repeat (first | exact Below.refl _ _ | apply below_alloc | apply pw_below_drewN | apply below_drew1)); first | done | exact Below.refl _ _) : d.S e w' base ok v xs := Kd.S_below h u
theorem qS (h : Aside0 (d.S e w base ok v xs)) (u : Below w.heap.size w w' := by (with_reducible repeat (first | exact Below.refl _ _ | apply below_alloc | apply pw_below_drewN | apply below_drew1)); first | done | exact Below.refl _ _) : d.S e w' base ok v xs := Kd.S_below h.out u
end
theorem qK {w w' : World} {g : Nat} {o : Obj} (h : Aside0 (w.heap[g]? = some o)) (u : Below w.heap.size w w' := by (with_reducible repeat (first | exact Below.refl _ _ | apply below_alloc | apply pw_below_drewN | apply below_drew1)); first | done | exact Below.refl _ _) : w'.heap[g]? = some o := blk_below h.out u
theorem qA {α : Type} {a b : α} (h : a = b := by (try simp only [List.map_toArray, List.map_cons, List.map_nil]); first | done | rfl | (simp only [List.length_drop, List.length_take]; rfl)) : a = b := h
theorem qW {w : World} {p : Addr} {v : Value} (h : w.cell? p = some v) {b : Nat} (e : p.block = b := by first | rfl | exact add_block _ _) : b < w.heap.size := e ▸ World.block_lt_of_cell? _ _ h
theorem qa {p : Prop} (h : p := by first | (with_reducible assumption) | assumption) : p := h
theorem qs {p : Prop} (h : p := by first | rfl | (simp; done) | (simp [*]; done)) : p := h
theorem qe {p : Prop} (h : p := by first | rfl | (simp [errW_none, errW_some] <;> rfl) | (simp [*, errW_none, errW_some] <;> rfl)) : p := h
theorem qn {md : Region.Mode} {ops : Array Oper} {T : Bool × List (List Nat × List Nat)} {l l' : Array Bool} {i : Nat} (hT : Aside0 (rtab md ops = T)) (h : anyT T l.toList l'.toList i = true := by kernel_rfl) : anyB md ops l l' i = true := any_of hT.out h
theorem qo {md : Region.Mode} {ops : Array Oper} {T : Bool × List (List Nat × List Nat)} {l l' : Array Bool} {i : Nat} (hT : Aside0 (rtab md ops = T)) (h : (readyT T.2 l.toList == [i] && l.toList.set i true == l'.toList) = true := by kernel_rfl) : readyB md ops l l' i = true := one_of hT.out h
end Go.Proofs.YtgblcbgkkfipoaaW.PrintWords
