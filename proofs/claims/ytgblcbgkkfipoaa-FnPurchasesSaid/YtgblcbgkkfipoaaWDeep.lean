/-
  A row of rows that is handed to what writes it, and is not read again: what stays beside it.
-/
import Derived.Test.YtgblcbgkkfipoaaWKept
import Derived.Test.YtgblcbgkkfipoaaWApart
import Derived.Laws.EntriesVeiled
namespace Go.Proofs.YtgblcbgkkfipoaaW.PrintWords
/-- An element of a list of rows. -/
def rdRow (xs : List (List Int)) (i : Int) : List Int := xs.getD i.toNat []
namespace Kd
section
variable {α : Type} {d : Kd α} {e : Nat} {W W2 : World} {base : Nat} {ok P : Nat → Prop} {L : List Nat} {v : Value} {xs : List α}
end
theorem R_emptyLit {α : Type} (d : Kd α) (W : World) (base e : Nat) (ok : Nat → Prop) (hb : base ≤ W.heap.size) (hok : ok W.heap.size) : d.R e (W.alloc (.cells #[] e)) base ok (.slice (some ⟨W.heap.size, 0, none⟩) 0 0) [] := by
  refine ⟨fun k hk => ?_, [], ?_, Reps.none _ _⟩
  · have : W.heap.size = k := by simpa [Value.ownBlock] using hk
    subst this; exact hok
  · have h2 := World.ownsRow_lit (base := base) (e := e) (size := d.sz) W #[] 0 hb (by simp [maxLen]) (by simp)
    simpa using h2
theorem S_emptyLit {α : Type} (d : Kd α) (W : World) (base e : Nat) (ok : Nat → Prop) (hb : base ≤ W.heap.size) (hok : ok W.heap.size) : Kd.S d e (W.alloc (.cells #[] e)) base ok (.slice (some ⟨W.heap.size, 0, none⟩) 0 0) [] := ⟨fun _ => 0, R_emptyLit (tag (fun _ => 0) d) W base e ok hb hok⟩
theorem typed_ne {α β : Type} {d : Kd α} {d' : Kd β} {e e' : Nat} {w : World} {b b' : Nat} {ok ok' : Nat → Prop} {v v' : Value} {xs : List α} {ys : List β} (h : d.R e w b ok v xs) (h' : d'.R e' w b' ok' v' ys) (hne : e ≠ e') {k : Nat} (hk : v.ownBlock = some k) : v'.ownBlock ≠ some k := by
  intro hk'
  obtain ⟨c, hc⟩ := R_typed h k hk
  obtain ⟨c', hc'⟩ := R_typed h' k hk'
  rw [hc] at hc'
  injection hc' with hc'
  injection hc' with _ hc'
  exact hne hc'
end Kd
end Go.Proofs.YtgblcbgkkfipoaaW.PrintWords
