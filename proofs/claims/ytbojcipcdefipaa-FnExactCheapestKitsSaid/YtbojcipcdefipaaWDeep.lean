/-
  A row of rows that is handed to what writes it, and is not read again: what stays beside it.
-/
import Derived.Test.YtbojcipcdefipaaWKept
import Derived.Test.YtbojcipcdefipaaWApart
import Derived.Laws.EntriesVeiled
namespace Go.Proofs.YtbojcipcdefipaaW.PrintWords
/-- The blocks that may be turned: those of a predicate that hold a row of one of these types at a world. -/
def Rowy (P : Nat → Prop) (L : List Nat) (W : World) (k : Nat) : Prop := P k ∧ ∃ q, q ∈ L ∧ ∃ cells, W.heap[k]? = some (.cells cells q (0, 0))
theorem blk_keptT {P : Nat → Prop} {L : List Nat} {W W2 : World} {g t : Nat} {cs : Array Value} (hb : W.heap[g]? = some (.cells cs t (0, 0))) (hk : Kept W W2 (Rowy P L W)) (hd : ∀ q, q ∈ L → q ≠ t) : W2.heap[g]? = some (.cells cs t (0, 0)) :=
  blk_kept hb hk (fun hs => by
    obtain ⟨_, q, hq, cells, hc⟩ := hs
    rw [hb] at hc
    injection hc with hc
    injection hc with _ hc
    exact hd q hq hc.symm)
/-- An element of a list of rows. -/
def rdRow (xs : List (List Int)) (i : Int) : List Int := xs.getD i.toNat []
namespace Kd
section
variable {α : Type} {d : Kd α} {e : Nat} {W W2 : World} {base : Nat} {ok P : Nat → Prop} {L : List Nat} {v : Value} {xs : List α}
theorem apartT (hd : ∀ q, q ∈ e :: d.E → ∀ q', q' ∈ L → q ≠ q') {k : Nat} (h : ∃ q, q ∈ e :: d.E ∧ ∃ cells, W.heap[k]? = some (.cells cells q (0, 0))) : ¬ Rowy P L W k := by
  rintro ⟨_, q', hq', cells', hc'⟩
  obtain ⟨q, hq, cells, hc⟩ := h
  rw [hc] at hc'
  injection hc' with hc'
  injection hc' with _ hc'
  exact hd q hq q' hq' hc'
theorem R_keptT (h : d.R e W base ok v xs) (hk : Kept W W2 (Rowy P L W)) (hd : ∀ q, q ∈ e :: d.E → ∀ q', q' ∈ L → q ≠ q') : d.R e W2 base ok v xs :=
  R_mono (R_kept (R_bound h) hk (fun _ hb => apartT hd hb.2.2.2)) (fun _ hb => hb.1)
theorem S_keptT (h : Kd.S d e W base ok v xs) (hk : Kept W W2 (Rowy P L W)) (hd : ∀ q, q ∈ e :: d.E → ∀ q', q' ∈ L → q ≠ q') : Kd.S d e W2 base ok v xs :=
  S_mono (S_kept (S_bound h) hk (fun _ hb => apartT hd hb.2.2.2)) (fun _ hb => hb.1)
theorem R_reok0 (h0 : d.R e W base ok v xs) (h : d.R e W2 base (fun k => some k = v.ownBlock) v xs) : d.R e W2 base ok v xs := R_mono h (fun k hk => h0.1 k hk.symm)
theorem R_keptO (hE : d.E = []) (h : d.R e W base ok v xs) (hk : Kept W W2 (Rowy P L W)) (hne : ∀ k, P k → some k ≠ v.ownBlock) : d.R e W2 base ok v xs :=
  R_reok0 h (R_kept (R_tight hE h) hk (fun k hb hs => hne k hs.1 hb))
/-- An element that was lent to a call comes back. -/
theorem S_backK {α : Type} {d : Kd α} {e : Nat} {W W2 : World} {base : Nat} {ok oki : Nat → Prop} {v : Value} {xs : List α} {i : Int} {c : List Value} {x' : α} (hH : Kd.H d e W base ok v xs i oki c) (hk : Kept W W2 oki)
    (hM : d.M W2 base (fun k => oki k ∨ W.heap.size ≤ k) x' c) (hok : ∀ k, W.heap.size ≤ k → ok k) : Kd.S d e W2 base ok v (xs.set i.toNat x') :=
  Kd.H_back (Kd.H_kept (Kd.H_widen hH) hk (fun _ _ hn hs => hn (.inl hs))) hM (fun k h => h.imp id (fun h => ⟨hok k h, h⟩))
/-- What a row of rows leads to, told by types, too. -/
theorem S_rowy (h : Kd.S d e W base ok v xs) : Kd.S d e W base (Rowy ok (e :: d.E) W) v xs := S_mono (S_bound h) (fun _ hb => ⟨hb.1, hb.2.2.2⟩)
end
theorem R_emptyLit {α : Type} (d : Kd α) (W : World) (base e : Nat) (ok : Nat → Prop) (hb : base ≤ W.heap.size) (hok : ok W.heap.size) : d.R e (W.alloc (.cells #[] e)) base ok (.slice (some ⟨W.heap.size, 0, none⟩) 0 0) [] := by
  refine ⟨fun k hk => ?_, [], ?_, Reps.none _ _⟩
  · have : W.heap.size = k := by simpa [Value.ownBlock] using hk
    subst this; exact hok
  · have h2 := World.ownsRow_lit (base := base) (e := e) (size := d.sz) W #[] 0 hb (by simp [maxLen]) (by simp)
    simpa using h2
theorem S_emptyLit {α : Type} (d : Kd α) (W : World) (base e : Nat) (ok : Nat → Prop) (hb : base ≤ W.heap.size) (hok : ok W.heap.size) : Kd.S d e (W.alloc (.cells #[] e)) base ok (.slice (some ⟨W.heap.size, 0, none⟩) 0 0) [] := ⟨fun _ => 0, R_emptyLit (tag (fun _ => 0) d) W base e ok hb hok⟩
theorem typed_ne {α β : Type} {d : Kd α} {d' : Kd β} {e e' : Nat} {w : World} {b b' : Nat} {ok ok' : Nat → Prop} {v v' : Value} {xs : List α} {ys : List β} (h : d.R e w b ok v xs) (h' : d'.R e' w b' ok' v' ys) (hne : e ≠ e') {k : Nat} (hk : v.ownBlock = some k) : v'.ownBlock ≠ some k := by
  intro hk'
  obtain ⟨c, hc⟩ := R_typed h k hk
  obtain ⟨c', hc'⟩ := R_typed h' k hk'
  rw [hc] at hc'
  injection hc' with hc'
  injection hc' with _ hc'
  exact hne hc'
end Kd
end Go.Proofs.YtbojcipcdefipaaW.PrintWords
