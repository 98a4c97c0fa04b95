/-
  Rounds: what a printed loop answers if it has enough of them. Plain Lean, no program.
-/
import Derived.Test.YtgblcbgkkfipoaaWWords
namespace Go.Proofs.YtgblcbgkkfipoaaW.Evs
open Go.RowKit Go.Proofs.YtgblcbgkkfipoaaW.PrintWords
theorem w64 {n : Int} (h1 : -9223372036854775808 ≤ n) (h2 : n ≤ 9223372036854775807) : wrap64 n = n := by unfold wrap64; omega
theorem wsucc {i : Nat} (h : i < 9223372036854775807) : wrap64 ((i : Int) + 1) = ((i + 1 : Nat) : Int) := by unfold wrap64; omega
theorem Ev.succ {α : Type} {g : Nat → Option α} {r : α} (h : Ev (fun k => g (k + 1)) r) : Ev g r := Ev.step (fun _ => rfl) h
theorem ev_some {α : Type} {a b : α} (h : a = b) : Ev (fun _ => some a) b := ⟨0, fun _ _ => by rw [h]⟩
theorem ev_eq {α : Type} {g : Nat → Option α} {a b : α} (h : Ev g a) (e : a = b) : Ev g b := e ▸ h
/-- Steps i, i + 1, .. of a loop without an early end. -/
def upto {σ : Type} (g : Nat → σ → σ) : Nat → Nat → σ → σ
  | 0, _, s => s
  | m + 1, i, s => upto g m (i + 1) (g i s)
theorem upto_inv {σ : Type} {g : Nat → σ → σ} {Inv : Nat → σ → Prop} {n : Nat} (h : ∀ i s, i < n → Inv i s → Inv (i + 1) (g i s)) : ∀ m i s, i + m = n → Inv i s → Inv n (upto g m i s)
  | 0, i, s, e, hs => by have : i = n := by omega
                         subst this; exact hs
  | m + 1, i, s, e, hs => upto_inv h m (i + 1) (g i s) (by omega) (h i s (by omega) hs)
theorem ev_for {σ ρ : Type} (F : Nat → σ → Int → Option ρ) (n : Nat) (g : Nat → σ → σ) (Inv : Nat → σ → Prop) (fin : σ → ρ)
    (hstep : ∀ (i : Nat) (s : σ), i < n → Inv i s → Inv (i + 1) (g i s) ∧ ∀ r, Ev (fun k => F k (g i s) ((i + 1 : Nat) : Int)) r → Ev (fun k => F k s (i : Int)) r)
    (hfin : ∀ s, Inv n s → Ev (fun k => F k s (n : Int)) (fin s)) : ∀ m i s, i + m = n → Inv i s → Ev (fun k => F k s (i : Int)) (fin (upto g m i s))
  | 0, i, s, e, hs => by
    have : i = n := by omega
    subst this
    exact hfin s hs
  | m + 1, i, s, e, hs => by
    obtain ⟨h1, h2⟩ := hstep i s (by omega) hs
    exact h2 _ (ev_for F n g Inv fin hstep hfin m (i + 1) (g i s) (by omega) h1)
theorem ev_for_to {σ ρ : Type} (F : Nat → σ → Int → Option ρ) (n : Nat) (g : Nat → σ → σ) (Inv : Nat → σ → Prop)
    (hstep : ∀ (i : Nat) (s : σ), i < n → Inv i s → Inv (i + 1) (g i s) ∧ ∀ r, Ev (fun k => F k (g i s) ((i + 1 : Nat) : Int)) r → Ev (fun k => F k s (i : Int)) r) :
    ∀ m i s, i + m = n → Inv i s → ∀ r, Ev (fun k => F k (upto g m i s) (n : Int)) r → Ev (fun k => F k s (i : Int)) r
  | 0, i, s, e, hs, r, hr => by
    have : i = n := by omega
    subst this
    exact hr
  | m + 1, i, s, e, hs, r, hr => by
    obtain ⟨h1, h2⟩ := hstep i s (by omega) hs
    exact h2 _ (ev_for_to F n g Inv hstep m (i + 1) (g i s) (by omega) h1 r hr)
/-- Does p hold from i on, m times. -/
def allFrom (p : Nat → Bool) : Nat → Nat → Bool
  | 0, _ => true
  | m + 1, i => p i && allFrom p m (i + 1)
theorem allFrom_iff {p : Nat → Bool} : ∀ {m i : Nat}, allFrom p m i = true ↔ ∀ j, i ≤ j → j < i + m → p j = true
  | 0, i => by simp [allFrom]; omega
  | m + 1, i => by
    rw [allFrom, Bool.and_eq_true, allFrom_iff]
    constructor
    · rintro ⟨h1, h2⟩ j hj hj2
      rcases Nat.lt_or_ge i j with h | h
      · exact h2 j (by omega) (by omega)
      · have : j = i := by omega
        subst this; exact h1
    · intro h
      exact ⟨h i (by omega) (by omega), fun j hj hj2 => h j (by omega) (by omega)⟩
theorem ev_all {ρ : Type} (F : Nat → Int → Option ρ) (n : Nat) (p : Nat → Bool) (no yes : ρ)
    (hyes : ∀ i : Nat, i < n → p i = true → ∀ r, Ev (fun k => F k ((i + 1 : Nat) : Int)) r → Ev (fun k => F k (i : Int)) r)
    (hno : ∀ i : Nat, i < n → p i = false → Ev (fun k => F k (i : Int)) no) (hfin : Ev (fun k => F k (n : Int)) yes) :
    ∀ m i, i + m = n → Ev (fun k => F k (i : Int)) (if allFrom p m i = true then yes else no)
  | 0, i, e => by
    have : i = n := by omega
    subst this
    exact hfin
  | m + 1, i, e => by
    cases hp : p i with
    | true =>
      have := hyes i (by omega) hp _ (ev_all F n p no yes hyes hno hfin m (i + 1) (by omega))
      simpa [allFrom, hp] using this
    | false => simpa [allFrom, hp] using hno i (by omega) hp
theorem rd_at {xs : List Int} {i : Nat} (h : i < xs.length) : rd xs (i : Int) = xs[i] := by simp [rd, h]
end Go.Proofs.YtgblcbgkkfipoaaW.Evs
